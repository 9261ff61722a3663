/-
  A row and its reference, whatever they hold: each call with one answer.
-/
import Derived.Test.YtfpigcjhonfcjaaRingR
namespace Go.Proofs.Ytfpigcjhonfcjaa
open Go.RowKit
attribute [local go_sem] max_ints min_ints

def RSt (w : World) (g d room : Nat) (l : List Int) : Prop := ∃ arr first n, RingI w g d arr first n ∧ IsList arr first n (intVals l) ∧ arr.size = room

theorem RSt.upd {w w' : World} {S : Nat → Prop} {g d room : Nat} {l : List Int} (h : RSt w g d room l) (hu : Upd S w w') (hg : ¬ S g) (hd : ¬ S d) : RSt w' g d room l := by
  obtain ⟨arr, first, n, h1, h2⟩ := h
  exact ⟨arr, first, n, h1.upd hu hg hd, h2⟩
theorem RSt.drewN {w : World} {g d room : Nat} {l : List Int} (h : RSt w g d room l) (k : Nat) : RSt (w.drewN k) g d room l := h.upd ((Upd.refl (fun _ => False) w).drewN k) (fun h => h) (fun h => h)
theorem RSt.lt {w : World} {g d room : Nat} {l : List Int} (h : RSt w g d room l) : g < w.heap.size ∧ d < w.heap.size := by
  obtain ⟨arr, first, n, h1, _⟩ := h
  exact ⟨h1.st.lt, h1.ar.lt⟩
theorem RSt.room {w : World} {g d room : Nat} {l : List Int} (h : RSt w g d room l) : room ≤ 4096 ∧ l.length ≤ room := by
  obtain ⟨arr, first, n, h1, h2, h3⟩ := h
  have := h2.1
  have h4 := h1.hn
  have h5 := h1.hs
  simp [intVals] at this
  omega

def pushB (room : Nat) (l : List Int) : Bool := decide (l.length < room)
def pushL (room : Nat) (l : List Int) (x : Int) : List Int := if l.length < room then l ++ [x] else l
def inB (l : List Int) (i : Int) : Bool := decide (0 ≤ i ∧ i < l.length)
def putL (l : List Int) (i x : Int) : List Int := if 0 ≤ i ∧ i < l.length then l.set i.toNat x else l
def atL (l : List Int) (i : Int) : Int := if 0 ≤ i ∧ i < l.length then l[i.toNat]?.getD 0 else 0
def popX (l : List Int) : Int := l.headD 0
def popB (l : List Int) : Bool := decide (0 < l.length)

theorem pushI_any (w : World) (g d room : Nat) (l : List Int) (h : RSt w g d room l) (x : Int) (b : Bool) (hb : pushB room l = b) (l' : List Int) (hl' : pushL room l x = l') :
    Calls Try.prog 32 #[.pointer (some ⟨g, 0, none⟩), .int .i64 x] w fun e w' => e = .returned (.bool b) ∧ RSt w' g d room l' ∧ Upd (fun k => k = g ∨ k = d) w w' := by
  subst hb hl'
  obtain ⟨arr, first, n, h1, h2, h3⟩ := h
  have hn : l.length = n := by have := h2.1; simpa [intVals] using this
  unfold pushB pushL
  by_cases hlt : l.length < room
  · rw [if_pos hlt, decide_eq_true hlt]
    refine (pushI_yes w g d arr first n h1 x _ (by omega) rfl).mono ?_
    rintro e w' ⟨rfl, h4, h5⟩
    refine ⟨rfl, ⟨_, first, n + 1, h4, ?_, by simpa using h3⟩, h5⟩
    have := h2.push (by omega) rfl (.int .i64 x)
    simpa [intVals] using this
  · rw [if_neg hlt, decide_eq_false hlt]
    have := h1.hn
    refine (pushI_no w g d arr first n h1 x (by omega)).mono ?_
    rintro e w' ⟨rfl, k, rfl⟩
    exact ⟨rfl, ⟨arr, first, n, h1.drewN k, h2, h3⟩, (Upd.refl _ _).drewN k⟩

theorem popI_any (w : World) (g d room : Nat) (l : List Int) (h : RSt w g d room l) (x : Int) (hx : popX l = x) (b : Bool) (hb : popB l = b) (l' : List Int) (hl' : l.tail = l') :
    Calls Try.prog 34 #[.pointer (some ⟨g, 0, none⟩)] w fun e w' => e = .returned (.tuple #[.int .i64 x, .bool b]) ∧ RSt w' g d room l' ∧ Upd (fun k => k = g ∨ k = d) w w' := by
  subst hx hb hl'
  obtain ⟨arr, first, n, h1, h2, h3⟩ := h
  have hn : l.length = n := by have := h2.1; simpa [intVals] using this
  unfold popX popB
  cases l with
  | nil =>
    refine (popI_no w g d arr first n h1 (by simpa using hn.symm)).mono ?_
    rintro e w' ⟨rfl, k, rfl⟩
    exact ⟨rfl, ⟨arr, first, n, h1.drewN k, h2, h3⟩, (Upd.refl _ _).drewN k⟩
  | cons y t =>
    have hlen : t.length + 1 = n := by simpa using hn
    have h4 := h1.hn
    have hf := h1.hl (by omega)
    have h2' : IsList arr first n (.int .i64 y :: intVals t) := h2
    refine (popI_yes w g d arr first n h1 y _ (by omega) (h2'.head hf) rfl).mono ?_
    rintro e w' ⟨rfl, h5, h6⟩
    exact ⟨by simp, ⟨_, _, _, h5, h2'.pop hf h4 rfl, by simpa using h3⟩, h6⟩

theorem IsList.set_ {arr : Array Value} {first n m : Nat} {l : List Value} (h : IsList arr first n l) (i : Nat) (hi : i < n) (hn : n ≤ arr.size) (hm : (first + i) % arr.size = m) (u : Value) :
    IsList (arr.setIfInBounds m u) first n (l.set i u) := by
  refine ⟨by simpa using h.1, fun j v hv => ?_⟩
  have hmlt : m < arr.size := by rw [← hm]; exact Nat.mod_lt _ (by omega)
  rw [Array.size_setIfInBounds]
  have hj : j < n := by
    have := (List.getElem?_eq_some_iff.1 hv).1
    rw [List.length_set, h.1] at this
    exact this
  by_cases e : j = i
  · subst e
    rw [hm, Array.getElem?_setIfInBounds_self_of_lt hmlt]
    rw [List.getElem?_set_self (by rw [h.1]; exact hi)] at hv
    exact hv
  · rw [List.getElem?_set_ne (fun g => e g.symm)] at hv
    rw [Array.getElem?_setIfInBounds_ne, h.2 j v hv]
    intro g
    apply e
    rw [← hm] at g
    have h1 := Nat.mod_add_div (first + i) arr.size
    have h2 := Nat.mod_add_div (first + j) arr.size
    rw [g] at h1
    have h3 : arr.size * ((first + i) / arr.size) < arr.size * ((first + j) / arr.size) + arr.size ∧ arr.size * ((first + j) / arr.size) < arr.size * ((first + i) / arr.size) + arr.size := by omega
    have h4 : (first + i) / arr.size = (first + j) / arr.size := by
      have a := h3.1
      have b := h3.2
      rw [← Nat.mul_succ] at a b
      have a' := Nat.lt_of_mul_lt_mul_left a
      have b' := Nat.lt_of_mul_lt_mul_left b
      omega
    rw [h4] at h1
    omega

theorem setI_any (w : World) (g d room : Nat) (l : List Int) (h : RSt w g d room l) (i x : Int) (b : Bool) (hb : inB l i = b) (l' : List Int) (hl' : putL l i x = l') :
    Calls Try.prog 36 #[.pointer (some ⟨g, 0, none⟩), .int .i64 i, .int .i64 x] w fun e w' => e = .returned (.bool b) ∧ RSt w' g d room l' ∧ Upd (fun k => k = g ∨ k = d) w w' := by
  subst hb hl'
  obtain ⟨arr, first, n, h1, h2, h3⟩ := h
  have hn : l.length = n := by have := h2.1; simpa [intVals] using this
  unfold inB putL
  by_cases hc : 0 ≤ i ∧ i < l.length
  · rw [if_pos hc, decide_eq_true hc]
    obtain ⟨i', rfl⟩ := Int.eq_ofNat_of_zero_le hc.1
    have h4 := h1.hn
    refine (setI_yes w g d arr first n h1 i' x ((first + i') % arr.size) hc.1 (by omega) (by push_cast; rfl)).mono ?_
    rintro e w' ⟨rfl, h5, h6⟩
    refine ⟨rfl, ⟨_, first, n, h5, ?_, by simpa using h3⟩, h6⟩
    have := h2.set_ i' (by omega) h4 rfl (.int .i64 x)
    simpa [intVals, List.map_set] using this
  · rw [if_neg hc, decide_eq_false hc]
    refine (setI_no w g d arr first n h1 i x (by omega)).mono ?_
    rintro e w' ⟨rfl, k, rfl⟩
    exact ⟨rfl, ⟨arr, first, n, h1.drewN k, h2, h3⟩, (Upd.refl _ _).drewN k⟩

theorem atI_any (w : World) (g d room : Nat) (l : List Int) (h : RSt w g d room l) (i x : Int) (hx : atL l i = x) (b : Bool) (hb : inB l i = b) :
    Calls Try.prog 39 #[.pointer (some ⟨g, 0, none⟩), .int .i64 i] w fun e w' => e = .returned (.tuple #[.int .i64 x, .bool b]) ∧ ∃ k, w' = w.drewN k := by
  subst hx hb
  obtain ⟨arr, first, n, h1, h2, h3⟩ := h
  have hn : l.length = n := by have := h2.1; simpa [intVals] using this
  unfold inB atL
  by_cases hc : 0 ≤ i ∧ i < l.length
  · rw [if_pos hc, decide_eq_true hc]
    obtain ⟨i', rfl⟩ := Int.eq_ofNat_of_zero_le hc.1
    have hi : i' < l.length := by omega
    have e : l[(i' : Int).toNat]?.getD 0 = l[i'] := by simp [hi]
    rw [e]
    exact atI_yes w g d arr first n h1 i' ((first + i') % arr.size) l[i'] hc.1 (by omega) (by push_cast; rfl) (h2.2 i' _ (by simp [intVals, hi]))
  · rw [if_neg hc, decide_eq_false hc]
    exact atI_no w g d arr first n h1 i (by omega)

theorem clearI_any (w : World) (g d room : Nat) (l : List Int) (h : RSt w g d room l) :
    Calls Try.prog 38 #[.pointer (some ⟨g, 0, none⟩)] w fun e w' => e = .returned (.tuple #[]) ∧ RSt w' g d room [] ∧ Upd (fun k => k = g ∨ k = d) w w' := by
  obtain ⟨arr, first, n, h1, h2, h3⟩ := h
  refine (clearI w g d arr first n h1).mono ?_
  rintro e w' ⟨rfl, h4, h5⟩
  exact ⟨rfl, ⟨_, 0, 0, h4, IsList.nil _ _, by simpa using h3⟩, h5⟩

theorem lenI_any (w : World) (g d room : Nat) (l : List Int) (h : RSt w g d room l) :
    Calls Try.prog 41 #[.pointer (some ⟨g, 0, none⟩)] w fun e w' => e = .returned (.int .i64 l.length) ∧ ∃ k, w' = w.drewN k := by
  obtain ⟨arr, first, n, h1, h2, h3⟩ := h
  have hn : l.length = n := by have := h2.1; simpa [intVals] using this
  subst hn
  exact lenI w g d arr first _ h1

theorem roomI_any (w : World) (g d room : Nat) (l : List Int) (h : RSt w g d room l) :
    Calls Try.prog 42 #[.pointer (some ⟨g, 0, none⟩)] w fun e w' => e = .returned (.int .i64 room) ∧ ∃ k, w' = w.drewN k := by
  obtain ⟨arr, first, n, h1, h2, rfl⟩ := h
  exact roomI w g d arr first n h1

theorem ints_of_own {w : World} {base n : Nat} {v : Value} {l : List Int} (h : w.ownsRow base 3 1 v n (intVals l)) (hn : l.length = n) : Ints w v l := by
  subst hn
  rcases h.2 with ⟨rfl, h0⟩ | ⟨g, cap, cur, rfl, _⟩
  · have : l = [] := List.eq_nil_of_length_eq_zero h0
    subst this
    exact ⟨none, 0, rfl, fun k x hx => by simp at hx⟩
  · refine ⟨_, cap, rfl, fun k x hx => ⟨_, rfl, ?_⟩⟩
    have hk : k < l.length := (List.getElem?_eq_some_iff.1 hx).1
    have e : (⟨g, 0, none⟩ : Addr).add k = ⟨g, k, none⟩ := by unfold Addr.add; split <;> simp_all
    rw [e, h.cellAt k (by omega)]
    unfold intVals
    rw [List.getElem?_map, hx]
    rfl

theorem allI_any (w : World) (g d room : Nat) (l : List Int) (h : RSt w g d room l) :
    Calls Try.prog 44 #[.pointer (some ⟨g, 0, none⟩)] w fun e w' => ∃ v, e = .returned v ∧ Ints w' v l ∧ Below w.heap.size w w' := by
  obtain ⟨arr, first, n, h1, h2, h3⟩ := h
  have hn : l.length = n := by have := h2.1; simpa [intVals] using this
  refine (allI w g d arr first n l h1 h2).mono ?_
  rintro e w' ⟨v, rfl, h4, h5⟩
  exact ⟨v, rfl, ints_of_own h4 hn, h5⟩

theorem pushR_any (w : World) (base s room : Nat) (l : List Int) (h : RRef w base s room l) (hbase : base ≤ w.heap.size) (hr : room ≤ 4096) (x : Int) (b : Bool) (hb : pushB room l = b) (l' : List Int) (hl' : pushL room l x = l') :
    Calls Try.prog 33 #[.pointer (some ⟨s, 0, none⟩), .int .i64 x] w fun e w' => e = .returned (.bool b) ∧ RRef w' base s room l' ∧ Upd (fun k => k = s) w w' := by
  subst hb hl'
  unfold pushB pushL
  by_cases hlt : l.length < room
  · rw [if_pos hlt, decide_eq_true hlt]
    exact pushR_yes w base s room l h hbase (by omega) x hlt
  · rw [if_neg hlt, decide_eq_false hlt]
    refine (pushR_no w base s room l h x (by omega)).mono ?_
    rintro e w' ⟨rfl, k, rfl⟩
    exact ⟨rfl, h.drewN k, (Upd.refl _ _).drewN k⟩

theorem popR_any (w : World) (base s room : Nat) (l : List Int) (h : RRef w base s room l) (x : Int) (hx : popX l = x) (b : Bool) (hb : popB l = b) (l' : List Int) (hl' : l.tail = l') :
    Calls Try.prog 35 #[.pointer (some ⟨s, 0, none⟩)] w fun e w' => e = .returned (.tuple #[.int .i64 x, .bool b]) ∧ RRef w' base s room l' ∧ Upd (fun k => k = s) w w' := by
  subst hx hb hl'
  unfold popX popB
  cases l with
  | nil =>
    refine (popR_no w base s room h).mono ?_
    rintro e w' ⟨rfl, k, rfl⟩
    exact ⟨rfl, h.drewN k, (Upd.refl _ _).drewN k⟩
  | cons y t =>
    refine (popR_yes w base s room y t h).mono ?_
    rintro e w' ⟨rfl, h5, h6⟩
    exact ⟨by simp, h5, h6⟩

theorem setR_any (w : World) (base s room : Nat) (l : List Int) (h : RRef w base s room l) (hbase : base ≤ w.heap.size) (hl : l.length ≤ 4096) (i x : Int) (b : Bool) (hb : inB l i = b) (l' : List Int) (hl' : putL l i x = l') :
    Calls Try.prog 37 #[.pointer (some ⟨s, 0, none⟩), .int .i64 i, .int .i64 x] w fun e w' => e = .returned (.bool b) ∧ RRef w' base s room l' ∧ Upd (fun k => k = s) w w' := by
  subst hb hl'
  unfold inB putL
  by_cases hc : 0 ≤ i ∧ i < l.length
  · rw [if_pos hc, decide_eq_true hc]
    obtain ⟨i', rfl⟩ := Int.eq_ofNat_of_zero_le hc.1
    exact setR_yes w base s room l h hbase (by omega) i' x (by omega)
  · rw [if_neg hc, decide_eq_false hc]
    refine (setR_no w base s room l h i x (by omega)).mono ?_
    rintro e w' ⟨rfl, k, rfl⟩
    exact ⟨rfl, h.drewN k, (Upd.refl _ _).drewN k⟩

theorem atR_any (w : World) (base s room : Nat) (l : List Int) (h : RRef w base s room l) (i x : Int) (hx : atL l i = x) (b : Bool) (hb : inB l i = b) :
    Calls Try.prog 40 #[.pointer (some ⟨s, 0, none⟩), .int .i64 i] w fun e w' => e = .returned (.tuple #[.int .i64 x, .bool b]) ∧ ∃ k, w' = w.drewN k := by
  subst hx hb
  unfold inB atL
  by_cases hc : 0 ≤ i ∧ i < l.length
  · rw [if_pos hc, decide_eq_true hc]
    obtain ⟨i', rfl⟩ := Int.eq_ofNat_of_zero_le hc.1
    have hi : i' < l.length := by omega
    have e : l[(i' : Int).toNat]?.getD 0 = l[i'] := by simp [hi]
    rw [e]
    exact atR_yes w base s room l h i' l[i'] (List.getElem?_eq_getElem hi)
  · rw [if_neg hc, decide_eq_false hc]
    exact atR_no w base s room l h i (by omega)

theorem newI_any (w : World) (room : Int) (m : Nat) (hm : min (max room 0) 4096 = m) :
    Calls Try.prog 30 #[.int .i64 room] w fun e w' => ∃ g d, e = .returned (.pointer (some ⟨g, 0, none⟩)) ∧ w.heap.size ≤ g ∧ w.heap.size ≤ d ∧
      RSt w' g d m [] ∧ Below w.heap.size w w' := by
  refine (newI w room m hm).mono ?_
  rintro e w' ⟨g, d, rfl, hg, hd, h, hb⟩
  exact ⟨g, d, rfl, hg, hd, ⟨_, 0, 0, h, IsList.nil _ _, by simp⟩, hb⟩

/-- The reference's list is struck. -/
theorem RRef.none_ {w : World} {base s room : Nat} {l : List Int} (h : RRef w base s room l) : RRef (w.setCell ⟨s, 1, none⟩ (.slice none 0 0)) base s room [] := by
  obtain ⟨hsb, A, cap, h1, _⟩ := h
  refine ⟨hsb, none, 0, ?_, Nat.le_refl _, ⟨Nat.zero_le _, fun _ => rfl⟩, fun k y hy => by simp at hy⟩
  have := h1.set_ 1 (.slice none 0 0)
  simpa using this
theorem RRef.cells {w : World} {base s room : Nat} {l : List Int} (h : RRef w base s room l) : ∃ A cap, w.cell? ⟨s, 0, none⟩ = some (.int .i64 room) ∧ w.cell? ⟨s, 1, none⟩ = some (.slice A l.length cap) ∧ w.frozen? ⟨s, 1, none⟩ = false := by
  obtain ⟨hsb, A, cap, h1, _⟩ := h
  refine ⟨A, cap, ?_, ?_, h1.frozen 1⟩
  · have := h1.cell 0
    simpa using this
  · have := h1.cell 1
    simpa using this
theorem RRef.lt {w : World} {base s room : Nat} {l : List Int} (h : RRef w base s room l) : s < w.heap.size ∧ s < base := by
  obtain ⟨hsb, A, cap, h1, _⟩ := h
  exact ⟨h1.lt, hsb⟩
end Go.Proofs.Ytfpigcjhonfcjaa
