/-
  A row of whole numbers as a list: New, Push, Pop, Clear, Len.
-/
import Derived.Test.YtcgefncddbbnlaaRingD
namespace Go.Proofs.Ytcgefncddbbnlaa.Rg
open Go.RowKit
attribute [local go_sem] max_ints min_ints

def intVals (l : List Int) : List Value := l.map (Value.int .i64)
/-- A row as a list: its n things from 'first' on. -/
def IsList (arr : Array Value) (first n : Nat) (l : List Value) : Prop := l.length = n ∧ ∀ i u, l[i]? = some u → arr[(first + i) % arr.size]? = some u

theorem IsList.nil (arr : Array Value) (first : Nat) : IsList arr first 0 [] := ⟨rfl, fun i u h => by simp at h⟩
theorem IsList.push {arr : Array Value} {first n m : Nat} {l : List Value} (h : IsList arr first n l) (hn : n < arr.size) (hm : (first + n) % arr.size = m) (u : Value) :
    IsList (arr.setIfInBounds m u) first (n + 1) (l ++ [u]) := by
  refine ⟨by simp [h.1], fun i v hv => ?_⟩
  have hmlt : m < arr.size := by rw [← hm]; exact Nat.mod_lt _ (by omega)
  rw [Array.size_setIfInBounds]
  rcases Nat.lt_or_ge i n with hi | hi
  · rw [List.getElem?_append_left (by rw [h.1]; exact hi)] at hv
    rw [Array.getElem?_setIfInBounds_ne, h.2 i v hv]
    intro he
    rw [← hm] at he
    have h1 : (first + n) % arr.size = (first + i) % arr.size := he
    have h2 : ((first + i) + (n - i)) % arr.size = (first + i) % arr.size := by rw [show first + i + (n - i) = first + n from by omega]; exact h1
    have h3 : (n - i) % arr.size = 0 := by
      have := Nat.sub_mod_eq_zero_of_mod_eq h2
      rwa [Nat.add_sub_cancel_left] at this
    rw [Nat.mod_eq_of_lt (by omega)] at h3
    omega
  · have hi2 : i = n := by
      have := (List.getElem?_eq_some_iff.1 hv).1
      simp [h.1] at this
      omega
    subst hi2
    rw [hm, Array.getElem?_setIfInBounds_self_of_lt hmlt]
    rw [← h.1, List.getElem?_append_right (Nat.le_refl _)] at hv
    simpa using hv
theorem IsList.pop {arr : Array Value} {first n m : Nat} {u z : Value} {l : List Value} (h : IsList arr first n (u :: l)) (hf : first < arr.size) (hn : n ≤ arr.size) (hm : (first + 1) % arr.size = m) :
    IsList (arr.setIfInBounds first z) m (n - 1) l := by
  refine ⟨by have := h.1; simp at this; omega, fun i v hv => ?_⟩
  rw [Array.size_setIfInBounds]
  have h0 := h.2 (i + 1) v (by simpa using hv)
  have hlen : i + 1 < n := by
    have h1 := (List.getElem?_eq_some_iff.1 hv).1
    have h2 := h.1
    simp at h2
    omega
  have e : (m + i) % arr.size = (first + (i + 1)) % arr.size := by
    rw [← hm, Nat.mod_add_mod, show first + 1 + i = first + (i + 1) from by omega]
  rw [e, Array.getElem?_setIfInBounds_ne, h0]
  intro he
  have h2 : (first + (i + 1)) % arr.size = first % arr.size := by rw [Nat.mod_eq_of_lt hf]; exact he.symm
  have h3 := Nat.sub_mod_eq_zero_of_mod_eq h2
  rw [Nat.add_sub_cancel_left, Nat.mod_eq_of_lt (by omega)] at h3
  omega
theorem IsList.head {arr : Array Value} {first n : Nat} {u : Value} {l : List Value} (h : IsList arr first n (u :: l)) (hf : first < arr.size) : arr[first]? = some u := by
  have := h.2 0 u rfl
  rwa [Nat.add_zero, Nat.mod_eq_of_lt hf] at this

theorem upd_setCells (d : Nat) : ∀ (vs : List Value) (o : Nat) (w : World), Upd (fun k => k = d) w (w.setCells d o vs)
  | [], _, w => Upd.refl _ w
  | v :: vs, o, w => ((Upd.refl (fun k => k = d) w).setCell (p := ⟨d, o, none⟩) (fun _ => rfl) v).trans (upd_setCells d vs (o + 1) _)
theorem blk_setCells (d : Nat) (t : TypeId) (z : Value) : ∀ (m o : Nat) (w : World) (cs : Array Value), Blk w d t cs →
    ∃ cs', Blk (w.setCells d o (List.replicate m z)) d t cs' ∧ cs'.size = cs.size ∧ ∀ j, j < cs.size → cs'[j]? = if o ≤ j ∧ j < o + m then some z else cs[j]?
  | 0, o, w, cs, h => ⟨cs, h, rfl, fun j _ => by rw [if_neg (by omega)]⟩
  | m + 1, o, w, cs, h => by
    obtain ⟨cs', h1, h2, h3⟩ := blk_setCells d t z m (o + 1) _ _ (h.set_ o z)
    refine ⟨cs', h1, by rw [h2, Array.size_setIfInBounds], fun j hj => ?_⟩
    rw [h3 j (by rw [Array.size_setIfInBounds]; exact hj)]
    by_cases e : j = o
    · subst e
      rw [if_neg (by omega), if_pos (by omega), Array.getElem?_setIfInBounds_self_of_lt hj]
    · rw [Array.getElem?_setIfInBounds_ne (fun e2 => e e2.symm)]
      by_cases c : o + 1 ≤ j ∧ j < o + 1 + m
      · rw [if_pos c, if_pos (by omega)]
      · rw [if_neg c, if_neg (by omega)]
theorem blk_cleared (w : World) (d : Nat) (t : TypeId) (z : Value) (cs : Array Value) (h : Blk w d t cs) : Blk (w.setCells d 0 (List.replicate cs.size z)) d t (Array.replicate cs.size z) := by
  obtain ⟨cs', h1, h2, h3⟩ := blk_setCells d t z cs.size 0 w cs h
  have e : cs' = Array.replicate cs.size z := by
    apply Array.ext
    · simp [h2]
    · intro j a b
      have := h3 j (by omega)
      rw [if_pos (by omega), Array.getElem?_eq_getElem a] at this
      simp at this
      simp [this]
  rw [e] at h1
  exact h1

theorem zeroInt (w : World) : (zeroValue 3).run Try.prog w = .ok (.int .i64 0) w := by kernel_rfl
theorem clear_none (w : World) (d : Nat) : (Builtin.clear_ #[38] 0 #[.slice (some ⟨d, 0, none⟩) 0 0]).run Try.prog w = .ok (.tuple #[]) w := by
  simp [Builtin.clear_, run_underlying Try.underlying38]

def RSt (w : World) (g d room : Nat) (l : List Int) : Prop := ∃ arr first n, RingI w g d arr first n ∧ IsList arr first n (intVals l) ∧ arr.size = room

theorem RSt.upd {w w' : World} {S : Nat → Prop} {g d room : Nat} {l : List Int} (h : RSt w g d room l) (hu : Upd S w w') (hg : ¬ S g) (hd : ¬ S d) : RSt w' g d room l := by
  obtain ⟨arr, first, n, h1, h2⟩ := h
  exact ⟨arr, first, n, h1.upd hu hg hd, h2⟩
theorem RSt.drewN {w : World} {g d room : Nat} {l : List Int} (h : RSt w g d room l) (k : Nat) : RSt (w.drewN k) g d room l := h.upd ((Upd.refl (fun _ => False) w).drewN k) (fun h => h) (fun h => h)
theorem RSt.lt {w : World} {g d room : Nat} {l : List Int} (h : RSt w g d room l) : g < w.heap.size ∧ d < w.heap.size := by
  obtain ⟨arr, first, n, h1, _⟩ := h
  exact ⟨h1.st.lt, h1.ar.lt⟩
theorem RSt.room {w : World} {g d room : Nat} {l : List Int} (h : RSt w g d room l) : room ≤ 4096 ∧ l.length ≤ room := by
  obtain ⟨arr, first, n, h1, h2, h3⟩ := h
  have := h2.1
  have h4 := h1.hn
  have h5 := h1.hs
  simp [intVals] at this
  omega

def pushB (room : Nat) (l : List Int) : Bool := decide (l.length < room)
def pushL (room : Nat) (l : List Int) (x : Int) : List Int := if l.length < room then l ++ [x] else l
def popX (l : List Int) : Int := l.headD 0
def popB (l : List Int) : Bool := decide (0 < l.length)

theorem pushI_any (w : World) (g d room : Nat) (l : List Int) (h : RSt w g d room l) (x : Int) (b : Bool) (hb : pushB room l = b) (l' : List Int) (hl' : pushL room l x = l') :
    Calls Try.prog 74 #[.pointer (some ⟨g, 0, none⟩), .int .i64 x] w fun e w' => e = .returned (.bool b) ∧ RSt w' g d room l' ∧ Upd (fun k => k = g ∨ k = d) w w' := by
  subst hb hl'
  obtain ⟨arr, first, n, h1, h2, h3⟩ := h
  have hn : l.length = n := by have := h2.1; simpa [intVals] using this
  unfold pushB pushL
  by_cases hlt : l.length < room
  · rw [if_pos hlt, decide_eq_true hlt]
    refine (pushI_yes w g d arr first n h1 x _ (by omega) rfl).mono ?_
    rintro e w' ⟨rfl, h4, h5⟩
    refine ⟨rfl, ⟨_, first, n + 1, h4, ?_, by simpa using h3⟩, h5⟩
    have := h2.push (by omega) rfl (.int .i64 x)
    simpa [intVals] using this
  · rw [if_neg hlt, decide_eq_false hlt]
    have := h1.hn
    refine (pushI_no w g d arr first n h1 x (by omega)).mono ?_
    rintro e w' ⟨rfl, k, rfl⟩
    exact ⟨rfl, ⟨arr, first, n, h1.drewN k, h2, h3⟩, (Upd.refl _ _).drewN k⟩

theorem popI_any (w : World) (g d room : Nat) (l : List Int) (h : RSt w g d room l) (x : Int) (hx : popX l = x) (b : Bool) (hb : popB l = b) (l' : List Int) (hl' : l.tail = l') :
    Calls Try.prog 76 #[.pointer (some ⟨g, 0, none⟩)] w fun e w' => e = .returned (.tuple #[.int .i64 x, .bool b]) ∧ RSt w' g d room l' ∧ Upd (fun k => k = g ∨ k = d) w w' := by
  subst hx hb hl'
  obtain ⟨arr, first, n, h1, h2, h3⟩ := h
  have hn : l.length = n := by have := h2.1; simpa [intVals] using this
  unfold popX popB
  cases l with
  | nil =>
    refine (popI_no w g d arr first n h1 (by simpa using hn.symm)).mono ?_
    rintro e w' ⟨rfl, k, rfl⟩
    exact ⟨rfl, ⟨arr, first, n, h1.drewN k, h2, h3⟩, (Upd.refl _ _).drewN k⟩
  | cons y t =>
    have hlen : t.length + 1 = n := by simpa using hn
    have h4 := h1.hn
    have hf := h1.hl (by omega)
    have h2' : IsList arr first n (.int .i64 y :: intVals t) := h2
    refine (popI_yes w g d arr first n h1 y _ (by omega) (h2'.head hf) rfl).mono ?_
    rintro e w' ⟨rfl, h5, h6⟩
    exact ⟨by simp, ⟨_, _, _, h5, h2'.pop hf h4 rfl, by simpa using h3⟩, h6⟩

theorem lenI_any (w : World) (g d room : Nat) (l : List Int) (h : RSt w g d room l) :
    Calls Try.prog 53 #[.pointer (some ⟨g, 0, none⟩)] w fun e w' => e = .returned (.int .i64 l.length) ∧ ∃ k, w' = w.drewN k := by
  obtain ⟨arr, first, n, h1, h2, h3⟩ := h
  have hn : l.length = n := by have := h2.1; simpa [intVals] using this
  subst hn
  exact lenI w g d arr first _ h1

theorem newI_any (w : World) (room : Int) (m : Nat) (hm : min (max room 0) 4096 = m) :
    Calls Try.prog 51 #[.int .i64 room] w fun e w' => ∃ g d, e = .returned (.pointer (some ⟨g, 0, none⟩)) ∧ w.heap.size ≤ g ∧ w.heap.size ≤ d ∧
      RSt w' g d m [] ∧ Below w.heap.size w w' := by
  refine (newI w room m hm).mono ?_
  rintro e w' ⟨g, d, rfl, hg, hd, h, hb⟩
  exact ⟨g, d, rfl, hg, hd, ⟨_, 0, 0, h, IsList.nil _ _, by simp⟩, hb⟩

end Go.Proofs.Ytcgefncddbbnlaa.Rg
