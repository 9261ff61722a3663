/-
  The wheel: who is in which slot; what a tick does. No program in sight.
-/
import Derived.Test.YtcljgejalacccaaWhP
namespace Go.Proofs.Ytcljgejalacccaa

def fput {α : Type} (f : Nat → α) (j : Nat) (v : α) : Nat → α := fun x => if x = j then v else f x
theorem fput_eq {α : Type} (f : Nat → α) (j : Nat) (v : α) : fput f j v j = v := if_pos rfl
theorem fput_ne {α : Type} (f : Nat → α) {j x : Nat} (v : α) (h : x ≠ j) : fput f j v x = f x := if_neg h

def okT (now : Nat) (t : Int) : Prop := t = -1 ∨ ((now : Int) < t ∧ t ≤ 4611686018427387904)
structure Inv (now : Nat) (at_ : Nat → Int) (sl : Nat → List Nat) : Prop where
  h : ∀ i, i < 256 → okT now (at_ i)
  n : ∀ j, j < 256 → (sl j).Nodup
  m : ∀ j, j < 256 → ∀ i, i ∈ sl j ↔ i < 256 ∧ at_ i ≠ -1 ∧ plc now (at_ i).toNat = j

theorem Inv.congr {now : Nat} {at_ at' : Nat → Int} {sl : Nat → List Nat} (h : Inv now at_ sl) (e : ∀ i, i < 256 → at' i = at_ i) : Inv now at' sl :=
  ⟨fun i hi => by rw [e i hi]; exact h.h i hi, h.n, fun j hj i => by
    rw [h.m j hj i]
    constructor
    · rintro ⟨h1, h2, h3⟩; exact ⟨h1, by rw [e i h1]; exact h2, by rw [e i h1]; exact h3⟩
    · rintro ⟨h1, h2, h3⟩; rw [e i h1] at h2 h3; exact ⟨h1, h2, h3⟩⟩
theorem Inv.new (now : Nat) : Inv now (fun _ => -1) (fun _ => []) := ⟨fun _ _ => .inl rfl, fun _ _ => List.nodup_nil, fun j _ i => by simp⟩

/-- Cancel. -/
theorem Inv.cancel {now : Nat} {at_ : Nat → Int} {sl : Nat → List Nat} (h : Inv now at_ sl) (id : Nat) (hid : id < 256) (hs : at_ id ≠ -1) :
    Inv now (fput at_ id (-1)) (fput sl (plc now (at_ id).toNat) ((sl (plc now (at_ id).toNat)).filter (fun x => !decide (x = id)))) := by
  refine ⟨fun i hi => ?_, fun j hj => ?_, fun j hj i => ?_⟩
  · by_cases e : i = id
    · subst e; rw [fput_eq]; exact .inl rfl
    · rw [fput_ne _ _ e]; exact h.h i hi
  · by_cases e : j = plc now (at_ id).toNat
    · rw [e, fput_eq]; exact (h.n _ (plc_lt _ _)).filter _
    · rw [fput_ne _ _ e]; exact h.n j hj
  · have h1 := h.m j hj i
    by_cases e : i = id
    · subst e
      rw [fput_eq]
      constructor
      · intro hm
        exfalso
        by_cases e : j = plc now (at_ i).toNat
        · rw [e, fput_eq] at hm; simp at hm
        · rw [fput_ne _ _ e, h1] at hm; exact e hm.2.2.symm
      · rintro ⟨_, hx, _⟩; exact absurd rfl hx
    · rw [fput_ne _ _ e, ← h1]
      by_cases e2 : j = plc now (at_ id).toNat
      · rw [e2, fput_eq]; simp [e]
      · rw [fput_ne _ _ e2]
/-- Set. -/
theorem Inv.lay {now : Nat} {at_ : Nat → Int} {sl : Nat → List Nat} (h : Inv now at_ sl) (id : Nat) (hid : id < 256) (hs : at_ id = -1) (t : Int) (ht : (now : Int) < t ∧ t ≤ 4611686018427387904) :
    Inv now (fput at_ id t) (fput sl (plc now t.toNat) (sl (plc now t.toNat) ++ [id])) := by
  have hno : ∀ j, j < 256 → id ∉ sl j := fun j hj hm => by rw [h.m j hj] at hm; exact hm.2.1 hs
  refine ⟨fun i hi => ?_, fun j hj => ?_, fun j hj i => ?_⟩
  · by_cases e : i = id
    · subst e; rw [fput_eq]; exact .inr ht
    · rw [fput_ne _ _ e]; exact h.h i hi
  · by_cases e : j = plc now t.toNat
    · rw [e, fput_eq]
      refine List.nodup_append.2 ⟨h.n _ (plc_lt _ _), by simp, fun a ha b hb e => ?_⟩
      rw [List.mem_singleton] at hb
      exact absurd ha (by rw [e, hb]; exact hno _ (plc_lt _ _))
    · rw [fput_ne _ _ e]; exact h.n j hj
  · have h1 := h.m j hj i
    by_cases e : i = id
    · subst e
      rw [fput_eq]
      by_cases e2 : j = plc now t.toNat
      · subst e2
        rw [fput_eq]
        simp only [List.mem_append, List.mem_singleton, or_true, true_iff]
        exact ⟨hid, by omega, trivial⟩
      · rw [fput_ne _ _ e2]
        constructor
        · intro hm; exact absurd hm (hno j hj)
        · rintro ⟨_, _, hx⟩; exact absurd hx.symm e2
    · rw [fput_ne _ _ e, ← h1]
      by_cases e2 : j = plc now t.toNat
      · subst e2; rw [fput_eq]; simp [e]
      · rw [fput_ne _ _ e2]

/-! ### A tick -/
def topS (b : Nat) : Nat := hi b * 16 + dig b (hi b)
theorem topS_lt (b : Nat) : topS b < 256 := by have := hi_le b; have := dig_lt b (hi b); unfold topS; omega
/-- In the midst of a tick: k of those in the slot are through. -/
structure GInv (b : Nat) (at0 : Nat → Int) (l : List Nat) (k : Nat) (at_ : Nat → Int) (sl : Nat → List Nat) : Prop where
  a : ∀ i, at_ i = if i ∈ l.take k ∧ at0 i = b then -1 else at0 i
  n : ∀ j, j < 256 → (sl j).Nodup
  m : ∀ j, j < 256 → ∀ i, i ∈ sl j ↔ i < 256 ∧ at_ i ≠ -1 ∧ i ∉ l.drop k ∧ plc b (at_ i).toNat = j
/-- The slot that turns, at its beginning. -/
structure GIn (a : Nat) (at0 : Nat → Int) (l : List Nat) : Prop where
  hb : a + 1 ≤ 4611686018427387904
  h : ∀ i, i < 256 → okT a (at0 i)
  n : l.Nodup
  m : ∀ i, i ∈ l ↔ i < 256 ∧ at0 i ≠ -1 ∧ plc a (at0 i).toNat = topS (a + 1)
theorem Inv.gin {a : Nat} {at_ : Nat → Int} {sl : Nat → List Nat} (h : Inv a at_ sl) (hb : a + 1 ≤ 4611686018427387904) : GIn a at_ (sl (topS (a + 1))) := ⟨hb, h.h, h.n _ (topS_lt _), h.m _ (topS_lt _)⟩
theorem GIn.due {a : Nat} {at0 : Nat → Int} {l : List Nat} (h : GIn a at0 l) {i : Nat} (hi : i < 256) (e : at0 i = ((a + 1 : Nat) : Int)) : i ∈ l := by
  rw [h.m]
  refine ⟨hi, by omega, ?_⟩
  rw [e, Int.toNat_natCast]
  exact plc_next a h.hb
theorem Inv.gstart {a : Nat} {at_ : Nat → Int} {sl : Nat → List Nat} (h : Inv a at_ sl) (hb : a + 1 ≤ 4611686018427387904) : GInv (a + 1) at_ (sl (topS (a + 1))) 0 at_ (fput sl (topS (a + 1)) []) := by
  have hg := h.gin hb
  refine ⟨fun i => by simp, fun j hj => ?_, fun j hj i => ?_⟩
  · by_cases e : j = topS (a + 1)
    · rw [e, fput_eq]; exact List.nodup_nil
    · rw [fput_ne _ _ e]; exact h.n j hj
  · rw [List.drop_zero, hg.m i]
    have key : i < 256 → at_ i ≠ -1 → plc a (at_ i).toNat ≠ topS (a + 1) → plc (a + 1) (at_ i).toNat = plc a (at_ i).toNat := fun h1 h2 h3 => by
      have hok := (h.h i h1).resolve_left h2
      refine plc_stay a _ (by omega) ?_ h3
      have : (at_ i).toNat ≠ a + 1 := fun e => h3 (by rw [e]; exact plc_next a hb)
      omega
    by_cases e : j = topS (a + 1)
    · subst e
      rw [fput_eq]
      simp only [List.not_mem_nil, false_iff]
      rintro ⟨h1, h2, h3, h4⟩
      have h5 : plc a (at_ i).toNat ≠ topS (a + 1) := fun e => h3 ⟨h1, h2, e⟩
      exact h5 (by rw [← key h1 h2 h5]; exact h4)
    · rw [fput_ne _ _ e, h.m j hj i]
      constructor
      · rintro ⟨h1, h2, h3⟩
        have h5 : plc a (at_ i).toNat ≠ topS (a + 1) := fun e' => e (h3.symm.trans e')
        exact ⟨h1, h2, fun h => h5 h.2.2, by rw [key h1 h2 h5]; exact h3⟩
      · rintro ⟨h1, h2, h3, h4⟩
        have h5 : plc a (at_ i).toNat ≠ topS (a + 1) := fun e' => h3 ⟨h1, h2, e'⟩
        exact ⟨h1, h2, by rw [← key h1 h2 h5]; exact h4⟩
theorem take_not {l : List Nat} (hn : l.Nodup) {k i : Nat} (h : l[k]? = some i) : i ∉ l.take k := by
  intro hm
  have h0 := List.take_append_drop k l
  have hl := (List.getElem?_eq_some_iff.1 h).1
  have hd : i ∈ l.drop k := by
    rw [List.drop_eq_getElem_cons hl, (List.getElem?_eq_some_iff.1 h).2]; simp
  rw [← h0] at hn
  exact (List.nodup_append.1 hn).2.2 i hm i hd rfl
theorem drop_step {l : List Nat} {k i : Nat} (h : l[k]? = some i) : l.drop k = i :: l.drop (k + 1) := by
  have hl := (List.getElem?_eq_some_iff.1 h).1
  rw [List.drop_eq_getElem_cons hl, (List.getElem?_eq_some_iff.1 h).2]
theorem drop_not {l : List Nat} (hn : l.Nodup) {k i : Nat} (h : l[k]? = some i) : i ∉ l.drop (k + 1) := by
  have h0 : (l.drop k).Nodup := (List.drop_sublist k l).nodup hn
  rw [drop_step h] at h0
  exact (List.nodup_cons.1 h0).1
theorem GInv.at_ {b : Nat} {at0 : Nat → Int} {l : List Nat} {k : Nat} {at_ : Nat → Int} {sl : Nat → List Nat} (h : GInv b at0 l k at_ sl) (hn : l.Nodup) {i : Nat} (hi : l[k]? = some i) : at_ i = at0 i := by
  rw [h.a i, if_neg (fun e => take_not hn hi e.1)]
theorem mem_take_succ {l : List Nat} {k i x : Nat} (hi : l[k]? = some i) : x ∈ l.take (k + 1) ↔ x ∈ l.take k ∨ x = i := by
  rw [List.take_add_one, hi]; simp
/-- One that is due. -/
theorem GInv.due {b : Nat} {at0 : Nat → Int} {l : List Nat} {k : Nat} {at_ : Nat → Int} {sl : Nat → List Nat} (h : GInv b at0 l k at_ sl) (_ : l.Nodup) {i : Nat} (hi : l[k]? = some i) (hd : at0 i = b) : GInv b at0 l (k + 1) (fput at_ i (-1)) sl := by
  refine ⟨fun x => ?_, h.n, fun j hj x => ?_⟩
  · by_cases e : x = i
    · subst e; rw [fput_eq, if_pos ⟨(mem_take_succ hi).2 (.inr rfl), hd⟩]
    · rw [fput_ne _ _ e, h.a x]
      simp only [mem_take_succ hi, e, or_false]
  · rw [h.m j hj x, drop_step hi]
    by_cases e : x = i
    · subst e; rw [fput_eq]; simp
    · rw [fput_ne _ _ e]; simp [e]
/-- One that is laid anew. -/
theorem GInv.lay {b : Nat} {at0 : Nat → Int} {l : List Nat} {k : Nat} {at_ : Nat → Int} {sl : Nat → List Nat} (h : GInv b at0 l k at_ sl) (hn : l.Nodup) {i : Nat} (hi : l[k]? = some i) (hi2 : i < 256) (hd : at0 i ≠ b) (hs : at0 i ≠ -1) :
    GInv b at0 l (k + 1) at_ (fput sl (plc b (at0 i).toNat) (sl (plc b (at0 i).toNat) ++ [i])) := by
  have hat := h.at_ hn hi
  have hno : ∀ j, j < 256 → i ∉ sl j := fun j hj hm => by
    rw [h.m j hj, drop_step hi] at hm
    exact hm.2.2.1 (by simp)
  refine ⟨fun x => ?_, fun j hj => ?_, fun j hj x => ?_⟩
  · rw [h.a x]
    by_cases e : x = i
    · subst e; rw [if_neg (fun h => hd h.2), if_neg (fun h => hd h.2)]
    · simp only [mem_take_succ hi, e, or_false]
  · by_cases e : j = plc b (at0 i).toNat
    · rw [e, fput_eq]
      refine List.nodup_append.2 ⟨h.n _ (plc_lt _ _), by simp, fun a ha b' hb e => ?_⟩
      rw [List.mem_singleton] at hb
      exact absurd ha (by rw [e, hb]; exact hno _ (plc_lt _ _))
    · rw [fput_ne _ _ e]; exact h.n j hj
  · have h1 := h.m j hj x
    rw [drop_step hi] at h1
    by_cases e : x = i
    · subst e
      by_cases e2 : j = plc b (at0 x).toNat
      · rw [e2, fput_eq]
        simp only [List.mem_append, List.mem_singleton, or_true, true_iff]
        exact ⟨hi2, by rw [hat]; exact hs, drop_not hn hi, by rw [hat]⟩
      · rw [fput_ne _ _ e2]
        constructor
        · intro hm; exact absurd hm (hno j hj)
        · rintro ⟨_, _, _, hx⟩; rw [hat] at hx; exact absurd hx.symm e2
    · have h2 : x ∈ sl j ↔ x < 256 ∧ at_ x ≠ -1 ∧ x ∉ l.drop (k + 1) ∧ plc b (at_ x).toNat = j := by rw [h1]; simp [e]
      rw [← h2]
      by_cases e2 : j = plc b (at0 i).toNat
      · rw [e2, fput_eq]; simp [e]
      · rw [fput_ne _ _ e2]
/-- The end of a tick. -/
def goneA (b : Nat) (at0 : Nat → Int) : Nat → Int := fun i => if at0 i = b then -1 else at0 i
theorem GInv.done {a : Nat} {at0 : Nat → Int} {l : List Nat} {at_ : Nat → Int} {sl : Nat → List Nat} (h : GInv (a + 1) at0 l l.length at_ sl) (hg : GIn a at0 l) : Inv (a + 1) (goneA (a + 1) at0) sl := by
  have e : ∀ i, i < 256 → goneA (a + 1) at0 i = at_ i := fun i hi => by
    rw [h.a i, List.take_length]
    unfold goneA
    by_cases e : at0 i = ((a + 1 : Nat) : Int)
    · rw [if_pos e, if_pos ⟨hg.due hi e, e⟩]
    · rw [if_neg e, if_neg (fun h => e h.2)]
  have h0 : Inv (a + 1) at_ sl := by
    refine ⟨fun i hi => ?_, h.n, fun j hj i => by rw [h.m j hj i, List.drop_length]; simp⟩
    rw [← e i hi]
    unfold goneA
    split
    · exact .inl rfl
    · rename_i hx
      rcases hg.h i hi with h | ⟨h1, h2⟩
      · exact .inl h
      · exact .inr ⟨by omega, h2⟩
  exact h0.congr e
/-- Behind a tick the lower slots that turn are empty. -/
theorem Inv.low {b : Nat} {at_ : Nat → Int} {sl : Nat → List Nat} (h : Inv b at_ sl) (hb : b ≤ 4611686018427387904) (M : Nat) (hM : M ≤ 15) : sl (M * 16 + dig b M) = [] := by
  refine List.eq_nil_iff_forall_not_mem.2 (fun i hi => ?_)
  rw [h.m _ (by have := dig_lt b M; omega)] at hi
  have hok := (h.h i hi.1).resolve_left hi.2.1
  exact plc_ne b _ M hb (by omega) (by omega) hi.2.2

/-! ### How many are set -/
def cntA (at_ : Nat → Int) (n : Nat) : Nat := (List.range n).countP (fun i => !decide (at_ i = -1))
theorem cntA_succ (at_ : Nat → Int) (n : Nat) : cntA at_ (n + 1) = cntA at_ n + if at_ n = -1 then 0 else 1 := by
  unfold cntA
  rw [List.range_succ, List.countP_append]
  by_cases h : at_ n = -1 <;> simp [h]
theorem cntA_le (at_ : Nat → Int) (n : Nat) : cntA at_ n ≤ n := by unfold cntA; exact Nat.le_trans List.countP_le_length (by simp)
theorem cntA_congr {a b : Nat → Int} : ∀ (n : Nat), (∀ i, i < n → a i = b i) → cntA a n = cntA b n
  | 0, _ => rfl
  | n + 1, h => by rw [cntA_succ, cntA_succ, cntA_congr n (fun i hi => h i (by omega)), h n (by omega)]
theorem cntA_fput (at_ : Nat → Int) (id : Nat) (v : Int) : ∀ (n : Nat), cntA (fput at_ id v) n + (if id < n ∧ at_ id ≠ -1 then 1 else 0) = cntA at_ n + (if id < n ∧ v ≠ -1 then 1 else 0)
  | 0 => by simp [cntA]
  | n + 1 => by
    have h := cntA_fput at_ id v n
    rw [cntA_succ, cntA_succ]
    by_cases e : n = id
    · subst e
      rw [fput_eq]
      rw [if_neg (by omega), if_neg (by omega)] at h
      by_cases h1 : at_ n = -1 <;> by_cases h2 : v = -1 <;> simp [h1, h2] at * <;> omega
    · rw [fput_ne _ _ e]
      have e1 : (id < n + 1) ↔ (id < n) := by omega
      simp only [e1]
      omega
theorem cntA_cancel (at_ : Nat → Int) (id n : Nat) (h : id < n) (hs : at_ id ≠ -1) : cntA (fput at_ id (-1)) n + 1 = cntA at_ n := by
  have := cntA_fput at_ id (-1) n
  rw [if_pos ⟨h, hs⟩, if_neg (by simp)] at this
  omega
theorem cntA_set (at_ : Nat → Int) (id n : Nat) (h : id < n) (hs : at_ id = -1) (v : Int) (hv : v ≠ -1) : cntA (fput at_ id v) n = cntA at_ n + 1 := by
  have := cntA_fput at_ id v n
  rw [if_neg (by simp [hs]), if_pos ⟨h, hv⟩] at this
  omega

/-! ### What comes -/
def dueL (b : Nat) (at0 : Nat → Int) (l : List Nat) : List Nat := l.filter (fun i => decide (at0 i = b))
theorem dueL_perm {a : Nat} {at0 : Nat → Int} {l : List Nat} (hg : GIn a at0 l) : (dueL (a + 1) at0 l).Perm (dueL (a + 1) at0 (List.range 256)) := by
  unfold dueL
  refine (List.perm_ext_iff_of_nodup (hg.n.filter _) (List.nodup_range.filter _)).2 (fun i => ?_)
  simp only [List.mem_filter, List.mem_range, decide_eq_true_eq]
  constructor
  · rintro ⟨h1, h2⟩; exact ⟨((hg.m i).1 h1).1, h2⟩
  · rintro ⟨h1, h2⟩; exact ⟨hg.due h1 h2, h2⟩
theorem dueL_step {b : Nat} {at0 : Nat → Int} {l : List Nat} {k i : Nat} (hi : l[k]? = some i) : dueL b at0 (l.take (k + 1)) = dueL b at0 (l.take k) ++ (if at0 i = b then [i] else []) := by
  unfold dueL
  rw [List.take_add_one, hi, List.filter_append]
  by_cases h : at0 i = (b : Int) <;> simp [h]
end Go.Proofs.Ytcljgejalacccaa
