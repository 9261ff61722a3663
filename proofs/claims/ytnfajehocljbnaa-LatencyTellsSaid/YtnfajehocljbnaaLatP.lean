/-
  When work is done, at the worst; what is dark. No program in sight.
-/
import Derived.Test.YtnfajehocljbnaaSupP
import Derived.Test.YtnfajehocljbnaaFrameD
namespace Go.Proofs.Ytnfajehocljbnaa

/-- The first i, of n, that is P; n, of none. -/
def fstN (P : Nat → Bool) : Nat → Nat → Nat
  | 0, i => i
  | k + 1, i => if P i then i else fstN P k (i + 1)
theorem fstN_spec (P : Nat → Bool) : ∀ k i, i ≤ fstN P k i ∧ fstN P k i ≤ i + k ∧ (∀ j, i ≤ j → j < fstN P k i → P j = false) ∧ (fstN P k i < i + k → P (fstN P k i) = true)
  | 0, i => ⟨Nat.le_refl _, Nat.le_refl _, (fun j h1 h2 => by have : j < i := h2; omega), (fun h => by have : i < i := h; omega)⟩
  | k + 1, i => by
    have ih := fstN_spec P k (i + 1)
    rw [fstN]
    by_cases h : P i = true
    · rw [if_pos h]
      exact ⟨Nat.le_refl _, by omega, (fun j h1 h2 => by omega), fun _ => h⟩
    · rw [if_neg h]
      refine ⟨by omega, by omega, fun j h1 h2 => ?_, fun h2 => ih.2.2.2 (by omega)⟩
      by_cases e : j = i
      · subst e; simpa using h
      · exact ih.2.2.1 j (by omega) h2
section
variable (M : Int) (ws : List W3) (p : Int) (F : Nat)
/-- d ticks from f on are the first that have m open ones. -/
def IsD (f : Int) (m : Int) (d : Nat) : Prop := m ≤ cntF M ws p F f d ∧ ∀ i, i < d → cntF M ws p F f i < m
def doneN (f : Int) (m : Nat) : Nat := fstN (fun d => decide ((m : Int) ≤ cntF M ws p F f d)) (F * (m + 1)) 0
variable {M ws p F}
theorem IsD.eq {f m : Int} {d e : Nat} (h : IsD M ws p F f m d) (h' : IsD M ws p F f m e) : d = e := by
  rcases Nat.lt_trichotomy d e with hl | hl | hl
  · have := h'.2 d hl; have := h.1; omega
  · exact hl
  · have := h.2 e hl; have := h'.1; omega
theorem cntF_mono (f : Int) (i : Nat) : ∀ k, cntF M ws p F f i ≤ cntF M ws p F f (i + k) := fun k => by
  rw [cntF_add]
  have := cntF_le M ws p F (f + i) k
  omega
theorem doneN_is (hF : 0 < F) (ho : 0 < cntO M ws p F) (f : Int) (m : Nat) : IsD M ws p F f m (doneN M ws p F f m) := by
  have h := fstN_spec (fun d => decide ((m : Int) ≤ cntF M ws p F f d)) (F * (m + 1)) 0
  have hm : (m : Int) ≤ cntF M ws p F f (m * F) := by
    have := cntF_frames M ws p F hF f m 0
    rw [Nat.add_zero] at this
    rw [this]
    have h2 : (m : Int) * 1 ≤ m * cntO M ws p F := Int.mul_le_mul_of_nonneg_left (by omega) (by omega)
    have h3 : cntF M ws p F f 0 = 0 := rfl
    omega
  have hlt : fstN (fun d => decide ((m : Int) ≤ cntF M ws p F f d)) (F * (m + 1)) 0 ≤ m * F := by
    rcases Nat.lt_or_ge (m * F) (fstN (fun d => decide ((m : Int) ≤ cntF M ws p F f d)) (F * (m + 1)) 0) with h1 | h1
    · have := h.2.2.1 (m * F) (by omega) h1
      exact absurd hm (of_decide_eq_false this)
    · exact h1
  refine ⟨of_decide_eq_true (h.2.2.2 ?_), fun i hi => by have := of_decide_eq_false (h.2.2.1 i (by omega) hi); omega⟩
  have : F * (m + 1) = m * F + F := by rw [Nat.mul_add, Nat.mul_comm]; omega
  omega
theorem IsD.cnt {f : Int} {m d : Nat} (h : IsD M ws p F f m d) : cntF M ws p F f d = m := by
  have h1 := h.1
  cases d with
  | zero => have h0 : cntF M ws p F f 0 = 0 := rfl; rw [h0] at h1 ⊢; omega
  | succ i =>
    have h2 := h.2 i (by omega)
    rw [cntF] at h1 ⊢
    split at h1 <;> split <;> first | omega | contradiction
theorem IsD.pred {f : Int} {m d : Nat} (h : IsD M ws p F f m d) (hm : 0 < m) : 0 < d ∧ cntF M ws p F f (d - 1) = m - 1 := by
  have h0 : 0 < d := by
    rcases Nat.eq_zero_or_pos d with e | e
    · subst e
      have h1 := h.1
      have h0 : cntF M ws p F f 0 = 0 := rfl
      omega
    · exact e
  refine ⟨h0, ?_⟩
  have h1 := h.cnt
  have h2 := h.2 (d - 1) (by omega)
  have h3 : cntF M ws p F f (d - 1 + 1) = cntF M ws p F f (d - 1) + if isO M ws p ((f + ((d - 1 : Nat) : Int)) % F) then 1 else 0 := rfl
  rw [show d - 1 + 1 = d by omega] at h3
  split at h3 <;> omega
theorem IsD.mod {f m : Int} {d : Nat} (h : IsD M ws p F f m d) : IsD M ws p F (f % F) m d :=
  ⟨by rw [cntF_mod]; exact h.1, fun i hi => by rw [cntF_mod]; exact h.2 i hi⟩
/-- How far it is, at most. -/
theorem doneN_le (hF : 0 < F) (ho : 0 < cntO M ws p F) (f : Int) (m : Nat) : doneN M ws p F f m ≤ m * F := by
  rcases Nat.lt_or_ge (m * F) (doneN M ws p F f m) with h | h
  · have h1 := (doneN_is hF ho f m).2 (m * F) h
    have := cntF_frames M ws p F hF f m 0
    rw [Nat.add_zero] at this
    rw [this] at h1
    have h2 : (m : Int) * 1 ≤ m * cntO M ws p F := Int.mul_le_mul_of_nonneg_left (by omega) (by omega)
    have h3 : cntF M ws p F f 0 = 0 := rfl
    omega
  · exact h
variable (M ws p F)
/-- The greatest of the first k, and where it is first. -/
def wstN (m : Nat) : Nat → Int × Int
  | 0 => (-1, 0)
  | k + 1 => if (wstN m k).1 < (doneN M ws p F k m : Int) then ((doneN M ws p F k m : Int), (k : Int)) else wstN m k
/-- The greatest and the least of the first k. -/
def maxD (m : Nat) : Nat → Int
  | 0 => 0
  | k + 1 => max (maxD m k) (doneN M ws p F k m)
def minD (m : Nat) : Nat → Int
  | 0 => 2305843009213693952
  | k + 1 => min (minD m k) (doneN M ws p F k m)
theorem wstN_le (m : Nat) : ∀ k j : Nat, j < k → (doneN M ws p F j m : Int) ≤ (wstN M ws p F m k).1
  | 0, j, h => by omega
  | k + 1, j, h => by
    rw [wstN]
    by_cases e : j = k
    · subst e; split <;> omega
    · have := wstN_le m k j (by omega)
      split <;> omega
theorem wstN_at (m : Nat) : ∀ k : Nat, 0 < k → ∃ j : Nat, j < k ∧ wstN M ws p F m k = ((doneN M ws p F j m : Int), (j : Int))
  | 0, h => by omega
  | k + 1, _ => by
    rw [wstN]
    split
    · exact ⟨k, by omega, rfl⟩
    · rename_i hn
      cases k with
      | zero =>
        have h0 : (wstN M ws p F m 0).1 = -1 := rfl
        rw [h0] at hn
        omega
      | succ i =>
        obtain ⟨j, hj, e⟩ := wstN_at m (i + 1) (by omega)
        exact ⟨j, by omega, e⟩
theorem maxD_wst (m : Nat) : ∀ k : Nat, 0 < k → maxD M ws p F m k = (wstN M ws p F m k).1
  | 0, h => by omega
  | k + 1, _ => by
    rw [maxD, wstN]
    cases k with
    | zero =>
      have h0 : (wstN M ws p F m 0).1 = -1 := rfl
      have h1 : maxD M ws p F m 0 = 0 := rfl
      rw [h0, h1, if_pos (by omega)]
      dsimp only
      omega
    | succ i =>
      rw [maxD_wst m (i + 1) (by omega)]
      split <;> omega
theorem minD_le (m : Nat) : ∀ k : Nat, 0 ≤ minD M ws p F m k ∧ minD M ws p F m k ≤ 2305843009213693952
  | 0 => by rw [minD]; omega
  | k + 1 => by have := minD_le m k; rw [minD]; omega
/-- The worst answer is the wait. -/
theorem wst_wait (hF : 0 < F) (ho : 0 < cntO M ws p F) (m : Nat) : ∃ W : Nat, (wstN M ws p F m F).1 = W ∧ (m : Int) ≤ leN M ws p F W ∧ ∀ i, i < W → leN M ws p F i < m := by
  obtain ⟨j, hj, e⟩ := wstN_at M ws p F m F hF
  refine ⟨doneN M ws p F j m, by rw [e], ?_, fun i hi => ?_⟩
  · rw [leN_at]
    obtain ⟨a, ha⟩ : ∃ a : Nat, atN M ws p F (doneN M ws p F j m) = a := ⟨(atN M ws p F (doneN M ws p F j m)).toNat, by have := (atN_in M ws p F (doneN M ws p F j m)).1; omega⟩
    have hlt : a < F := by have := (atN_in M ws p F (doneN M ws p F j m)).2; omega
    rw [ha]
    have h1 := wstN_le M ws p F m F a hlt
    rw [e] at h1
    have h2 : doneN M ws p F a m ≤ doneN M ws p F j m := by have h1' : (doneN M ws p F a m : Int) ≤ (doneN M ws p F j m : Int) := h1; omega
    have h3 := (doneN_is hF ho (a : Int) m).1
    have h4 := cntF_mono (M := M) (ws := ws) (p := p) (F := F) (a : Int) (doneN M ws p F a m) (doneN M ws p F j m - doneN M ws p F a m)
    rw [show doneN M ws p F a m + (doneN M ws p F j m - doneN M ws p F a m) = doneN M ws p F j m by omega] at h4
    omega
  · have h1 := leN_le M ws p F hF i (j : Int)
    have h2 := (doneN_is hF ho (j : Int) m).2 i hi
    omega
end
end Go.Proofs.Ytnfajehocljbnaa
