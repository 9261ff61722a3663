/-
  Windows for so much: what Spread and Cost compute. No program in sight.
-/
import Derived.Test.YtldbjoegfcmfkaaFrameP
namespace Go.Proofs.Ytldbjoegfcmfkaa

/-- The share of a need in the i-th of some rows. -/
def shareN (need times i : Int) : Int := need / times + if i < need % times then 1 else 0
/-- One window more. -/
def layS (F M : Int) (st : Int × List W3) (p n : Int) : Option (Int × List W3) :=
  if n = 0 then some st else if F - M - st.1 < n ∨ 32 ≤ st.2.length then none else some (st.1 + (M + n), st.2 ++ [(st.1, M + n, p)])
/-- A row, up to p. -/
def rowTo (F M T : Int) (ns : List Int) (i : Int) (st : Int × List W3) : Nat → Option (Int × List W3)
  | 0 => some st
  | p + 1 => (rowTo F M T ns i st p).bind (fun st => layS F M st p (shareN (ns.getD p 0) T i))
/-- Rows, up to i. -/
def rowsTo (F M T : Int) (ns : List Int) : Nat → Option (Int × List W3)
  | 0 => some (0, [])
  | i + 1 => (rowsTo F M T ns i).bind (fun st => rowTo F M T ns i st ns.length)
theorem rowTo_none {F M T : Int} {ns : List Int} {i : Int} {st : Int × List W3} {p : Nat} (h : rowTo F M T ns i st p = none) : ∀ q, rowTo F M T ns i st (p + q) = none
  | 0 => h
  | q + 1 => by rw [← Nat.add_assoc, rowTo, rowTo_none h q]; rfl
theorem rowsTo_none {F M T : Int} {ns : List Int} {i : Nat} (h : rowsTo F M T ns i = none) : ∀ q, rowsTo F M T ns (i + q) = none
  | 0 => h
  | q + 1 => by rw [← Nat.add_assoc, rowsTo, rowsTo_none h q]; rfl
/-- One window has no room: there is no plan. -/
theorem rows_fail {F M T : Int} {ns : List Int} {i p k : Nat} {st st' : Int × List W3} (h0 : rowsTo F M T ns i = some st) (h1 : rowTo F M T ns i st p = some st') (h2 : layS F M st' p (shareN (ns.getD p 0) T i) = none) (hp : p < ns.length) (hi : i < k) : rowsTo F M T ns k = none := by
  have h3 : rowTo F M T ns i st (p + 1) = none := by rw [rowTo, h1]; exact h2
  have h4 : rowTo F M T ns i st ns.length = none := by
    have := rowTo_none h3 (ns.length - (p + 1))
    rwa [show p + 1 + (ns.length - (p + 1)) = ns.length by omega] at this
  have h5 : rowsTo F M T ns (i + 1) = none := by rw [rowsTo, h0]; exact h4
  have := rowsTo_none h5 (k - (i + 1))
  rwa [show i + 1 + (k - (i + 1)) = k by omega] at this
/-- What is laid lies ahead of the frame's end. -/
theorem layS_le {F M n p : Int} {st st' : Int × List W3} (hM : 0 ≤ M) (hF : st.1 ≤ F) (h0 : 0 ≤ st.1) (hn : 0 ≤ n) (h : layS F M st p n = some st') : 0 ≤ st'.1 ∧ st'.1 ≤ F ∧ st'.2.length ≤ st.2.length + 1 ∧ (st.2.length ≤ 32 → st'.2.length ≤ 32) := by
  unfold layS at h
  split at h
  next => injection h with h; subst h; omega
  next =>
    split at h
    next => cases h
    next hno =>
      injection h with h
      subst h
      simp only [List.length_append, List.length_cons, List.length_nil]
      omega
/-- All needs are laid, or not. -/
def fineE (F M T : Int) (ns : List Int) : Int :=
  if ¬ (1 ≤ F ∧ F ≤ 256 ∧ 0 ≤ M ∧ M ≤ 8) then 20 else if ¬ (1 ≤ ns.length ∧ ns.length ≤ 6 ∧ 1 ≤ T ∧ T ≤ 32 ∧ ∀ x ∈ ns, 0 ≤ x) then 1 else 0
def spreadN (F M T : Int) (ns : List Int) : List W3 × Int :=
  if fineE F M T ns ≠ 0 then ([], fineE F M T ns) else match rowsTo F M T ns T.toNat with
  | none => ([], 5)
  | some st => (st.2, 0)
/-- The cost of one need. -/
def costOne (M T x : Int) : Int := min (max x 0) 256 + M * min (min (max x 0) 256) T
def costN (M T : Int) (ns : List Int) : Nat → Int
  | 0 => 0
  | i + 1 => costN M T ns i + costOne M T (ns.getD i 0)
/-- The document's: row by row. -/
def costR (M T x : Int) : Nat → Int
  | 0 => 0
  | i + 1 => costR M T x i + if 0 < shareN x T i then M + shareN x T i else 0
theorem costR_sum (M T x : Int) (hT : 1 ≤ T) (hx : 0 ≤ x) : ∀ i : Nat, (i : Int) ≤ T → costR M T x i = (x / T) * i + min (x % T) i + M * (if 0 < x / T then (i : Int) else min (x % T) i)
  | 0, _ => by
    have h1 := Int.emod_nonneg x (show T ≠ 0 by omega)
    have h2 : min (x % T) ((0 : Nat) : Int) = 0 := by omega
    rw [h2]
    simp [costR]
  | i + 1, h => by
    have ih := costR_sum M T x hT hx i (by omega)
    have h1 := Int.emod_nonneg x (show T ≠ 0 by omega)
    have h2 := Int.ediv_nonneg hx (show 0 ≤ T by omega)
    rw [costR, ih]
    unfold shareN
    obtain ⟨q, hq⟩ : ∃ q, x / T = q := ⟨_, rfl⟩
    obtain ⟨r, hr⟩ : ∃ r, x % T = r := ⟨_, rfl⟩
    rw [hq] at h2 ⊢
    rw [hr] at h1 ⊢
    have e1 : q * ((i + 1 : Nat) : Int) = q * i + q := by rw [Int.natCast_add, Int.mul_add]; simp
    have e2 : M * ((i : Int) + 1) = M * i + M := by rw [Int.mul_add]; simp
    have e3 : ((i + 1 : Nat) : Int) = (i : Int) + 1 := by omega
    rw [e1]
    by_cases hlt : (i : Int) < r
    · have m1 : min r ((i + 1 : Nat) : Int) = (i : Int) + 1 := by omega
      have m2 : min r (i : Int) = i := by omega
      have p1 : 0 < q + 1 := by omega
      rw [m1, m2, e3]
      by_cases hq0 : 0 < q
      · simp only [hq0, hlt, p1, if_true, e2]
        omega
      · simp only [hq0, hlt, p1, if_true, if_false, e2]
        omega
    · have m1 : min r ((i + 1 : Nat) : Int) = r := by omega
      have m2 : min r (i : Int) = r := by omega
      rw [m1, m2, e3]
      by_cases hq0 : 0 < q
      · have p1 : 0 < q + 0 := by omega
        simp only [hq0, hlt, p1, if_true, if_false, e2]
        omega
      · have p1 : ¬ 0 < q + 0 := by omega
        simp only [hq0, hlt, p1, if_false]
        omega
theorem costR_one (M : Int) (T : Nat) (x : Int) (hT : 1 ≤ T) : costR M T (min (max x 0) 256) T = costOne M T x := by
  obtain ⟨y, hy⟩ : ∃ y, min (max x 0) 256 = y := ⟨_, rfl⟩
  have hy0 : 0 ≤ y := by omega
  unfold costOne
  rw [hy, costR_sum M T y (by omega) hy0 T (Int.le_refl _)]
  have h1 := Int.emod_nonneg y (show (T : Int) ≠ 0 by omega)
  have h2 := Int.emod_lt_of_pos y (show (0 : Int) < T by omega)
  have h3 := Int.emod_def y T
  have h4 := Int.ediv_nonneg hy0 (show (0 : Int) ≤ T by omega)
  obtain ⟨q, hq⟩ : ∃ q, y / (T : Int) = q := ⟨_, rfl⟩
  obtain ⟨r, hr⟩ : ∃ r, y % (T : Int) = r := ⟨_, rfl⟩
  rw [hq, hr] at h3
  rw [hr] at h1 h2
  rw [hq] at h4
  rw [hq, hr, show min r (T : Int) = r by omega]
  have e1 : q * (T : Int) + r = y := by rw [Int.mul_comm]; omega
  rw [e1]
  by_cases hq0 : 0 < q
  · rw [if_pos hq0]
    have : (T : Int) ≤ y := by
      have h5 : (T : Int) * 1 ≤ T * q := Int.mul_le_mul_of_nonneg_left (by omega) (by omega)
      omega
    rw [show min y (T : Int) = T by omega]
  · have : q = 0 := by omega
    subst this
    rw [if_neg (by omega), show min y (T : Int) = r by simp at h3; omega]
end Go.Proofs.Ytldbjoegfcmfkaa
