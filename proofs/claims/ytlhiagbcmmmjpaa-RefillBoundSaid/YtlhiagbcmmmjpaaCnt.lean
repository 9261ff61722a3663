/-
  Counting in a list of ticks. No program in sight.
-/
import Derived.Test.YtlhiagbcmmmjpaaLib
namespace Go.Proofs.Ytlhiagbcmmmjpaa

/-- How many of a list lie from lo to hi. -/
def cnt (lo hi : Int) : List Int → Int
  | [] => 0
  | x :: t => (if lo ≤ x ∧ x ≤ hi then 1 else 0) + cnt lo hi t
theorem cnt_append (lo hi : Int) : ∀ xs ys : List Int, cnt lo hi (xs ++ ys) = cnt lo hi xs + cnt lo hi ys
  | [], ys => by simp [cnt]
  | x :: t, ys => by simp [cnt, cnt_append lo hi t ys]; omega
theorem cnt_take (lo hi : Int) (l : List Int) (i : Nat) (x : Int) (h : l[i]? = some x) : cnt lo hi (l.take (i + 1)) = cnt lo hi (l.take i) + if lo ≤ x ∧ x ≤ hi then 1 else 0 := by
  rw [List.take_add_one, h, cnt_append]
  simp [cnt]
theorem cnt_bd (lo hi : Int) : ∀ l : List Int, 0 ≤ cnt lo hi l ∧ cnt lo hi l ≤ l.length
  | [] => by simp [cnt]
  | x :: t => by
    have := cnt_bd lo hi t
    simp only [cnt, List.length_cons]
    split <;> omega
theorem cnt_none (lo hi : Int) (h : hi < lo) : ∀ l : List Int, cnt lo hi l = 0
  | [] => rfl
  | x :: t => by
    simp only [cnt]
    rw [if_neg (by omega), cnt_none lo hi h t]
    rfl
theorem cnt_mono {lo hi lo' hi' : Int} (h1 : lo' ≤ lo) (h2 : hi ≤ hi') : ∀ l : List Int, cnt lo hi l ≤ cnt lo' hi' l
  | [] => by simp [cnt]
  | x :: t => by
    have := cnt_mono h1 h2 t
    simp only [cnt]
    split <;> split <;> omega
theorem cnt_split (lo m hi : Int) (h1 : lo ≤ m + 1) (h2 : m ≤ hi) : ∀ l : List Int, cnt lo hi l = cnt lo m l + cnt (m + 1) hi l
  | [] => by simp [cnt]
  | x :: t => by
    have := cnt_split lo m hi h1 h2 t
    simp only [cnt]
    split <;> split <;> split <;> omega

/-- In each window of T ticks at most C: in q + 1 windows at most (q + 1) C. -/
theorem cnt_windows (l : List Int) (C T : Int) (hC : 0 ≤ C) (hT : 1 ≤ T) (hw : ∀ a, cnt a (a + T - 1) l ≤ C) : ∀ (q : Nat) (a hi : Int), hi < a + (q + 1 : Nat) * T → cnt a hi l ≤ (q + 1 : Nat) * C
  | 0, a, hi, h => by
    have := hw a
    have := cnt_mono (lo := a) (hi := hi) (lo' := a) (hi' := a + T - 1) (Int.le_refl _) (by simp at h; omega) l
    simp
    omega
  | q + 1, a, hi, h => by
    by_cases hh : hi < a + T
    · have := hw a
      have := cnt_mono (lo := a) (hi := hi) (lo' := a) (hi' := a + T - 1) (Int.le_refl _) (by omega) l
      have h3 : 0 ≤ ((q + 1 : Nat) : Int) * C := Int.mul_nonneg (by omega) hC
      have e : ((q + 1 + 1 : Nat) : Int) * C = ((q + 1 : Nat) : Int) * C + C := by rw [Int.natCast_add (q + 1) 1, Int.add_mul]; simp
      omega
    · have e1 : ((q + 1 + 1 : Nat) : Int) * C = ((q + 1 : Nat) : Int) * C + C := by rw [Int.natCast_add (q + 1) 1, Int.add_mul]; simp
      have e2 : ((q + 1 + 1 : Nat) : Int) * T = ((q + 1 : Nat) : Int) * T + T := by rw [Int.natCast_add (q + 1) 1, Int.add_mul]; simp
      have h1 := cnt_split a (a + T - 1) hi (by omega) (by omega) l
      have h2 := hw a
      have h3 := cnt_windows l C T hC hT hw q (a + T - 1 + 1) hi (by omega)
      omega

theorem cnt_demand (l : List Int) (C T : Int) (hC : 0 ≤ C) (hT : 1 ≤ T) (hw : ∀ a, cnt a (a + T - 1) l ≤ C) (a hi : Int) (h : a ≤ hi) : cnt a hi l ≤ C * ((hi + T - a) / T) := by
  have hq0 : 0 ≤ (hi - a) / T := Int.ediv_nonneg (by omega) (by omega)
  obtain ⟨q, hq⟩ : ∃ q : Nat, (hi - a) / T = q := ⟨((hi - a) / T).toNat, by omega⟩
  have e : (hi + T - a) / T = q + 1 := by
    rw [show hi + T - a = (hi - a) + 1 * T by omega, Int.add_mul_ediv_right _ _ (by omega), hq]
  have hlt : hi < a + (q + 1 : Nat) * T := by
    have h1 := Int.lt_ediv_add_one_mul_self (hi - a) (show 0 < T by omega)
    rw [hq] at h1
    have e2 : ((q + 1 : Nat) : Int) * T = ((q : Int) + 1) * T := by simp
    rw [e2]
    omega
  have := cnt_windows l C T hC hT hw q a hi hlt
  rw [e, Int.mul_comm]
  simpa using this
end Go.Proofs.Ytlhiagbcmmmjpaa
