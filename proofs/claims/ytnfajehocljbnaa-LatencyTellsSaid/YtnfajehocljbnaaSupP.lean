/-
  The least of some ticks, from anywhere. No program in sight.
-/
import Derived.Test.YtnfajehocljbnaaFrameP
namespace Go.Proofs.Ytnfajehocljbnaa

/-- The least of n ticks from 0, 1 .. i on, and where it is first. -/
def lsN (M : Int) (ws : List W3) (p : Int) (F n : Nat) : Nat → Int × Int
  | 0 => (cntF M ws p F 0 n, 0)
  | i + 1 => if cntF M ws p F ((i + 1 : Nat) : Int) n < (lsN M ws p F n i).1 then (cntF M ws p F ((i + 1 : Nat) : Int) n, ((i + 1 : Nat) : Int)) else lsN M ws p F n i
def leN (M : Int) (ws : List W3) (p : Int) (F n : Nat) : Int := (lsN M ws p F n (F - 1)).1
def atN (M : Int) (ws : List W3) (p : Int) (F n : Nat) : Int := (lsN M ws p F n (F - 1)).2
section
variable (M : Int) (ws : List W3) (p : Int) (F : Nat)
theorem lsN_le (n : Nat) : ∀ i j : Nat, j ≤ i → (lsN M ws p F n i).1 ≤ cntF M ws p F (j : Int) n
  | 0, j, h => by
    have : j = 0 := by omega
    subst this
    exact Int.le_refl _
  | i + 1, j, h => by
    rw [lsN]
    by_cases e : j = i + 1
    · subst e
      split
      next => exact Int.le_refl _
      next h' => exact Int.not_lt.1 h'
    · have := lsN_le n i j (by omega)
      split <;> omega
theorem lsN_at (n : Nat) : ∀ i : Nat, (lsN M ws p F n i).1 = cntF M ws p F (lsN M ws p F n i).2 n ∧ 0 ≤ (lsN M ws p F n i).2 ∧ (lsN M ws p F n i).2 ≤ i
  | 0 => ⟨rfl, Int.le_refl _, Int.le_refl _⟩
  | i + 1 => by
    have ih := lsN_at n i
    rw [lsN]
    split
    · exact ⟨rfl, by show (0 : Int) ≤ ((i + 1 : Nat) : Int); omega, Int.le_refl _⟩
    · exact ⟨ih.1, ih.2.1, by omega⟩
theorem leN_at (n : Nat) : leN M ws p F n = cntF M ws p F (atN M ws p F n) n := (lsN_at M ws p F n (F - 1)).1
theorem atN_in (n : Nat) : 0 ≤ atN M ws p F n ∧ atN M ws p F n ≤ (F - 1 : Nat) := (lsN_at M ws p F n (F - 1)).2
theorem leN_le (hF : 0 < F) (n : Nat) (f : Int) : leN M ws p F n ≤ cntF M ws p F f n := by
  rw [← cntF_mod]
  obtain ⟨a, ha⟩ : ∃ a : Nat, f % (F : Int) = a := ⟨(f % (F : Int)).toNat, by have := Int.emod_nonneg f (show (F : Int) ≠ 0 by omega); omega⟩
  have hlt : a < F := by have := Int.emod_lt_of_pos f (show (0 : Int) < (F : Int) by omega); omega
  rw [ha]
  exact lsN_le M ws p F n (F - 1) a (by omega)
theorem leN_nn (n : Nat) : 0 ≤ leN M ws p F n ∧ leN M ws p F n ≤ n := by rw [leN_at]; exact cntF_le ..
theorem leN_zero : leN M ws p F 0 = 0 := by rw [leN_at]; rfl
theorem leN_split (hF : 0 < F) (q r : Nat) : leN M ws p F (q * F + r) = q * cntO M ws p F + leN M ws p F r := by
  have h1 := leN_le M ws p F hF (q * F + r) (atN M ws p F r)
  rw [cntF_frames M ws p F hF, ← leN_at] at h1
  have h2 := leN_at M ws p F (q * F + r)
  rw [cntF_frames M ws p F hF] at h2
  have h3 := leN_le M ws p F hF r (atN M ws p F (q * F + r))
  omega
theorem leN_step (hF : 0 < F) (n : Nat) : leN M ws p F n ≤ leN M ws p F (n + 1) ∧ leN M ws p F (n + 1) ≤ leN M ws p F n + 1 := by
  have h1 := leN_le M ws p F hF n (atN M ws p F (n + 1))
  have h2 := leN_at M ws p F (n + 1)
  rw [cntF] at h2
  have h3 := leN_le M ws p F hF (n + 1) (atN M ws p F n)
  rw [cntF, ← leN_at] at h3
  constructor
  · split at h2 <;> omega
  · split at h3 <;> omega
theorem leN_mono (hF : 0 < F) (n : Nat) : ∀ k, leN M ws p F n ≤ leN M ws p F (n + k)
  | 0 => Int.le_refl _
  | k + 1 => by
    have h1 := leN_mono hF n k
    have h2 := (leN_step M ws p F hF (n + k)).1
    rw [← Nat.add_assoc]; omega
theorem leN_add (hF : 0 < F) (a b : Nat) : leN M ws p F a + leN M ws p F b ≤ leN M ws p F (a + b) := by
  have h := leN_at M ws p F (a + b)
  rw [cntF_add] at h
  have h1 := leN_le M ws p F hF a (atN M ws p F (a + b))
  have h2 := leN_le M ws p F hF b (atN M ws p F (a + b) + a)
  omega
theorem leN_far (hF : 0 < F) (q : Nat) : leN M ws p F (q * F) = q * cntO M ws p F := by
  have := leN_split M ws p F hF q 0
  rw [leN_zero, Nat.add_zero] at this
  omega
theorem leN_all (hF : 0 < F) (m : Nat) : leN M ws p F m = ((m / F : Nat) : Int) * cntO M ws p F + leN M ws p F (m % F) := by
  have h := leN_split M ws p F hF (m / F) (m % F)
  rwa [show m / F * F + m % F = m by rw [Nat.mul_comm]; exact Nat.div_add_mod m F] at h
end
end Go.Proofs.Ytnfajehocljbnaa
