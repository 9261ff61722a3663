/-
  The walk of frame.Table: Next.
-/
import Derived.Test.YtcgefncddbbnlaaFrameC
import Derived.Test.YtcgefncddbbnlaaFrameC
namespace Go.Proofs.Ytcgefncddbbnlaa.Fr
open Go.RowKit
attribute [local go_sem] max_ints min_ints

theorem cntF_pos (M : Int) (ws : List W3) (p F f : Int) : ∀ n : Nat, 0 < cntF M ws p F f n ↔ ∃ i : Nat, i < n ∧ isO M ws p ((f + i) % F) = true
  | 0 => by simp [cntF]
  | n + 1 => by
    have ih := cntF_pos M ws p F f n
    have hle := cntF_le M ws p F f n
    rw [cntF]
    constructor
    · intro h
      by_cases hb : isO M ws p ((f + n) % F) = true
      · exact ⟨n, by omega, hb⟩
      · rw [if_neg hb] at h
        obtain ⟨i, hi, h1⟩ := ih.1 (by omega)
        exact ⟨i, by omega, h1⟩
    · rintro ⟨i, hi, h1⟩
      by_cases e : i = n
      · subst e
        rw [if_pos h1]
        omega
      · have := ih.2 ⟨i, by omega, h1⟩
        split <;> omega
/-- What Next answers. -/
def NextIs (M : Int) (ws : List W3) (p : Int) (F : Nat) (f : Int) (x : Int) (b : Bool) : Prop :=
  (∃ k : Nat, k < F ∧ isO M ws p ((f + k) % F) = true ∧ (∀ i : Nat, i < k → isO M ws p ((f + i) % F) = false) ∧ x = f + k ∧ b = true) ∨
  ((∀ i : Nat, i < F → isO M ws p ((f + i) % F) = false) ∧ x = 0 ∧ b = false)
theorem NextIs.eq {M : Int} {ws : List W3} {p : Int} {F : Nat} {f x y : Int} {b c : Bool} (h : NextIs M ws p F f x b) (h' : NextIs M ws p F f y c) : x = y ∧ b = c := by
  rcases h with ⟨k, h1, h2, h3, rfl, rfl⟩ | ⟨h1, rfl, rfl⟩
  · rcases h' with ⟨k', h1', h2', h3', rfl, rfl⟩ | ⟨h1', rfl, rfl⟩
    · have : k = k' := by
        rcases Nat.lt_trichotomy k k' with h | h | h
        · rw [h3' k h] at h2; cases h2
        · exact h
        · rw [h3 k' h] at h2'; cases h2'
      subst this
      exact ⟨rfl, rfl⟩
    · rw [h1' k h1] at h2; cases h2
  · rcases h' with ⟨k', h1', h2', h3', rfl, rfl⟩ | ⟨h1', rfl, rfl⟩
    · rw [h1 k' h1'] at h2'; cases h2'
    · exact ⟨rfl, rfl⟩

end Go.Proofs.Ytcgefncddbbnlaa.Fr
