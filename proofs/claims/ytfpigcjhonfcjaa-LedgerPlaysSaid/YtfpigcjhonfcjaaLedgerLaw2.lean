/-
  The plain law of a ledger beside its reference: no Go here.
-/
import Derived.Test.YtfpigcjhonfcjaaLedgerC
namespace Go.Proofs.Ytfpigcjhonfcjaa
open Go.RowKit

def norm (kind p q : Int) : Chg := if kind = 4 then (4, -1, -1) else if kind = 1 then (1, p, q) else (kind, p, -1)
def chgR (m : Nat) (l : List Chg) (kind p q : Int) : List Chg := if fineB m kind p q = true then l ++ [norm kind p q] else l

theorem countF_snoc (kind p q : Int) (l : List Chg) (c : Chg) : countF kind p q (l ++ [c]) = countF kind p q l + if matchB kind p q c = true then 1 else 0 := by
  unfold countF
  rw [List.filter_append, List.length_append]
  congr 1
  by_cases e : matchB kind p q c = true <;> simp [e]

theorem match_iff (kind p q : Int) (c : Chg) : matchB kind p q c = true ↔ c.1 = kind ∧ (p = -2 ∨ c.2.1 = p) ∧ (q = -2 ∨ c.2.2 = q) := by
  simp [matchB, and_assoc]

structure Same (m : Nat) (L : Nat → Int) (l : List Chg) : Prop where
  total : L 67 = l.length
  of : ∀ k p : Nat, k < 4 → p < 6 → L (1 + k * 6 + p) = countF k p (-2) l
  gave : ∀ p q : Nat, p < 6 → q < 6 → L (31 + p * 6 + q) = countF 1 p q l
  out1 : ∀ k p : Int, k ≠ 4 → (m : Int) ≤ p → countF k p (-2) l = 0
  out2 : ∀ p : Int, (m : Int) ≤ p → countF 1 (-2) p l = 0
  out3 : ∀ p q : Int, 0 ≤ p → 0 ≤ q → ((m : Int) ≤ p ∨ (m : Int) ≤ q) → countF 1 p q l = 0
  got : ∀ q : Int, 0 ≤ q → countF 1 (-2) q l = countF 1 0 q l + countF 1 1 q l + countF 1 2 q l + countF 1 3 q l + countF 1 4 q l + countF 1 5 q l

theorem Same.new (m : Nat) : Same m (fun i => if i = 0 then (m : Int) else 0) [] :=
  ⟨rfl, fun k p _ _ => by rw [if_neg (by omega)]; rfl, fun p q _ _ => by rw [if_neg (by omega)]; rfl, fun _ _ _ _ => rfl, fun _ _ => rfl, fun _ _ _ _ _ => rfl, fun _ _ => rfl⟩

theorem ite_no {c : Prop} [Decidable c] (h : ¬ c) (n : Nat) : (n + if c then 1 else 0) = n := by rw [if_neg h, Nat.add_zero]
theorem ite_yes {c : Prop} [Decidable c] (h : c) (n : Nat) : (n + if c then 1 else 0) = n + 1 := by rw [if_pos h]

theorem Same.step {m : Nat} {L : Nat → Int} {l : List Chg} (h : Same m L l) (hP : L 0 = m) (hm : m ≤ 6) (kind p q : Int) : Same m (chgI L kind p q) (chgR m l kind p q) := by
  unfold chgI chgR
  rw [hP]
  by_cases hf : fineB m kind p q = true
  · rw [if_pos hf, if_pos hf]
    unfold fineB at hf
    by_cases hk : kind = 0 ∨ kind = 2 ∨ kind = 3
    · rw [if_pos hk] at hf
      have hp := of_decide_eq_true hf
      obtain ⟨k', rfl⟩ := Int.eq_ofNat_of_zero_le (show 0 ≤ kind by omega)
      obtain ⟨p', rfl⟩ := Int.eq_ofNat_of_zero_le hp.1
      have hn : norm k' p' q = ((k' : Int), (p' : Int), (-1 : Int)) := by unfold norm; rw [if_neg (by omega), if_neg (by omega)]
      rw [hn]
      have far : ∀ j, j ≠ 67 → j ≠ 1 + k' * 6 + p' → chgF L k' p' q.toNat j = L j := fun j h1 h2 => by unfold chgF; rw [if_neg h1, if_neg (by omega), if_neg (by omega)]
      have a67 : chgF L k' p' q.toNat 67 = L 67 + 1 := if_pos rfl
      have ak : chgF L k' p' q.toNat (1 + k' * 6 + p') = L (1 + k' * 6 + p') + 1 := by unfold chgF; rw [if_neg (by omega), if_neg (by omega), if_pos ⟨by omega, rfl⟩]
      simp only [Int.toNat_natCast]
      refine ⟨by rw [a67, h.total]; simp, fun k p hk4 hp6 => ?_, fun p q hp6 hq6 => ?_, fun k p hk4 hpm => ?_, fun p hpm => ?_, fun p q hp0 hq0 hpm => ?_, fun q hq0 => ?_⟩
      · rw [countF_snoc]
        by_cases e : k = k' ∧ p = p'
        · obtain ⟨rfl, rfl⟩ := e
          have hmm : matchB k p (-2) ((k : Int), (p : Int), (-1 : Int)) = true := (match_iff _ _ _ _).2 ⟨rfl, .inr rfl, .inl rfl⟩
          rw [ak, h.of k p hk4 hp6, ite_yes hmm]
          omega
        · rw [far _ (by omega) (by omega), h.of k p hk4 hp6, ite_no (fun g => by have := (match_iff _ _ _ _).1 g; simp only at this; omega)]
      · rw [countF_snoc, far _ (by omega) (by omega), h.gave p q hp6 hq6, ite_no (fun g => by have := (match_iff _ _ _ _).1 g; simp only at this; omega)]
      · rw [countF_snoc, h.out1 k p hk4 hpm, ite_no (fun g => by have := (match_iff _ _ _ _).1 g; simp only at this; omega)]
      · rw [countF_snoc, h.out2 p hpm, ite_no (fun g => by have := (match_iff _ _ _ _).1 g; simp only at this; omega)]
      · rw [countF_snoc, h.out3 p q hp0 hq0 hpm, ite_no (fun g => by have := (match_iff _ _ _ _).1 g; simp only at this; omega)]
      · have no : ∀ r, (r = -2 ∨ 0 ≤ r) → ¬ matchB 1 r q ((k' : Int), (p' : Int), (-1 : Int)) = true := fun r _ g => by have := (match_iff _ _ _ _).1 g; simp only at this; omega
        simp only [countF_snoc]
        rw [ite_no (no _ (by omega)), ite_no (no _ (by omega)), ite_no (no _ (by omega)), ite_no (no _ (by omega)), ite_no (no _ (by omega)), ite_no (no _ (by omega)), ite_no (no _ (by omega))]
        exact h.got q hq0
    · rw [if_neg hk] at hf
      by_cases hk1 : kind = 1
      · rw [if_pos hk1, Bool.and_eq_true] at hf
        have hp := of_decide_eq_true hf.1
        have hpq := of_decide_eq_true hf.2
        subst hk1
        obtain ⟨p', rfl⟩ := Int.eq_ofNat_of_zero_le hp.1.1
        obtain ⟨q', rfl⟩ := Int.eq_ofNat_of_zero_le hp.2.1
        have hn : norm 1 p' q' = ((1 : Int), (p' : Int), (q' : Int)) := by unfold norm; rw [if_neg (by omega), if_pos rfl]
        rw [hn]
        simp only [Int.toNat_natCast, show (1 : Int).toNat = 1 from rfl]
        have far : ∀ j, j ≠ 67 → j ≠ 31 + p' * 6 + q' → j ≠ 7 + p' → chgF L 1 p' q' j = L j := fun j hj hj2 hj3 => by unfold chgF; rw [if_neg hj, if_neg (by omega), if_neg (by omega)]
        have a67 : chgF L 1 p' q' 67 = L 67 + 1 := if_pos rfl
        have ak : chgF L 1 p' q' (7 + p') = L (7 + p') + 1 := by unfold chgF; rw [if_neg (by omega), if_neg (by omega), if_pos ⟨by omega, by omega⟩]
        have ag : chgF L 1 p' q' (31 + p' * 6 + q') = L (31 + p' * 6 + q') + 1 := by unfold chgF; rw [if_neg (by omega), if_pos ⟨rfl, rfl⟩]
        refine ⟨by rw [a67, h.total]; simp, fun k p hk4 hp6 => ?_, fun p q hp6 hq6 => ?_, fun k p hk4 hpm => ?_, fun p hpm => ?_, fun p q hp0 hq0 hpm => ?_, fun q hq0 => ?_⟩
        · rw [countF_snoc]
          by_cases e : k = 1 ∧ p = p'
          · obtain ⟨rfl, rfl⟩ := e
            have h1 := h.of 1 p hk4 hp6
            rw [show 1 + 1 * 6 + p = 7 + p from by omega] at h1 ⊢
            have hmm : matchB (1 : Nat) p (-2) ((1 : Int), (p : Int), (q' : Int)) = true := (match_iff _ _ _ _).2 ⟨rfl, .inr rfl, .inl rfl⟩
            rw [ak, h1, ite_yes hmm]
            omega
          · rw [far _ (by omega) (by omega) (by omega), h.of k p hk4 hp6, ite_no (fun g => by have := (match_iff _ _ _ _).1 g; simp only at this; omega)]
        · rw [countF_snoc]
          by_cases e : p = p' ∧ q = q'
          · obtain ⟨rfl, rfl⟩ := e
            have hmm : matchB 1 p q ((1 : Int), (p : Int), (q : Int)) = true := (match_iff _ _ _ _).2 ⟨rfl, .inr rfl, .inr rfl⟩
            rw [ag, h.gave p q hp6 hq6, ite_yes hmm]
            omega
          · rw [far _ (by omega) (by omega) (by omega), h.gave p q hp6 hq6, ite_no (fun g => by have := (match_iff _ _ _ _).1 g; simp only at this; omega)]
        · rw [countF_snoc, h.out1 k p hk4 hpm, ite_no (fun g => by have := (match_iff _ _ _ _).1 g; simp only at this; omega)]
        · rw [countF_snoc, h.out2 p hpm, ite_no (fun g => by have := (match_iff _ _ _ _).1 g; simp only at this; omega)]
        · rw [countF_snoc, h.out3 p q hp0 hq0 hpm, ite_no (fun g => by have := (match_iff _ _ _ _).1 g; simp only at this; omega)]
        · have one : ∀ r, 0 ≤ r → (if matchB 1 r q ((1 : Int), (p' : Int), (q' : Int)) = true then 1 else 0) = if r = (p' : Int) ∧ q = (q' : Int) then 1 else 0 := fun r hr => by
            by_cases e : r = (p' : Int) ∧ q = (q' : Int)
            · have hmm : matchB 1 r q ((1 : Int), (p' : Int), (q' : Int)) = true := (match_iff _ _ _ _).2 ⟨rfl, .inr e.1.symm, .inr e.2.symm⟩
              rw [if_pos e, if_pos hmm]
            · rw [if_neg e, if_neg (fun g => by have := (match_iff _ _ _ _).1 g; simp only at this; omega)]
          have all : (if matchB 1 (-2) q ((1 : Int), (p' : Int), (q' : Int)) = true then 1 else 0) = if q = (q' : Int) then 1 else 0 := by
            by_cases e : q = (q' : Int)
            · have hmm : matchB 1 (-2) q ((1 : Int), (p' : Int), (q' : Int)) = true := (match_iff _ _ _ _).2 ⟨rfl, .inl rfl, .inr e.symm⟩
              rw [if_pos e, if_pos hmm]
            · rw [if_neg e, if_neg (fun g => by have := (match_iff _ _ _ _).1 g; simp only at this; omega)]
          simp only [countF_snoc]
          rw [one 0 (by omega), one 1 (by omega), one 2 (by omega), one 3 (by omega), one 4 (by omega), one 5 (by omega), all, h.got q hq0]
          have h6 : p' = 0 ∨ p' = 1 ∨ p' = 2 ∨ p' = 3 ∨ p' = 4 ∨ p' = 5 := by omega
          by_cases e : q = (q' : Int)
          · rcases h6 with rfl | rfl | rfl | rfl | rfl | rfl <;> simp [e] <;> omega
          · simp [e]
      · rw [if_neg hk1] at hf
        have hk4 := of_decide_eq_true hf
        subst hk4
        have hn : norm 4 p q = ((4 : Int), (-1 : Int), (-1 : Int)) := if_pos rfl
        rw [hn]
        have far : ∀ j, j ≠ 67 → chgF L 4 p.toNat q.toNat j = L j := fun j hj => by unfold chgF; rw [if_neg hj, if_neg (by omega), if_neg (by omega)]
        have a67 : chgF L 4 p.toNat q.toNat 67 = L 67 + 1 := if_pos rfl
        have no : ∀ k r s, k ≠ 4 → ¬ matchB k r s ((4 : Int), (-1 : Int), (-1 : Int)) = true := fun k r s hk g => by have := (match_iff _ _ _ _).1 g; simp only at this; omega
        simp only [show (4 : Int).toNat = 4 from rfl]
        refine ⟨by rw [a67, h.total]; simp, fun k p hk4 hp6 => ?_, fun p q hp6 hq6 => ?_, fun k p hk4 hpm => ?_, fun p hpm => ?_, fun p q hp0 hq0 hpm => ?_, fun q hq0 => ?_⟩
        · rw [countF_snoc, far _ (by omega), h.of k p hk4 hp6, ite_no (no _ _ _ (by omega))]
        · rw [countF_snoc, far _ (by omega), h.gave p q hp6 hq6, ite_no (no _ _ _ (by omega))]
        · rw [countF_snoc, h.out1 k p hk4 hpm, ite_no (no _ _ _ hk4)]
        · rw [countF_snoc, h.out2 p hpm, ite_no (no _ _ _ (by omega))]
        · rw [countF_snoc, h.out3 p q hp0 hq0 hpm, ite_no (no _ _ _ (by omega))]
        · simp only [countF_snoc]
          rw [ite_no (no _ _ _ (by omega)), ite_no (no _ _ _ (by omega)), ite_no (no _ _ _ (by omega)), ite_no (no _ _ _ (by omega)), ite_no (no _ _ _ (by omega)), ite_no (no _ _ _ (by omega)), ite_no (no _ _ _ (by omega))]
          exact h.got q hq0
  · rw [if_neg hf, if_neg hf]
    exact h
end Go.Proofs.Ytfpigcjhonfcjaa
