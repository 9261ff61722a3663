/-
  The plain law of a ledger: no Go here.
-/
import Derived.Test.YtfpigcjhonfcjaaLedger2
namespace Go.Proofs.Ytfpigcjhonfcjaa
open Go.RowKit

def sumN (f : Nat → Int) : Nat → Int
  | 0 => 0
  | n + 1 => sumN f n + f n
theorem sumN_congr {f g : Nat → Int} : ∀ n, (∀ i, i < n → g i = f i) → sumN g n = sumN f n
  | 0, _ => rfl
  | n + 1, h => by rw [sumN, sumN, sumN_congr n (fun i hi => h i (by omega)), h n (by omega)]
theorem sumN_bump {f g : Nat → Int} {j : Nat} : ∀ n, j < n → (∀ i, i < n → i ≠ j → g i = f i) → g j = f j + 1 → sumN g n = sumN f n + 1
  | 0, hj, _, _ => by omega
  | n + 1, hj, h, e => by
    rw [sumN, sumN]
    by_cases hjn : j = n
    · subst hjn
      rw [sumN_congr j (fun i hi => h i (by omega) (by omega)), e]
      omega
    · rw [sumN_bump n (by omega) (fun i hi => h i (by omega)) e, h n (by omega) (by omega)]
      omega
theorem sumN_bd {f : Nat → Int} {B : Int} : ∀ n : Nat, (∀ i, i < n → 0 ≤ f i ∧ f i ≤ B) → 0 ≤ sumN f n ∧ sumN f n ≤ n * B
  | 0, _ => by simp [sumN]
  | n + 1, h => by
    have h1 := sumN_bd n (fun i hi => h i (by omega))
    have h2 := h n (by omega)
    rw [sumN]
    have e : ((n + 1 : Nat) : Int) * B = n * B + B := by rw [Int.natCast_succ, Int.add_mul, Int.one_mul]
    omega

/-- A charge, by what it adds. -/
def chgF (L : Nat → Int) (kind p q : Nat) : Nat → Int := fun j =>
  if j = 67 then L j + 1 else if kind = 1 ∧ j = 31 + p * 6 + q then L j + 1 else if kind < 4 ∧ j = 1 + kind * 6 + p then L j + 1 else L j

theorem chgF_gap (L : Nat → Int) (p q : Nat) : setL L 67 (L 67 + 1) = chgF L 4 p q := by
  funext j
  simp only [setL, chgF]
  by_cases h : j = 67
  · subst h; simp
  · rw [if_neg h, if_neg h, if_neg (by omega), if_neg (by omega)]
theorem chgF_one (L : Nat → Int) (kind p q : Nat) (hk : kind = 0 ∨ kind = 2 ∨ kind = 3) (hp : p < 6) : setL (setL L 67 (L 67 + 1)) (1 + kind * 6 + p) (L (1 + kind * 6 + p) + 1) = chgF L kind p q := by
  funext j
  simp only [setL, chgF]
  by_cases h : j = 67
  · subst h; rw [if_neg (by omega)]; simp
  · rw [if_neg (show ¬ j = 67 from h), if_neg h, if_neg (show ¬ (kind = 1 ∧ j = 31 + p * 6 + q) from by omega)]
    by_cases h2 : j = 1 + kind * 6 + p
    · rw [if_pos h2, if_pos ⟨by omega, h2⟩, h2]
    · rw [if_neg h2, if_neg (by omega)]
theorem chgF_given (L : Nat → Int) (p q : Nat) (hp : p < 6) (hq : q < 6) :
    setL (setL (setL L 67 (L 67 + 1)) (31 + p * 6 + q) (L (31 + p * 6 + q) + 1)) (7 + p) (L (7 + p) + 1) = chgF L 1 p q := by
  funext j
  simp only [setL]
  unfold chgF
  by_cases h : j = 67
  · subst h; rw [if_neg (by omega), if_neg (by omega)]; simp
  · rw [if_neg (show ¬ j = 67 from h), if_neg h]
    by_cases h1 : j = 31 + p * 6 + q
    · rw [if_neg (by omega), if_pos h1, if_pos ⟨rfl, h1⟩, h1]
    · rw [if_neg (show ¬ (1 = 1 ∧ j = 31 + p * 6 + q) from by omega)]
      by_cases h2 : j = 7 + p
      · rw [if_pos h2, if_pos ⟨by omega, by omega⟩, h2]
      · rw [if_neg h2, if_neg h1, if_neg (by omega)]

structure Inv (m : Nat) (L : Nat → Int) (ok gaps : Int) : Prop where
  parts : L 0 = m
  le : m ≤ 6
  total : L 67 = ok
  bd : ∀ i, 0 < i → 0 ≤ L i ∧ L i ≤ ok
  sum : L 67 = gaps + sumN (fun p => sumN (fun k => L (1 + k * 6 + p)) 4) 6
  row : ∀ p, p < 6 → L (7 + p) = sumN (fun q => L (31 + p * 6 + q)) 6
  diag : ∀ p, p < 6 → L (31 + p * 6 + p) = 0
  out1 : ∀ k p, k < 4 → m ≤ p → p < 6 → L (1 + k * 6 + p) = 0
  out2 : ∀ p q, p < 6 → q < 6 → (m ≤ p ∨ m ≤ q) → L (31 + p * 6 + q) = 0

theorem Inv.new (m : Nat) (hm : m ≤ 6) : Inv m (fun i => if i = 0 then (m : Int) else 0) 0 0 := by
  have z : ∀ i, 0 < i → (if i = 0 then (m : Int) else 0) = 0 := fun i hi => if_neg (by omega)
  refine ⟨rfl, hm, rfl, fun i hi => by rw [z i hi]; omega, ?_, fun p hp => ?_, fun p hp => z _ (by omega), fun k p _ _ _ => z _ (by omega), fun p q _ _ _ => z _ (by omega)⟩
  · simp [sumN]
  · simp [sumN]

theorem Inv.gap {m : Nat} {L : Nat → Int} {ok gaps : Int} (h : Inv m L ok gaps) (p q : Nat) : Inv m (chgF L 4 p q) (ok + 1) (gaps + 1) := by
  have far : ∀ j, j ≠ 67 → chgF L 4 p q j = L j := fun j hj => by unfold chgF; rw [if_neg hj, if_neg (by omega), if_neg (by omega)]
  have at67 : chgF L 4 p q 67 = L 67 + 1 := if_pos rfl
  refine ⟨by rw [far 0 (by omega), h.parts], h.le, by rw [at67, h.total], fun i hi => ?_, ?_, fun p hp => ?_, fun p hp => ?_, fun k p hk hm hp => ?_, fun p q hp hq hm => ?_⟩
  · by_cases e : i = 67
    · subst e; rw [at67, h.total]; have := h.bd 67 (by omega); rw [h.total] at this; omega
    · rw [far i e]; have := h.bd i hi; omega
  · rw [at67, sumN_congr 6 (f := fun p => sumN (fun k => L (1 + k * 6 + p)) 4) (fun p hp => sumN_congr 4 (fun k hk => far _ (by omega))), h.sum]
    omega
  · rw [far _ (by omega), h.row p hp]
    exact (sumN_congr 6 (fun q hq => far _ (by omega))).symm
  · rw [far _ (by omega), h.diag p hp]
  · rw [far _ (by omega), h.out1 k p hk hm hp]
  · rw [far _ (by omega), h.out2 p q hp hq hm]

theorem Inv.one {m : Nat} {L : Nat → Int} {ok gaps : Int} (h : Inv m L ok gaps) (kind p q : Nat) (hk : kind = 0 ∨ kind = 2 ∨ kind = 3) (hp : p < m) : Inv m (chgF L kind p q) (ok + 1) gaps := by
  have hm := h.le
  have far : ∀ j, j ≠ 67 → j ≠ 1 + kind * 6 + p → chgF L kind p q j = L j := fun j hj hj2 => by unfold chgF; rw [if_neg hj, if_neg (by omega), if_neg (by omega)]
  have at67 : chgF L kind p q 67 = L 67 + 1 := if_pos rfl
  have atk : chgF L kind p q (1 + kind * 6 + p) = L (1 + kind * 6 + p) + 1 := by unfold chgF; rw [if_neg (by omega), if_neg (by omega), if_pos ⟨by omega, rfl⟩]
  refine ⟨by rw [far 0 (by omega) (by omega), h.parts], h.le, by rw [at67, h.total], fun i hi => ?_, ?_, fun p' hp' => ?_, fun p' hp' => ?_, fun k' p' hk' hm' hp' => ?_, fun p' q' hp' hq' hm' => ?_⟩
  · by_cases e : i = 67
    · subst e; rw [at67, h.total]; have := h.bd 67 (by omega); rw [h.total] at this; omega
    · by_cases e2 : i = 1 + kind * 6 + p
      · rw [e2, atk]; have := h.bd (1 + kind * 6 + p) (by omega); omega
      · rw [far i e e2]; have := h.bd i hi; omega
  · rw [at67, sumN_bump 6 (f := fun p => sumN (fun k => L (1 + k * 6 + p)) 4) (j := p) (by omega) (fun p' hp' hne => sumN_congr 4 (fun k hk => far _ (by omega) (by omega))) (sumN_bump 4 (j := kind) (by omega) (fun k hk hne => far _ (by omega) (by omega)) atk), h.sum]
    omega
  · rw [far _ (by omega) (by omega), h.row p' hp']
    exact (sumN_congr 6 (fun q hq => far _ (by omega) (by omega))).symm
  · rw [far _ (by omega) (by omega), h.diag p' hp']
  · rw [far _ (by omega) (by omega), h.out1 k' p' hk' hm' hp']
  · rw [far _ (by omega) (by omega), h.out2 p' q' hp' hq' hm']

theorem Inv.given {m : Nat} {L : Nat → Int} {ok gaps : Int} (h : Inv m L ok gaps) (p q : Nat) (hp : p < m) (hq : q < m) (hpq : p ≠ q) : Inv m (chgF L 1 p q) (ok + 1) gaps := by
  have hm := h.le
  have far : ∀ j, j ≠ 67 → j ≠ 31 + p * 6 + q → j ≠ 7 + p → chgF L 1 p q j = L j := fun j hj hj2 hj3 => by unfold chgF; rw [if_neg hj, if_neg (by omega), if_neg (by omega)]
  have at67 : chgF L 1 p q 67 = L 67 + 1 := if_pos rfl
  have atk : chgF L 1 p q (7 + p) = L (7 + p) + 1 := by unfold chgF; rw [if_neg (by omega), if_neg (by omega), if_pos ⟨by omega, by omega⟩]
  have atg : chgF L 1 p q (31 + p * 6 + q) = L (31 + p * 6 + q) + 1 := by unfold chgF; rw [if_neg (by omega), if_pos ⟨rfl, rfl⟩]
  refine ⟨by rw [far 0 (by omega) (by omega) (by omega), h.parts], h.le, by rw [at67, h.total], fun i hi => ?_, ?_, fun p' hp' => ?_, fun p' hp' => ?_, fun k' p' hk' hm' hp' => ?_, fun p' q' hp' hq' hm' => ?_⟩
  · by_cases e : i = 67
    · subst e; rw [at67, h.total]; have := h.bd 67 (by omega); rw [h.total] at this; omega
    · by_cases e2 : i = 31 + p * 6 + q
      · rw [e2, atg]; have := h.bd (31 + p * 6 + q) (by omega); omega
      · by_cases e3 : i = 7 + p
        · rw [e3, atk]; have := h.bd (7 + p) (by omega); omega
        · rw [far i e e2 e3]; have := h.bd i hi; omega
  · rw [at67, sumN_bump 6 (f := fun p => sumN (fun k => L (1 + k * 6 + p)) 4) (j := p) (by omega) (fun p' hp' hne => sumN_congr 4 (fun k hk => far _ (by omega) (by omega) (by omega)))
      (sumN_bump 4 (j := 1) (by omega) (fun k hk hne => far _ (by omega) (by omega) (by omega)) atk), h.sum]
    omega
  · by_cases e : p' = p
    · subst e
      rw [atk, h.row p' hp']
      exact (sumN_bump 6 (j := q) (by omega) (fun q' hq' hne => far _ (by omega) (by omega) (by omega)) atg).symm
    · rw [far _ (by omega) (by omega) (by omega), h.row p' hp']
      exact (sumN_congr 6 (fun q hq => far _ (by omega) (by omega) (by omega))).symm
  · rw [far _ (by omega) (by omega) (by omega), h.diag p' hp']
  · rw [far _ (by omega) (by omega) (by omega), h.out1 k' p' hk' hm' hp']
  · rw [far _ (by omega) (by omega) (by omega), h.out2 p' q' hp' hq' hm']

/-- What all gave is what all got. -/
theorem Inv.both {m : Nat} {L : Nat → Int} {ok gaps : Int} (h : Inv m L ok gaps) : sumN (fun p => L (7 + p)) 6 = sumN (gotOf L) 6 := by
  rw [sumN_congr 6 (f := fun p => sumN (fun q => L (31 + p * 6 + q)) 6) (fun p hp => h.row p hp)]
  simp [sumN, gotOf]
  omega
theorem Inv.got_bd {m : Nat} {L : Nat → Int} {ok gaps : Int} (h : Inv m L ok gaps) (p : Nat) : 0 ≤ gotOf L p ∧ gotOf L p ≤ 6 * ok := by
  have h1 := h.bd (31 + p) (by omega)
  have h2 := h.bd (37 + p) (by omega)
  have h3 := h.bd (43 + p) (by omega)
  have h4 := h.bd (49 + p) (by omega)
  have h5 := h.bd (55 + p) (by omega)
  have h6 := h.bd (61 + p) (by omega)
  unfold gotOf
  omega
theorem Inv.got_out {m : Nat} {L : Nat → Int} {ok gaps : Int} (h : Inv m L ok gaps) (p : Nat) (hm : m ≤ p) (hp : p < 6) : gotOf L p = 0 := by
  have h1 := h.out2 0 p (by omega) hp (.inr hm)
  have h2 := h.out2 1 p (by omega) hp (.inr hm)
  have h3 := h.out2 2 p (by omega) hp (.inr hm)
  have h4 := h.out2 3 p (by omega) hp (.inr hm)
  have h5 := h.out2 4 p (by omega) hp (.inr hm)
  have h6 := h.out2 5 p (by omega) hp (.inr hm)
  unfold gotOf
  simp at h1 h2 h3 h4 h5 h6
  omega

/-- A charge of whatever numbers: what it answers, and what the ledger is then. -/
def chgI (L : Nat → Int) (kind p q : Int) : Nat → Int := if fineB (L 0) kind p q = true then chgF L kind.toNat p.toNat q.toNat else L
def okI (P kind p q : Int) : Int := if fineB P kind p q = true then 0 else 1

theorem Inv.step {m : Nat} {L : Nat → Int} {ok gaps : Int} (h : Inv m L ok gaps) (kind p q : Int) :
    Inv m (chgI L kind p q) (ok + if okI m kind p q = 0 then 1 else 0) (gaps + if okI m kind p q = 0 ∧ kind = 4 then 1 else 0) := by
  unfold chgI okI
  rw [h.parts]
  by_cases hf : fineB m kind p q = true
  · rw [if_pos hf, if_pos hf]
    simp only [if_true, true_and]
    unfold fineB at hf
    by_cases hk : kind = 0 ∨ kind = 2 ∨ kind = 3
    · rw [if_pos hk] at hf
      have hp := of_decide_eq_true hf
      rw [if_neg (by omega), Int.add_zero]
      exact h.one _ _ _ (by omega) (by omega)
    · rw [if_neg hk] at hf
      by_cases hk1 : kind = 1
      · rw [if_pos hk1, Bool.and_eq_true] at hf
        have hp := of_decide_eq_true hf.1
        have hpq := of_decide_eq_true hf.2
        subst hk1
        rw [if_neg (by omega), Int.add_zero]
        exact h.given _ _ (by omega) (by omega) (by omega)
      · rw [if_neg hk1] at hf
        have hk4 := of_decide_eq_true hf
        subst hk4
        rw [if_pos rfl]
        exact h.gap _ _
  · rw [if_neg hf, if_neg hf]
    simp only [Int.one_ne_zero, if_false, false_and, Int.add_zero]
    exact h
end Go.Proofs.Ytfpigcjhonfcjaa
