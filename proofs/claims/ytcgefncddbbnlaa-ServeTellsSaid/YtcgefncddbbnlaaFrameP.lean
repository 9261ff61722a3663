/-
  Windows of a frame: whose a place is, how many are open. No program in sight.
-/
import Derived.Test.YtcgefncddbbnlaaLib
namespace Go.Proofs.Ytcgefncddbbnlaa.Fr

abbrev W3 := Int × Int × Int
/-- May the windows be, from at on? -/
def fitsB (F : Int) : Int → List W3 → Bool
  | _, [] => true
  | at_, x :: t => decide (at_ ≤ x.1 ∧ x.1 < F ∧ 1 ≤ x.2.1 ∧ x.2.1 ≤ F - x.1 ∧ 0 ≤ x.2.2 ∧ x.2.2 < 6) && fitsB F (x.1 + x.2.1) t
def rightB (F M : Int) (ws : List W3) : Bool := decide (1 ≤ F ∧ F ≤ 256 ∧ 0 ≤ M ∧ M ≤ 8 ∧ ws.length ≤ 32) && fitsB F 0 ws
/-- Whose a place is, and what it is. -/
def ownR (M pl : Int) : List W3 → Int × Int
  | [] => (-1, 0)
  | x :: t => if x.1 ≤ pl ∧ pl - x.1 < x.2.1 then (x.2.2, if pl - x.1 < M then 1 else 2) else ownR M pl t
def isO (M : Int) (ws : List W3) (p pl : Int) : Bool := decide (ownR M pl ws = (p, 2))
/-- How many places ahead of i are open to p. -/
def cntO (M : Int) (ws : List W3) (p : Int) : Nat → Int
  | 0 => 0
  | i + 1 => cntO M ws p i + if isO M ws p i then 1 else 0

theorem cntO_le (M : Int) (ws : List W3) (p : Int) : ∀ i, 0 ≤ cntO M ws p i ∧ cntO M ws p i ≤ i
  | 0 => by simp [cntO]
  | i + 1 => by
    have := cntO_le M ws p i
    simp only [cntO]
    split <;> omega
theorem cntO_mono (M : Int) (ws : List W3) (p : Int) (i : Nat) : ∀ j, cntO M ws p i ≤ cntO M ws p (i + j) ∧ cntO M ws p (i + j) ≤ cntO M ws p i + j
  | 0 => by simp
  | j + 1 => by
    have := cntO_mono M ws p i j
    rw [← Nat.add_assoc]
    simp only [cntO]
    split <;> omega

theorem fitsB_cons {F at_ : Int} {x : W3} {t : List W3} (h : fitsB F at_ (x :: t) = true) : at_ ≤ x.1 ∧ x.1 < F ∧ 1 ≤ x.2.1 ∧ x.2.1 ≤ F - x.1 ∧ 0 ≤ x.2.2 ∧ x.2.2 < 6 ∧ fitsB F (x.1 + x.2.1) t = true := by
  simp only [fitsB, Bool.and_eq_true, decide_eq_true_eq] at h
  exact ⟨h.1.1, h.1.2.1, h.1.2.2.1, h.1.2.2.2.1, h.1.2.2.2.2.1, h.1.2.2.2.2.2, h.2⟩
/-- All windows lie from at on, in the frame. -/
theorem fitsB_mem {F : Int} : ∀ {ws : List W3} {at_ : Int}, fitsB F at_ ws = true → ∀ x ∈ ws, at_ ≤ x.1 ∧ x.1 < F ∧ 1 ≤ x.2.1 ∧ x.2.1 ≤ F - x.1 ∧ 0 ≤ x.2.2 ∧ x.2.2 < 6
  | [], _, _, x, hx => by cases hx
  | y :: t, at_, h, x, hx => by
    obtain ⟨h1, h2, h3, h4, h5, h6, h7⟩ := fitsB_cons h
    rcases List.mem_cons.1 hx with rfl | hx
    · exact ⟨h1, h2, h3, h4, h5, h6⟩
    · have := fitsB_mem h7 x hx
      omega
theorem ownR_none {M pl : Int} : ∀ {ws : List W3}, (∀ x ∈ ws, ¬ (x.1 ≤ pl ∧ pl - x.1 < x.2.1)) → ownR M pl ws = (-1, 0)
  | [], _ => rfl
  | x :: t, h => by
    unfold ownR
    rw [if_neg (h x (List.mem_cons_self ..))]
    exact ownR_none (fun y hy => h y (List.mem_cons_of_mem _ hy))
/-- Behind the windows that begin behind a place. -/
theorem ownR_early {F M pl : Int} {ws : List W3} {at_ : Int} (h : fitsB F at_ ws = true) (hp : pl < at_) : ownR M pl ws = (-1, 0) :=
  ownR_none (fun x hx => by have := fitsB_mem h x hx; omega)
/-- The window in which a place is, is the one that says whose it is. -/
theorem ownR_of_mem {F M pl : Int} : ∀ {ws : List W3} {at_ : Int}, fitsB F at_ ws = true → ∀ x ∈ ws, x.1 ≤ pl → pl - x.1 < x.2.1 → ownR M pl ws = (x.2.2, if pl - x.1 < M then 1 else 2)
  | [], _, _, x, hx => by cases hx
  | y :: t, at_, h, x, hx => by
    intro h1 h2
    obtain ⟨g1, g2, g3, g4, g5, g6, g7⟩ := fitsB_cons h
    rcases List.mem_cons.1 hx with rfl | hx
    · unfold ownR
      rw [if_pos ⟨h1, h2⟩]
    · have := fitsB_mem g7 x hx
      unfold ownR
      rw [if_neg (by omega)]
      exact ownR_of_mem g7 x hx h1 h2
/-- Rising. -/
theorem fitsB_rise {F : Int} : ∀ {ws : List W3} {at_ : Int}, fitsB F at_ ws = true → ∀ (i j : Nat) (x y : W3), i < j → ws[i]? = some x → ws[j]? = some y → x.1 + x.2.1 ≤ y.1
  | [], _, _, i, j, x, y, _, hx, _ => by simp at hx
  | z :: t, at_, h, 0, j + 1, x, y, _, hx, hy => by
    obtain ⟨g1, g2, g3, g4, g5, g6, g7⟩ := fitsB_cons h
    simp at hx hy
    subst hx
    exact (fitsB_mem g7 y (List.mem_of_getElem? hy)).1
  | z :: t, at_, h, i + 1, j + 1, x, y, hij, hx, hy => by
    obtain ⟨g1, g2, g3, g4, g5, g6, g7⟩ := fitsB_cons h
    exact fitsB_rise g7 i j x y (by omega) (by simpa using hx) (by simpa using hy)
theorem isO_part {F M : Int} {ws : List W3} (h : fitsB F 0 ws = true) (p pl : Int) (hp : ¬ (0 ≤ p ∧ p < 6)) : isO M ws p pl = false := by
  unfold isO
  refine decide_eq_false (fun e => ?_)
  by_cases hx : ∃ x ∈ ws, x.1 ≤ pl ∧ pl - x.1 < x.2.1
  · obtain ⟨x, hx, h1, h2⟩ := hx
    rw [ownR_of_mem h x hx h1 h2] at e
    have := fitsB_mem h x hx
    injection e with e1
    omega
  · rw [ownR_none (fun x hx' h' => hx ⟨x, hx', h'⟩)] at e
    injection e with _ e2
    cases e2
theorem cntO_part {F M : Int} {ws : List W3} (h : fitsB F 0 ws = true) (p : Int) (hp : ¬ (0 ≤ p ∧ p < 6)) : ∀ i, cntO M ws p i = 0
  | 0 => rfl
  | i + 1 => by rw [cntO, cntO_part h p hp i, isO_part h p i hp]; rfl
/-- A place is open to p just if it is in a window of p's behind the margin. -/
theorem isO_iff {F M : Int} {ws : List W3} (h : fitsB F 0 ws = true) (hM : 0 ≤ M) (p pl : Int) : isO M ws p pl = true ↔ ∃ x ∈ ws, x.2.2 = p ∧ min (x.1 + M) (x.1 + x.2.1) ≤ pl ∧ pl < x.1 + x.2.1 := by
  unfold isO
  rw [decide_eq_true_eq]
  constructor
  · intro e
    by_cases hx : ∃ x ∈ ws, x.1 ≤ pl ∧ pl - x.1 < x.2.1
    · obtain ⟨x, hx, h1, h2⟩ := hx
      rw [ownR_of_mem h x hx h1 h2] at e
      injection e with e1 e2
      refine ⟨x, hx, e1, ?_, by omega⟩
      by_cases hlt : pl - x.1 < M
      · rw [if_pos hlt] at e2; cases e2
      · omega
    · rw [ownR_none (fun x hx' h' => hx ⟨x, hx', h'⟩)] at e
      injection e with _ e2
      cases e2
  · rintro ⟨x, hx, h1, h2, h3⟩
    have hm := fitsB_mem h x hx
    rw [ownR_of_mem h x hx (by omega) (by omega), if_neg (by omega), h1]

/-- Open places among n, from one on, a frame after the other. -/
def cntF (M : Int) (ws : List W3) (p : Int) (F : Int) (from_ : Int) : Nat → Int
  | 0 => 0
  | i + 1 => cntF M ws p F from_ i + if isO M ws p ((from_ + i) % F) then 1 else 0
theorem cntF_le (M : Int) (ws : List W3) (p F f : Int) : ∀ i, 0 ≤ cntF M ws p F f i ∧ cntF M ws p F f i ≤ i
  | 0 => by simp [cntF]
  | i + 1 => by
    have := cntF_le M ws p F f i
    simp only [cntF]
    split <;> omega
theorem cntF_add (M : Int) (ws : List W3) (p F f : Int) (i : Nat) : ∀ j, cntF M ws p F f (i + j) = cntF M ws p F f i + cntF M ws p F (f + i) j
  | 0 => by simp [cntF]
  | j + 1 => by
    rw [← Nat.add_assoc]
    simp only [cntF, cntF_add M ws p F f i j]
    rw [show f + ((i + j : Nat) : Int) = f + i + j by omega]
    omega
theorem cntF_mod (M : Int) (ws : List W3) (p F f : Int) : ∀ i, cntF M ws p F (f % F) i = cntF M ws p F f i
  | 0 => rfl
  | i + 1 => by simp only [cntF, cntF_mod M ws p F f i, Int.emod_add_emod]
/-- Within a frame: a difference. -/
theorem cntF_in (M : Int) (ws : List W3) (p : Int) (F a : Nat) : ∀ i, a + i ≤ F → cntF M ws p F a i = cntO M ws p (a + i) - cntO M ws p a
  | 0, _ => by simp [cntF]
  | i + 1, h => by
    rw [← Nat.add_assoc]
    simp only [cntF, cntO, cntF_in M ws p F a i (by omega)]
    rw [show ((a : Int) + (i : Int)) % (F : Int) = ((a + i : Nat) : Int) by rw [Int.emod_eq_of_lt (by omega) (by omega)]; omega]
    omega
theorem cntF_turn (M : Int) (ws : List W3) (p : Int) (F a i : Nat) (_ : 0 < F) (ha : a < F) (hi : i ≤ F) :
    cntF M ws p F a i = if a + i ≤ F then cntO M ws p (a + i) - cntO M ws p a else cntO M ws p F - cntO M ws p a + cntO M ws p (a + i - F) := by
  split
  next h => exact cntF_in M ws p F a i h
  next h =>
    have e : i = (F - a) + (a + i - F) := by omega
    have h1 := cntF_add M ws p F a (F - a) (a + i - F)
    rw [← e] at h1
    have h2 := cntF_in M ws p F a (F - a) (by omega)
    have h3 := cntF_in M ws p F 0 (a + i - F) (by omega)
    have h4 := cntF_mod M ws p F ((a : Int) + (F - a : Nat)) (a + i - F)
    rw [show ((a : Int) + (F - a : Nat)) = (F : Int) by omega] at h1 h4
    rw [Int.emod_self] at h4
    rw [h1, h2, ← h4]
    have h5 : cntF M ws p (F : Int) ((0 : Nat) : Int) (a + i - F) = cntF M ws p (F : Int) 0 (a + i - F) := rfl
    rw [← h5, h3, show a + (F - a) = F by omega]
    simp [cntO]
/-- A whole frame has as many, wherever it begins. -/
theorem cntF_frame (M : Int) (ws : List W3) (p : Int) (F : Nat) (hF : 0 < F) (f : Int) : cntF M ws p F f F = cntO M ws p F := by
  rw [← cntF_mod]
  obtain ⟨a, ha⟩ : ∃ a : Nat, f % (F : Int) = a := ⟨(f % (F : Int)).toNat, by have := Int.emod_nonneg f (show (F : Int) ≠ 0 by omega); omega⟩
  have hlt : a < F := by have := Int.emod_lt_of_pos f (show (0 : Int) < (F : Int) by omega); omega
  rw [ha, cntF_turn M ws p F a F hF hlt (Nat.le_refl _)]
  split
  next h =>
    have : a = 0 := by omega
    subst this
    simp [cntO]
  next h => rw [show a + F - F = a by omega]; omega
theorem cntF_frames (M : Int) (ws : List W3) (p : Int) (F : Nat) (hF : 0 < F) (f : Int) : ∀ q r : Nat, cntF M ws p F f (q * F + r) = q * cntO M ws p F + cntF M ws p F f r
  | 0, r => by simp
  | q + 1, r => by
    have h1 := cntF_add M ws p F f F (q * F + r)
    rw [show (q + 1) * F + r = F + (q * F + r) by rw [Nat.add_mul]; omega, h1, cntF_frame M ws p F hF]
    have h2 := cntF_frames M ws p F hF (f + F) q r
    have h3 : cntF M ws p F (f + F) r = cntF M ws p F f r := by
      rw [← cntF_mod M ws p F (f + F), show (f + (F : Int)) % (F : Int) = f % (F : Int) by simp, cntF_mod]
    rw [h2, h3, Int.natCast_add q 1, Int.add_mul]
    simp
    omega
end Go.Proofs.Ytcgefncddbbnlaa.Fr
