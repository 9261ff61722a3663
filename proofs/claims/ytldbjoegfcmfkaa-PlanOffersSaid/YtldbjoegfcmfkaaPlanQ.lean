/-
  The widest window, and the gaps of a frame. No program in sight.
-/
import Derived.Test.YtldbjoegfcmfkaaFrameP
namespace Go.Proofs.Ytldbjoegfcmfkaa

def maxN : List Int → Int
  | [] => 0
  | x :: t => t.foldl max x
theorem maxN_snoc (l : List Int) (x : Int) : maxN (l ++ [x]) = if l = [] then x else max (maxN l) x := by
  cases l with
  | nil => rfl
  | cons y t => simp [maxN, List.foldl_append]
def wideL (p : Int) (ws : List W3) : List Int := ws.filterMap (fun x => if x.2.2 = p then some x.2.1 else none)
theorem wideL_snoc (p : Int) (ws : List W3) (x : W3) : wideL p (ws ++ [x]) = if x.2.2 = p then wideL p ws ++ [x.2.1] else wideL p ws := by
  unfold wideL
  rw [List.filterMap_append]
  by_cases h : x.2.2 = p <;> simp [h]
theorem wideL_len (p : Int) (ws : List W3) : (wideL p ws).length ≤ ws.length := List.length_filterMap_le _ _

def stepG (s : List W3 × Int) (x : W3) : List W3 × Int := (if s.2 < x.1 then s.1 ++ [(s.2, x.1 - s.2, 0)] else s.1, x.1 + x.2.1)
def gapsN (F : Int) (ws : List W3) : List W3 := ((ws ++ [(F, 0, 0)]).foldl stepG ([], 0)).1
def oneG (e j : Int) : List W3 := if e < j then [(e, j - e, 0)] else []
/-- The gaps from e on, ahead of i. -/
def gapsC (i : Int) : Int → List W3 → List W3
  | e, [] => oneG e i
  | e, x :: t => if i ≤ x.1 then oneG e i else oneG e x.1 ++ gapsC i (x.1 + x.2.1) t
theorem gapsC_fold (F : Int) : ∀ (ws : List W3) (o : List W3) (e : Int), fitsB F e ws = true → ((ws ++ [(F, 0, 0)]).foldl stepG (o, e)).1 = o ++ gapsC F e ws
  | [], o, e, _ => by
    simp only [List.nil_append, List.foldl_cons, List.foldl_nil, stepG, gapsC, oneG]
    split <;> simp
  | x :: t, o, e, h => by
    obtain ⟨h1, h2, h3, h4, h5, h6, h7⟩ := fitsB_cons h
    rw [List.cons_append, List.foldl_cons]
    show ((t ++ [(F, 0, 0)]).foldl stepG (if e < x.1 then o ++ [(e, x.1 - e, 0)] else o, x.1 + x.2.1)).1 = _
    rw [gapsC_fold F t _ _ h7, gapsC, if_neg (show ¬ F ≤ x.1 by omega), oneG]
    split <;> simp
theorem gapsN_eq {F : Int} {ws : List W3} (h : fitsB F 0 ws = true) : gapsN F ws = gapsC F 0 ws := by
  unfold gapsN
  rw [gapsC_fold F ws [] 0 h, List.nil_append]
/-- One tick more. -/
def ext (o : List W3) (i : Int) : List W3 := match o.getLast? with
  | none => o ++ [(i, 1, 0)]
  | some x => if x.1 + x.2.1 = i then o.dropLast ++ [(x.1, x.2.1 + 1, x.2.2)] else o ++ [(i, 1, 0)]
theorem ext_nil (i : Int) : ext [] i = [(i, 1, 0)] := rfl
theorem ext_snoc (o : List W3) (x : W3) (i : Int) : ext (o ++ [x]) i = if x.1 + x.2.1 = i then o ++ [(x.1, x.2.1 + 1, x.2.2)] else o ++ [x] ++ [(i, 1, 0)] := by
  simp [ext]
theorem ext_app (A B : List W3) (i : Int) (h : B ≠ []) : ext (A ++ B) i = A ++ ext B i := by
  obtain ⟨C, x, rfl⟩ : ∃ C x, B = C ++ [x] := ⟨B.dropLast, B.getLast h, (List.dropLast_concat_getLast h).symm⟩
  rw [← List.append_assoc, ext_snoc, ext_snoc]
  split <;> simp
theorem gapsC_nil {i F : Int} : ∀ {e : Int} {ws : List W3}, fitsB F e ws = true → i ≤ e → gapsC i e ws = []
  | e, [], _, h => by rw [gapsC, oneG, if_neg (by omega)]
  | e, x :: t, hf, h => by
    obtain ⟨h1, _⟩ := fitsB_cons hf
    rw [gapsC, if_pos (by omega), oneG, if_neg (by omega)]
theorem oneG_step {e i : Int} (h : e ≤ i) : oneG e (i + 1) = ext (oneG e i) i := by
  unfold oneG
  rw [if_pos (by omega)]
  split
  next hlt =>
    have := ext_snoc [] (e, i - e, 0) i
    rw [List.nil_append] at this
    rw [this, if_pos (by show e + (i - e) = i; omega)]
    simp
    omega
  next => rw [ext_nil, show e = i by omega]; simp; omega
theorem gapsC_step {F i : Int} : ∀ (ws : List W3) (e : Int), fitsB F e ws = true → gapsC (i + 1) e ws = if e ≤ i ∧ (ownR 0 i ws).2 = 0 then ext (gapsC i e ws) i else gapsC i e ws
  | [], e, _ => by
    have h0 : (ownR 0 i []).2 = 0 := rfl
    rw [h0]
    simp only [gapsC]
    by_cases h : e ≤ i
    · rw [if_pos ⟨h, trivial⟩, oneG_step h]
    · rw [if_neg (by omega), oneG, oneG, if_neg (by omega), if_neg (by omega)]
  | x :: t, e, hf => by
    obtain ⟨h1, h2, h3, h4, h5, h6, h7⟩ := fitsB_cons hf
    by_cases hi : i + 1 ≤ x.1
    · have h0 : (ownR 0 i (x :: t)).2 = 0 := by
        rw [ownR, if_neg (by omega), ownR_early h7 (by omega)]
      rw [h0]
      simp only [gapsC]
      rw [if_pos hi, if_pos (show i ≤ x.1 by omega)]
      by_cases h : e ≤ i
      · rw [if_pos ⟨h, trivial⟩, oneG_step h]
      · rw [if_neg (by omega), oneG, oneG, if_neg (by omega), if_neg (by omega)]
    · rw [gapsC, if_neg hi]
      by_cases hx : i ≤ x.1
      · have hi' : x.1 = i := by omega
        have h0 : ¬ (ownR 0 i (x :: t)).2 = 0 := by
          rw [ownR, if_pos (by omega)]
          show ¬ (if i - x.1 < 0 then (1 : Int) else 2) = 0
          split <;> omega
        rw [if_neg (fun h => h0 h.2), gapsC_nil h7 (by omega), gapsC, if_pos hx, hi', List.append_nil]
      · rw [gapsC_step t _ h7]
        have hg : gapsC i e (x :: t) = oneG e x.1 ++ gapsC i (x.1 + x.2.1) t := by rw [gapsC, if_neg hx]
        rw [hg]
        by_cases hin : i < x.1 + x.2.1
        · have h0 : ¬ (ownR 0 i (x :: t)).2 = 0 := by
            rw [ownR, if_pos (by omega)]
            show ¬ (if i - x.1 < 0 then (1 : Int) else 2) = 0
            split <;> omega
          rw [if_neg (show ¬ (x.1 + x.2.1 ≤ i ∧ (ownR 0 i t).2 = 0) by omega), if_neg (fun h => h0 h.2)]
        · have h0 : ownR 0 i (x :: t) = ownR 0 i t := by rw [ownR, if_neg (by omega)]
          rw [h0]
          by_cases hz : (ownR 0 i t).2 = 0
          · rw [if_pos ⟨by omega, hz⟩, if_pos ⟨by omega, hz⟩]
            by_cases hB : gapsC i (x.1 + x.2.1) t = []
            · rw [hB, List.append_nil, ext_nil]
              unfold oneG
              split
              · have := ext_snoc [] (e, x.1 - e, 0) i
                rw [List.nil_append] at this
                rw [this, if_neg (by show ¬ e + (x.1 - e) = i; omega)]
              · rfl
            · rw [ext_app _ _ _ hB]
          · rw [if_neg (fun h => hz h.2), if_neg (fun h => hz h.2)]
/-- Tick by tick. -/
def gapsR (ws : List W3) : Nat → List W3
  | 0 => []
  | i + 1 => if (ownR 0 i ws).2 = 0 then ext (gapsR ws i) i else gapsR ws i
theorem gapsR_eq {F : Int} {ws : List W3} (h : fitsB F 0 ws = true) : ∀ i : Nat, gapsR ws i = gapsC i 0 ws
  | 0 => (gapsC_nil h (Int.le_refl _)).symm
  | i + 1 => by
    rw [gapsR, gapsR_eq h i, Int.natCast_add, Int.natCast_one, gapsC_step ws 0 h]
    by_cases hz : (ownR 0 i ws).2 = 0
    · rw [if_pos hz, if_pos ⟨by omega, hz⟩]
    · rw [if_neg hz, if_neg (fun h => hz h.2)]
theorem gaps_same {F : Nat} {ws : List W3} (h : fitsB F 0 ws = true) : gapsR ws F = gapsN F ws := by rw [gapsR_eq h, gapsN_eq h]
/-- How many windows have a place. -/
def covN (i : Int) (ws : List W3) : Int := ws.foldr (fun x s => (if x.1 ≤ i ∧ i < x.1 + x.2.1 then 1 else 0) + s) 0
theorem covN_nil (i : Int) : covN i [] = 0 := rfl
theorem covN_cons (i : Int) (x : W3) (t : List W3) : covN i (x :: t) = (if x.1 ≤ i ∧ i < x.1 + x.2.1 then 1 else 0) + covN i t := rfl
theorem covN_app (i : Int) : ∀ a b : List W3, covN i (a ++ b) = covN i a + covN i b
  | [], b => by rw [covN_nil, List.nil_append]; omega
  | x :: t, b => by rw [List.cons_append, covN_cons, covN_cons, covN_app i t b]; omega
theorem covN_one (i e j : Int) : covN i (oneG e j) = if e ≤ i ∧ i < j then 1 else 0 := by
  unfold oneG
  split
  · rw [covN_cons, covN_nil, show e + (j - e) = j by omega]; omega
  · rw [covN_nil, if_neg (by omega)]
theorem cov_gaps {F i : Int} : ∀ (ws : List W3) (e : Int), fitsB F e ws = true → e ≤ F → covN i ws + covN i (gapsC F e ws) = if e ≤ i ∧ i < F then 1 else 0
  | [], e, _, _ => by rw [covN_nil, gapsC, covN_one]; omega
  | x :: t, e, h, he => by
    obtain ⟨h1, h2, h3, h4, h5, h6, h7⟩ := fitsB_cons h
    have := cov_gaps (F := F) (i := i) t _ h7 (by omega)
    rw [covN_cons, gapsC, if_neg (show ¬ F ≤ x.1 by omega), covN_app, covN_one]
    omega
theorem gapsC_mem {F : Int} : ∀ (ws : List W3) (e : Int), fitsB F e ws = true → 0 ≤ e → ∀ x ∈ gapsC F e ws, 1 ≤ x.2.1 ∧ 0 ≤ x.1 ∧ x.1 + x.2.1 ≤ F ∧ x.2.2 = 0
  | [], e, _, h0, x, hx => by
    rw [gapsC, oneG] at hx
    split at hx
    · simp only [List.mem_singleton] at hx; subst hx; dsimp only; omega
    · cases hx
  | y :: t, e, h, h0, x, hx => by
    obtain ⟨h1, h2, h3, h4, h5, h6, h7⟩ := fitsB_cons h
    rw [gapsC, if_neg (show ¬ F ≤ y.1 by omega)] at hx
    rcases List.mem_append.1 hx with hx | hx
    · unfold oneG at hx
      split at hx
      · simp only [List.mem_singleton] at hx; subst hx; dsimp only; omega
      · cases hx
    · exact gapsC_mem t _ h7 (by omega) x hx
theorem gapsC_len {F : Int} : ∀ (ws : List W3) (e : Int), (gapsC F e ws).length ≤ ws.length + 1
  | [], e => by rw [gapsC, oneG]; split <;> simp
  | x :: t, e => by
    have := gapsC_len (F := F) t (x.1 + x.2.1)
    rw [gapsC]
    have h1 : ∀ j, (oneG e j).length ≤ 1 := fun j => by unfold oneG; split <;> simp
    split
    · have := h1 F; simp; omega
    · have := h1 x.1; simp; omega
end Go.Proofs.Ytldbjoegfcmfkaa
