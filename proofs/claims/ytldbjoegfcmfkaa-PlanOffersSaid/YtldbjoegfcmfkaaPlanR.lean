/-
  What Spread lays offers each partition its need. No program in sight.
-/
import Derived.Test.YtldbjoegfcmfkaaPlanP
namespace Go.Proofs.Ytldbjoegfcmfkaa

def sumTo (f : Nat → Int) : Nat → Int
  | 0 => 0
  | k + 1 => sumTo f k + f k
theorem sumTo_congr {f g : Nat → Int} : ∀ k, (∀ q, q < k → f q = g q) → sumTo f k = sumTo g k
  | 0, _ => rfl
  | k + 1, h => by rw [sumTo, sumTo, sumTo_congr k (fun q hq => h q (by omega)), h k (by omega)]
theorem sumTo_le {f g : Nat → Int} : ∀ k, (∀ q, q < k → f q ≤ g q) → sumTo f k ≤ sumTo g k
  | 0, _ => Int.le_refl _
  | k + 1, h => by
    have := sumTo_le k (fun q hq => h q (by omega))
    have := h k (by omega)
    rw [sumTo, sumTo]; omega
theorem sumTo_sub (f g : Nat → Int) : ∀ k, sumTo f k - sumTo g k = sumTo (fun q => f q - g q) k
  | 0 => rfl
  | k + 1 => by
    have := sumTo_sub f g k
    rw [sumTo, sumTo, sumTo]; omega
theorem sumTo_one {f g : Nat → Int} {p : Nat} (hne : ∀ q, q ≠ p → f q = g q) : ∀ k, sumTo g k = sumTo f k + if p < k then g p - f p else 0
  | 0 => by rw [if_neg (by omega)]; rfl
  | k + 1 => by
    have ih := sumTo_one hne k
    rw [sumTo, sumTo, ih]
    by_cases e : k = p
    · subst e
      rw [if_neg (by omega), if_pos (by omega)]; omega
    · rw [hne k e]
      by_cases h : p < k
      · rw [if_pos h, if_pos (by omega)]; omega
      · rw [if_neg h, if_neg (by omega)]; omega

section
variable (T : Int) (ns : List Int)
/-- The ticks of all rows ahead of i, and of the i-th up to p, with m more each. -/
def totS (m : Int) (i p : Nat) : Int := sumTo (fun q => costR m T (ns.getD q 0) (if q < p then i + 1 else i)) ns.length
theorem totS_row (m : Int) (i : Nat) : totS T ns m i ns.length = totS T ns m (i + 1) 0 :=
  sumTo_congr _ (fun q hq => by rw [if_pos hq, if_neg (by omega)])
theorem totS_succ (m : Int) (i p : Nat) (hp : p < ns.length) : totS T ns m i (p + 1) = totS T ns m i p + if 0 < shareN (ns.getD p 0) T i then m + shareN (ns.getD p 0) T i else 0 := by
  unfold totS
  rw [sumTo_one (f := fun q => costR m T (ns.getD q 0) (if q < p then i + 1 else i)) (p := p) (fun q hq => by
    by_cases h : q < p
    · rw [if_pos h, if_pos (by omega)]
    · rw [if_neg h, if_neg (by omega)]), if_pos hp]
  congr 1
  rw [if_pos (by omega), if_neg (by omega), costR]
  omega
theorem costR_mono {m x : Int} (hm : 0 ≤ m) (i : Nat) : ∀ j, costR m T x i ≤ costR m T x (i + j)
  | 0 => Int.le_refl _
  | j + 1 => by
    have := costR_mono (x := x) hm i j
    rw [← Nat.add_assoc, costR]
    split <;> omega
theorem costD_mono {x : Int} (i : Nat) : ∀ j, costR 1 T x i - costR 0 T x i ≤ costR 1 T x (i + j) - costR 0 T x (i + j)
  | 0 => Int.le_refl _
  | j + 1 => by
    have := costD_mono (x := x) i j
    rw [← Nat.add_assoc, costR, costR]
    split <;> omega
theorem totS_le {m : Int} (hm : 0 ≤ m) {i p t : Nat} (h : i < t) : totS T ns m i p ≤ totS T ns m t 0 :=
  sumTo_le _ (fun q _ => by
    rw [if_neg (show ¬ q < 0 by omega)]
    split
    · have := costR_mono T (x := ns.getD q 0) hm (i + 1) (t - (i + 1))
      rwa [show i + 1 + (t - (i + 1)) = t by omega] at this
    · have := costR_mono T (x := ns.getD q 0) hm i (t - i)
      rwa [show i + (t - i) = t by omega] at this)
theorem totD_le {i p t : Nat} (h : i < t) : totS T ns 1 i p - totS T ns 0 i p ≤ totS T ns 1 t 0 - totS T ns 0 t 0 := by
  unfold totS
  rw [sumTo_sub, sumTo_sub]
  exact sumTo_le _ (fun q _ => by
    rw [if_neg (show ¬ q < 0 by omega)]
    split
    · have := costD_mono T (x := ns.getD q 0) (i + 1) (t - (i + 1))
      rwa [show i + 1 + (t - (i + 1)) = t by omega] at this
    · have := costD_mono T (x := ns.getD q 0) i (t - i)
      rwa [show i + (t - i) = t by omega] at this)
end
theorem costR_all {M : Int} {T : Nat} {x : Int} (hT : 1 ≤ T) (h0 : 0 ≤ x) (h1 : x ≤ 256) : costR M T x T = x + M * min x T := by
  have := costR_one M T x hT
  rw [show min (max x 0) 256 = x by omega] at this
  rw [this, costOne, show min (max x 0) 256 = x by omega]
theorem costN_sum (M T : Int) (ns : List Int) : ∀ k, costN M T ns k = sumTo (fun q => costOne M T (ns.getD q 0)) k
  | 0 => rfl
  | k + 1 => by rw [costN, sumTo, costN_sum M T ns k]
theorem tot_cost {M : Int} {T : Nat} {ns : List Int} (hT : 1 ≤ T) (h : ∀ x ∈ ns, 0 ≤ x ∧ x ≤ 256) : totS T ns M T 0 = costN M T ns ns.length := by
  rw [costN_sum]
  refine sumTo_congr _ (fun q hq => ?_)
  have hx := h (ns.getD q 0) (by rw [List.getD_eq_getElem?_getD, List.getElem?_eq_getElem hq]; exact List.getElem_mem hq)
  rw [if_neg (by omega), costR_all hT hx.1 hx.2, costOne, show min (max (ns.getD q 0) 0) 256 = ns.getD q 0 by omega]
def manyN (T : Int) (ns : List Int) (k : Nat) : Int := sumTo (fun q => min (ns.getD q 0) T) k
theorem tot_many {T : Nat} {ns : List Int} (hT : 1 ≤ T) (h : ∀ x ∈ ns, 0 ≤ x ∧ x ≤ 256) : totS T ns 1 T 0 - totS T ns 0 T 0 = manyN T ns ns.length := by
  unfold totS manyN
  rw [sumTo_sub]
  refine sumTo_congr _ (fun q hq => ?_)
  have hx := h (ns.getD q 0) (by rw [List.getD_eq_getElem?_getD, List.getElem?_eq_getElem hq]; exact List.getElem_mem hq)
  rw [if_neg (by omega), costR_all hT hx.1 hx.2, costR_all hT hx.1 hx.2]
  omega

/-- Where the last window ends. -/
def endW (e : Int) (ws : List W3) : Int := ws.foldl (fun _ x => x.1 + x.2.1) e
theorem fitsB_snoc {F : Int} {x : W3} (h1 : x.1 < F) (h2 : 1 ≤ x.2.1) (h3 : x.2.1 ≤ F - x.1) (h4 : 0 ≤ x.2.2) (h5 : x.2.2 < 6) : ∀ {ws : List W3} {e : Int}, fitsB F e ws = true → endW e ws ≤ x.1 → fitsB F e (ws ++ [x]) = true
  | [], e, _, he => by
    have he' : e ≤ x.1 := he
    simp only [List.nil_append, fitsB, Bool.and_true, decide_eq_true_eq]
    exact ⟨he', h1, h2, h3, h4, h5⟩
  | y :: t, e, h, he => by
    obtain ⟨a1, a2, a3, a4, a5, a6, a7⟩ := fitsB_cons h
    have := fitsB_snoc h1 h2 h3 h4 h5 a7 he
    simp only [List.cons_append, fitsB, Bool.and_eq_true, decide_eq_true_eq]
    exact ⟨⟨a1, a2, a3, a4, a5, a6⟩, this⟩
def lenW (ws : List W3) : Int := ws.foldl (fun s x => s + x.2.1) 0
theorem lenW_snoc (ws : List W3) (x : W3) : lenW (ws ++ [x]) = lenW ws + x.2.1 := by simp [lenW, List.foldl_append]
/-- The open ticks of p's windows. -/
def opnW (M p : Int) (ws : List W3) : Int := ws.foldr (fun x s => (if x.2.2 = p then x.2.1 - M else 0) + s) 0
theorem opnW_nil (M p : Int) : opnW M p [] = 0 := rfl
theorem opnW_cons (M p : Int) (x : W3) (t : List W3) : opnW M p (x :: t) = (if x.2.2 = p then x.2.1 - M else 0) + opnW M p t := rfl
theorem opnW_snoc (M p : Int) (x : W3) : ∀ ws : List W3, opnW M p (ws ++ [x]) = opnW M p ws + if x.2.2 = p then x.2.1 - M else 0
  | [] => by rw [List.nil_append, opnW_cons, opnW_nil]; omega
  | y :: t => by rw [List.cons_append, opnW_cons, opnW_cons, opnW_snoc M p x t]; omega
def openC (M p i : Int) (ws : List W3) : Int := ws.foldr (fun x s => (if x.2.2 = p then max 0 (min (i - x.1) x.2.1 - M) else 0) + s) 0
theorem openC_nil (M p i : Int) : openC M p i [] = 0 := rfl
theorem openC_cons (M p i : Int) (x : W3) (t : List W3) : openC M p i (x :: t) = (if x.2.2 = p then max 0 (min (i - x.1) x.2.1 - M) else 0) + openC M p i t := rfl
theorem openC_early {F M p i : Int} (hM : 0 ≤ M) : ∀ {ws : List W3} {e : Int}, fitsB F e ws = true → i ≤ e → openC M p i ws = 0
  | [], _, _, _ => rfl
  | x :: t, e, h, he => by
    obtain ⟨a1, a2, a3, a4, a5, a6, a7⟩ := fitsB_cons h
    rw [openC_cons, openC_early hM a7 (by omega)]
    split <;> omega
theorem openC_step {F M p i : Int} (hM : 0 ≤ M) : ∀ {ws : List W3} {e : Int}, fitsB F e ws = true → openC M p (i + 1) ws = openC M p i ws + if isO M ws p i then 1 else 0
  | [], e, _ => by
    have : isO M [] p i = false := decide_eq_false (fun h => by
      have h1 : ((-1 : Int), (0 : Int)) = (p, 2) := h
      injection h1 with _ h2
      omega)
    rw [this]; rfl
  | x :: t, e, h => by
    obtain ⟨a1, a2, a3, a4, a5, a6, a7⟩ := fitsB_cons h
    rw [openC_cons, openC_cons]
    by_cases hin : x.1 ≤ i ∧ i - x.1 < x.2.1
    · rw [openC_early hM a7 (show i + 1 ≤ x.1 + x.2.1 by omega), openC_early hM a7 (show i ≤ x.1 + x.2.1 by omega)]
      have ho : ownR M i (x :: t) = (x.2.2, if i - x.1 < M then 1 else 2) := by rw [ownR, if_pos hin]
      unfold isO
      rw [ho]
      by_cases hp : x.2.2 = p
      · rw [if_pos hp, if_pos hp]
        by_cases hlt : i - x.1 < M
        · rw [if_pos hlt, decide_eq_false (by rw [hp]; intro h; injection h with _ h; omega)]
          simp only [Bool.false_eq_true, if_false]
          omega
        · rw [if_neg hlt, hp, decide_eq_true rfl]
          simp only [if_true]
          omega
      · rw [if_neg hp, if_neg hp, decide_eq_false (by intro h; injection h with h _; exact hp h)]
        simp
    · have ho : isO M (x :: t) p i = isO M t p i := by unfold isO; rw [ownR, if_neg hin]
      rw [ho, openC_step hM a7]
      split <;> omega
theorem cntO_open {F M p : Int} {ws : List W3} (hM : 0 ≤ M) (h : fitsB F 0 ws = true) : ∀ i : Nat, cntO M ws p i = openC M p i ws
  | 0 => (openC_early hM h (Int.le_refl _)).symm
  | i + 1 => by rw [cntO, cntO_open hM h i, Int.natCast_add, Int.natCast_one, openC_step hM h]
theorem openC_all {F M p : Int} (hM : 0 ≤ M) : ∀ {ws : List W3} {e : Int}, fitsB F e ws = true → (∀ x ∈ ws, M ≤ x.2.1) → openC M p F ws = opnW M p ws
  | [], _, _, _ => rfl
  | x :: t, e, h, hl => by
    obtain ⟨a1, a2, a3, a4, a5, a6, a7⟩ := fitsB_cons h
    have := hl x (List.mem_cons_self ..)
    rw [openC_cons, opnW_cons, openC_all hM a7 (fun y hy => hl y (List.mem_cons_of_mem _ hy))]
    split <;> omega

/-- What the rows laid so far are. -/
structure Laid (F M T : Int) (ns : List Int) (st : Int × List W3) (i p : Nat) : Prop where
  tot : st.1 = totS T ns M i p
  many : (st.2.length : Int) = totS T ns 1 i p - totS T ns 0 i p
  fits : fitsB F 0 st.2 = true
  last : endW 0 st.2 = st.1
  len : lenW st.2 = st.1
  nonneg : 0 ≤ st.1
  le : st.2.length ≤ 32
  marg : ∀ x ∈ st.2, M ≤ x.2.1
  opened : ∀ q : Nat, q < ns.length → opnW M q st.2 = costR 0 T (ns.getD q 0) (if q < p then i + 1 else i)
theorem Laid.step {F M T : Int} {ns : List Int} {st st' : Int × List W3} {i p : Nat} (h : Laid F M T ns st i p) (hM : 0 ≤ M) (hp : p < ns.length) (h6 : ns.length ≤ 6) (hn : 0 ≤ shareN (ns.getD p 0) T i) (e : layS F M st p (shareN (ns.getD p 0) T i) = some st') : Laid F M T ns st' i (p + 1) := by
  obtain ⟨n, hs⟩ : ∃ n, shareN (ns.getD p 0) T i = n := ⟨_, rfl⟩
  have t1 := fun m => totS_succ T ns m i p hp
  rw [hs] at hn e t1
  have hop : ∀ q : Nat, q < ns.length → costR 0 T (ns.getD q 0) (if q < p + 1 then i + 1 else i) = costR 0 T (ns.getD q 0) (if q < p then i + 1 else i) + if q = p then n else 0 := by
    intro q _
    by_cases hq : q = p
    · subst hq
      rw [if_pos (by omega), if_neg (by omega), if_pos rfl, costR, hs]
      split <;> omega
    · rw [if_neg hq]
      by_cases h2 : q < p
      · rw [if_pos h2, if_pos (by omega)]; omega
      · rw [if_neg h2, if_neg (by omega)]; omega
  unfold layS at e
  by_cases hn0 : n = 0
  · subst hn0
    rw [if_pos rfl] at e
    injection e with e
    subst e
    simp only [Int.lt_irrefl, if_false, Int.add_zero] at t1
    exact ⟨by rw [t1, h.tot], by rw [t1, t1, h.many], h.fits, h.last, h.len, h.nonneg, h.le, h.marg, fun q hq => by rw [h.opened q hq, hop q hq]; split <;> omega⟩
  · rw [if_neg hn0] at e
    split at e
    next => cases e
    next hno =>
      injection e with e
      subst e
      have t2 : ∀ m, totS T ns m i (p + 1) = totS T ns m i p + (m + n) := fun m => by rw [t1, if_pos (by omega)]
      refine ⟨by rw [t2, ← h.tot], ?_, ?_, ?_, ?_, ?_, ?_, ?_, ?_⟩
      · rw [t2, t2, List.length_append]
        have := h.many
        simp only [List.length_cons, List.length_nil]
        omega
      · exact fitsB_snoc (by show st.1 < F; omega) (by show 1 ≤ M + n; omega) (by show M + n ≤ F - st.1; omega) (by show (0 : Int) ≤ (p : Int); omega) (by show (p : Int) < 6; omega) h.fits (by rw [h.last]; exact Int.le_refl _)
      · show endW 0 (st.2 ++ [(st.1, M + n, (p : Int))]) = st.1 + (M + n)
        simp [endW, List.foldl_append]
      · show lenW (st.2 ++ [(st.1, M + n, (p : Int))]) = st.1 + (M + n)
        rw [lenW_snoc, h.len]
      · have := h.nonneg
        show 0 ≤ st.1 + (M + n)
        omega
      · rw [List.length_append]
        simp only [List.length_cons, List.length_nil]
        omega
      · intro x hx
        rcases List.mem_append.1 hx with hx | hx
        · exact h.marg x hx
        · rw [List.mem_singleton] at hx
          subst hx
          show M ≤ M + n
          omega
      · intro q hq
        show opnW M q (st.2 ++ [(st.1, M + n, (p : Int))]) = _
        rw [opnW_snoc, h.opened q hq, hop q hq]
        congr 1
        show (if (p : Int) = (q : Int) then M + n - M else 0) = _
        by_cases e : q = p
        · subst e; rw [if_pos rfl, if_pos rfl]; omega
        · rw [if_neg e, if_neg (by omega)]
/-- Where there is no room, the cost, or the windows, are too many. -/
theorem Laid.fail {F M : Int} {T : Nat} {ns : List Int} {st : Int × List W3} {i p : Nat} (h : Laid F M T ns st i p) (hM : 0 ≤ M) (hp : p < ns.length) (hi : i < T) (hn : 0 ≤ shareN (ns.getD p 0) T i) (e : layS F M st p (shareN (ns.getD p 0) T i) = none) :
    F < totS T ns M T 0 ∨ 32 < totS T ns 1 T 0 - totS T ns 0 T 0 := by
  obtain ⟨n, hs⟩ : ∃ n, shareN (ns.getD p 0) T i = n := ⟨_, rfl⟩
  have t1 := fun m => totS_succ (T := T) (ns := ns) m i p hp
  rw [hs] at hn e t1
  unfold layS at e
  by_cases hn0 : n = 0
  · rw [if_pos hn0] at e; cases e
  · rw [if_neg hn0] at e
    have t2 : ∀ m, totS T ns m i (p + 1) = totS T ns m i p + (m + n) := fun m => by rw [t1, if_pos (by omega)]
    have l1 := totS_le (T := T) (ns := ns) hM (p := p + 1) hi
    have l2 := totD_le (T := T) (ns := ns) (p := p + 1) hi
    rw [t2] at l1
    rw [t2, t2] at l2
    split at e
    next hor =>
      have h1 := h.tot
      have h2 := h.many
      rcases hor with hor | hor
      · exact .inl (by omega)
      · exact .inr (by omega)
    next => cases e
theorem Laid.row {F M T : Int} {ns : List Int} {st : Int × List W3} {i : Nat} (h : Laid F M T ns st i ns.length) : Laid F M T ns st (i + 1) 0 :=
  ⟨by rw [h.tot, totS_row], by rw [h.many, totS_row, totS_row], h.fits, h.last, h.len, h.nonneg, h.le, h.marg, fun q hq => by rw [h.opened q hq, if_pos hq, if_neg (by omega)]⟩
theorem shareN_nn {x T i : Int} (h : 0 ≤ x) (hT : 1 ≤ T) : 0 ≤ shareN x T i := by
  have := Int.ediv_nonneg h (show 0 ≤ T by omega)
  unfold shareN
  split <;> omega
theorem rowTo_laid {F M : Int} {T : Nat} {ns : List Int} {st : Int × List W3} {i : Nat} (hM : 0 ≤ M) (hT : 1 ≤ T) (h6 : ns.length ≤ 6) (hi : i < T) (hx : ∀ q, 0 ≤ ns.getD q 0) (h : Laid F M T ns st i 0) : ∀ p, p ≤ ns.length →
    (∃ st', rowTo F M T ns i st p = some st' ∧ Laid F M T ns st' i p) ∨ (rowTo F M T ns i st p = none ∧ (F < totS T ns M T 0 ∨ 32 < totS T ns 1 T 0 - totS T ns 0 T 0))
  | 0, _ => .inl ⟨st, rfl, h⟩
  | p + 1, hp => by
    have hn : 0 ≤ shareN (ns.getD p 0) T i := shareN_nn (hx p) (by omega)
    rcases rowTo_laid hM hT h6 hi hx h p (by omega) with ⟨s, e1, h1⟩ | ⟨e1, h1⟩
    · rw [rowTo, e1]
      cases e : layS F M s p (shareN (ns.getD p 0) T i) with
      | none => exact .inr ⟨e, h1.fail hM (by omega) hi hn e⟩
      | some s' => exact .inl ⟨s', e, h1.step hM (by omega) h6 hn e⟩
    · exact .inr ⟨by rw [rowTo, e1]; rfl, h1⟩
theorem rowsTo_laid {F M : Int} {T : Nat} {ns : List Int} (hM : 0 ≤ M) (hT : 1 ≤ T) (h6 : ns.length ≤ 6) (hx : ∀ q, 0 ≤ ns.getD q 0) : ∀ i, i ≤ T →
    (∃ st', rowsTo F M T ns i = some st' ∧ Laid F M T ns st' i 0) ∨ (rowsTo F M T ns i = none ∧ (F < totS T ns M T 0 ∨ 32 < totS T ns 1 T 0 - totS T ns 0 T 0))
  | 0, _ => by
    have h0 : ∀ m, totS T ns m 0 0 = 0 := fun m => by
      have : ∀ k, sumTo (fun q => costR m T (ns.getD q 0) (if q < 0 then 0 + 1 else 0)) k = 0 := by
        intro k
        induction k with
        | zero => rfl
        | succ k ih => rw [sumTo, ih]; rfl
      exact this _
    exact .inl ⟨(0, []), rfl, ⟨(h0 M).symm, by rw [h0, h0]; rfl, rfl, rfl, rfl, Int.le_refl _, by simp, (fun x hx => by cases hx), fun q _ => rfl⟩⟩
  | i + 1, hi => by
    rcases rowsTo_laid hM hT h6 hx i (by omega) with ⟨s, e1, h1⟩ | ⟨e1, h1⟩
    · rw [rowsTo, e1]
      rcases rowTo_laid hM hT h6 (by omega) hx h1 ns.length (Nat.le_refl _) with ⟨s', e2, h2⟩ | ⟨e2, h2⟩
      · exact .inl ⟨s', e2, h2.row⟩
      · exact .inr ⟨e2, h2⟩
    · exact .inr ⟨by rw [rowsTo, e1]; rfl, h1⟩
/-- The stage's theorem. -/
theorem spread_law {F M : Int} {T : Nat} {ns : List Int} (hF1 : 1 ≤ F) (hF2 : F ≤ 256) (hM : 0 ≤ M) (hM2 : M ≤ 8) (hT : 1 ≤ T) (hT2 : T ≤ 32) (h1 : 1 ≤ ns.length) (h6 : ns.length ≤ 6) (hx : ∀ x ∈ ns, 0 ≤ x ∧ x ≤ 256) :
    (∃ ws, spreadN F M T ns = (ws, 0) ∧ rightB F M ws = true ∧ lenW ws = costN M T ns ns.length ∧ ∀ q : Nat, q < ns.length → ∀ f : Nat, (f : Int) = F → cntO M ws q f = ns.getD q 0) ∨
    (spreadN F M T ns = ([], 5) ∧ (F < costN M T ns ns.length ∨ 32 < manyN T ns ns.length)) := by
  have hq : ∀ q, 0 ≤ ns.getD q 0 := fun q => by
    rw [List.getD_eq_getElem?_getD]
    cases e : ns[q]? with
    | none => exact Int.le_refl _
    | some x => exact (hx x (List.mem_of_getElem? e)).1
  have hf : fineE F M T ns = 0 := by
    unfold fineE
    rw [if_neg (by omega), if_neg (fun h => h ⟨h1, h6, by omega, by omega, fun x h => (hx x h).1⟩)]
  have hs : spreadN F M T ns = match rowsTo F M T ns T with | none => ([], 5) | some st => (st.2, 0) := by unfold spreadN; rw [hf]; rfl
  rcases rowsTo_laid (F := F) hM hT h6 hq T (Nat.le_refl _) with ⟨st, e, hl⟩ | ⟨e, hl⟩
  · refine .inl ⟨st.2, by rw [hs, e], ?_, ?_, ?_⟩
    · unfold rightB
      rw [decide_eq_true ⟨hF1, hF2, hM, hM2, hl.le⟩, hl.fits]; rfl
    · rw [hl.len, hl.tot, tot_cost hT hx]
    · intro q hq f hf
      have hxq := hx (ns.getD q 0) (by rw [List.getD_eq_getElem?_getD, List.getElem?_eq_getElem hq]; exact List.getElem_mem hq)
      rw [cntO_open hM hl.fits, hf, openC_all hM hl.fits hl.marg, hl.opened q hq, if_neg (by omega), costR_all hT hxq.1 hxq.2]
      omega
  · refine .inr ⟨by rw [hs, e], ?_⟩
    rw [tot_cost hT hx, tot_many hT hx] at hl
    exact hl
end Go.Proofs.Ytldbjoegfcmfkaa
