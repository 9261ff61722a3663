/-
  Stats, plain: two tables' jobs, one behind the other. No program in sight.
-/
import Derived.Test.YthjebjegedgoeaaStP
namespace Go.Proofs.Ythjebjegedgoeaa

def Ln.join (x y : Ln) : Ln := ⟨x.arr + y.arr, x.ended + y.ended, x.lost + y.lost, if 0 < y.ended ∧ (x.ended = 0 ∨ y.least < x.least) then y.least else x.least, max x.most y.most, x.sum + y.sum⟩
theorem Ln.ext' {x y : Ln} (h1 : x.arr = y.arr) (h2 : x.ended = y.ended) (h3 : x.lost = y.lost) (h4 : x.least = y.least) (h5 : x.most = y.most) (h6 : x.sum = y.sum) : x = y := by
  cases x; cases y; simp_all
theorem join_answer (x y : Ln) (a : Int) (hx : 0 ≤ x.ended) (hy : 0 ≤ y.ended) : x.join (y.answer a) = (x.join y).answer a := by
  refine Ln.ext' (by simp only [Ln.join, Ln.answer]) (by simp only [Ln.join, Ln.answer]; omega) (by simp only [Ln.join, Ln.answer]) ?_ (by simp only [Ln.join, Ln.answer]; omega) (by simp only [Ln.join, Ln.answer]; omega)
  simp only [Ln.join, Ln.answer]
  repeat' split
  all_goals omega
theorem join_come (x y : Ln) : x.join y.come = (x.join y).come := by
  refine Ln.ext' (by simp only [Ln.join, Ln.come]; omega) rfl rfl rfl rfl rfl
theorem join_lose (x y : Ln) : x.join y.lose = (x.join y).lose := by
  refine Ln.ext' rfl rfl (by simp only [Ln.join, Ln.lose]; omega) rfl rfl rfl
theorem join_step (x y : Ln) (j : J5) (hx : 0 ≤ x.ended) (hy : 0 ≤ y.ended) : x.join (y.step j) = (x.join y).step j := by
  unfold Ln.step
  split
  · rw [join_answer _ _ _ hx (by exact hy), join_come]
  · split
    · rw [join_lose, join_come]
    · rw [join_come]
theorem join_zero (x : Ln) (hm : 0 ≤ x.most) : x.join Ln.zero = x := by
  refine Ln.ext' (by simp only [Ln.join, Ln.zero]; omega) (by simp only [Ln.join, Ln.zero]; omega) (by simp only [Ln.join, Ln.zero]; omega) ?_ (by simp only [Ln.join, Ln.zero]; omega) (by simp only [Ln.join, Ln.zero]; omega)
  show (if 0 < Ln.zero.ended ∧ (x.ended = 0 ∨ Ln.zero.least < x.least) then Ln.zero.least else x.least) = x.least
  rw [if_neg]
  intro h
  exact absurd h.1 (by decide)
theorem lineJ_append (a b : List J5) (t : Int) : lineJ (a ++ b) t = (lineJ a t).join (lineJ b t) := by
  induction b using snocInd with
  | nil =>
    rw [List.append_nil, show lineJ [] t = Ln.zero from rfl, join_zero _ (lineJ_ok a t).most0]
  | append_singleton b j ih =>
    rw [← List.append_assoc, lineJ_snoc, lineJ_snoc, ih]
    split
    · rw [join_step _ _ _ (lineJ_ok a t).ended0 (lineJ_ok b t).ended0]
    · rfl

/-- Two lists of buckets together. -/
def addL (c d : List Int) : List Int := List.zipWith (· + ·) c d
theorem addL_len {c d : List Int} (h : c.length = d.length) : (addL c d).length = c.length := by simp [addL, h]
theorem addL_at {c d : List Int} {i : Nat} {x y : Int} (hx : c[i]? = some x) (hy : d[i]? = some y) : (addL c d)[i]? = some (x + y) := by
  unfold addL
  rw [List.getElem?_zipWith, hx, hy]
theorem addL_zero (c : List Int) : addL c (List.replicate c.length 0) = c := by
  apply List.ext_getElem?
  intro i
  unfold addL
  rw [List.getElem?_zipWith]
  by_cases hi : i < c.length
  · rw [List.getElem?_eq_getElem hi, List.getElem?_replicate, if_pos hi]
    simp
  · rw [List.getElem?_eq_none (by omega)]
theorem addL_bump {c d : List Int} (h : c.length = d.length) (k : Nat) : addL c (bump d k) = bump (addL c d) k := by
  by_cases hk : k < d.length
  · apply List.ext_getElem?
    intro i
    have hkc : k < c.length := by omega
    have e : (addL c d).getD k 0 = c[k] + d[k] := by
      rw [List.getD, addL_at (List.getElem?_eq_getElem hkc) (List.getElem?_eq_getElem hk)]
      rfl
    have e2 : d.getD k 0 = d[k] := by
      rw [List.getD, List.getElem?_eq_getElem hk]
      rfl
    unfold bump
    rw [e, e2]
    by_cases hik : i = k
    · subst hik
      rw [List.getElem?_set_self (by rw [addL_len h]; omega)]
      rw [addL_at (List.getElem?_eq_getElem hkc) (List.getElem?_set_self hk)]
      congr 1
      omega
    · rw [List.getElem?_set_ne (fun e => hik e.symm)]
      unfold addL
      rw [List.getElem?_zipWith, List.getElem?_zipWith, List.getElem?_set_ne (fun e => hik e.symm)]
  · unfold bump
    rw [List.set_eq_of_length_le (by omega), List.set_eq_of_length_le (by rw [addL_len h]; omega)]
theorem cntJ_append (B W : Nat) (a b : List J5) (t : Int) : cntJ B W (a ++ b) t = addL (cntJ B W a t) (cntJ B W b t) := by
  induction b using snocInd with
  | nil =>
    rw [List.append_nil]
    have h := addL_zero (cntJ B W a t)
    rw [cntJ_len] at h
    exact h.symm
  | append_singleton b j ih =>
    rw [← List.append_assoc, cntJ_snoc, cntJ_snoc, ih]
    split
    · rw [addL_bump (by rw [cntJ_len, cntJ_len])]
    · rfl
/-- The buckets together. -/
def sumL (c : List Int) : Int := c.foldl (· + ·) 0
theorem sumL_snoc (c : List Int) (x : Int) : sumL (c ++ [x]) = sumL c + x := by unfold sumL; rw [List.foldl_append]; rfl
theorem sumL_cons (x : Int) (c : List Int) : sumL (x :: c) = x + sumL c := by
  have h : ∀ (c : List Int) (a : Int), c.foldl (· + ·) a = a + c.foldl (· + ·) 0 := by
    intro c
    induction c with
    | nil => intro a; simp
    | cons y r ih => intro a; rw [List.foldl_cons, ih, List.foldl_cons, ih (0 + y)]; omega
  unfold sumL
  rw [List.foldl_cons, h]
  omega
theorem sumL_set : ∀ (c : List Int) (k : Nat), k < c.length → sumL (c.set k (c.getD k 0 + 1)) = sumL c + 1
  | [], _, h => by simp at h
  | x :: r, 0, _ => by simp [sumL_cons]; omega
  | x :: r, k + 1, h => by
    have := sumL_set r k (by simpa using h)
    simp only [List.set_cons_succ, List.getD_cons_succ, sumL_cons]
    rw [this]
    omega
theorem sumL_bump (c : List Int) (k : Nat) (h : k < c.length) : sumL (bump c k) = sumL c + 1 := sumL_set c k h
theorem sumL_rep (n : Nat) : sumL (List.replicate n 0) = 0 := by
  induction n with
  | zero => rfl
  | succ n ih => rw [List.replicate_succ, sumL_cons, ih]; rfl
theorem sumL_cnt (B W : Nat) (hB : 1 ≤ B) (l : List J5) (t : Int) : sumL (cntJ B W l t) = (lineJ l t).ended := by
  induction l using snocInd with
  | nil => exact sumL_rep B
  | append_singleton l j ih =>
    rw [cntJ_snoc, lineJ_snoc]
    by_cases ht : j.t = t
    · by_cases ha : 0 < ansJ j
      · rw [if_pos ⟨ht, ha⟩, if_pos ht, sumL_bump _ _ (by rw [cntJ_len]; exact (bkt_lt hB ha).2), ih]
        unfold Ln.step
        rw [if_pos ha]
        rfl
      · rw [if_neg (fun h => ha h.2), if_pos ht, ih]
        unfold Ln.step
        rw [if_neg ha]
        split <;> rfl
    · rw [if_neg (fun h => ht h.1), if_neg ht, ih]
end Go.Proofs.Ythjebjegedgoeaa
