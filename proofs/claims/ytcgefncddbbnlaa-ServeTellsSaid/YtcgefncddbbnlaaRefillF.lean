/-
  refill: what a budget holds: no program in sight.
-/
import Derived.Test.YtcgefncddbbnlaaRefillE
namespace Go.Proofs.Ytcgefncddbbnlaa.Rf

/-- A budget as it may be behind n acts. -/
structure Fine (p : Bp) (xs : List (Int × Int)) (C T : Int) (n : Nat) : Prop where
  eC : p.C = C
  eT : p.T = T
  C1 : 1 ≤ C
  CT : C ≤ T
  T1 : T ≤ 1000
  start : 0 ≤ p.start
  now : p.start ≤ p.now
  free : 0 ≤ p.free
  fine : fineL xs
  len : xs.length ≤ n
  sum : p.free + sumL xs ≤ C

theorem Fine.pos {p : Bp} {xs : List (Int × Int)} {C T : Int} {n : Nat} (h : Fine p xs C T n) : 0 ≤ sumL xs := by
  have := sumL_bound xs h.fine
  omega

theorem Fine.goFree {p : Bp} {xs : List (Int × Int)} {C T : Int} {n : Nat} (h : Fine p xs C T n) (now : Int) : 0 ≤ goFree p xs now ∧ goFree p xs now + sumL xs ≤ C := by
  have h1 := h.pos
  have h2 := h.free
  have h3 := h.sum
  have h4 := h.eC
  unfold Go.Proofs.Ytcgefncddbbnlaa.Rf.goFree
  split <;> omega

theorem Fine.go {p : Bp} {xs : List (Int × Int)} {C T : Int} {n : Nat} (h : Fine p xs C T n) (now : Int) (hn : p.start ≤ now) (busy : Bool) : Fine (goP p xs now busy).1 (goP p xs now busy).2 C T (n + 1) := by
  obtain ⟨f0, f1⟩ := h.goFree now
  have hs := h.pos
  have hC := h.C1
  have hCT := h.CT
  have hT := h.T1
  unfold goP
  split
  next hc =>
    refine ⟨h.eC, h.eT, hC, hCT, hT, h.start, hn, Int.le_refl _, ?_, ?_, ?_⟩
    · intro x hx
      rcases List.mem_append.1 hx with hx | hx
      · exact h.fine x hx
      · simp at hx
        subst hx
        exact ⟨hc.2.2, by show Go.Proofs.Ytcgefncddbbnlaa.Rf.goFree p xs now ≤ 1000; omega⟩
    · have := h.len
      simp
      omega
    · rw [sumL_append]
      simp only [sumL]
      omega
  next hc => exact ⟨h.eC, h.eT, hC, hCT, hT, h.start, hn, f0, h.fine, Nat.le_succ_of_le h.len, f1⟩

theorem Fine.mono {p : Bp} {xs : List (Int × Int)} {C T : Int} {n m : Nat} (h : Fine p xs C T n) (hm : n ≤ m) : Fine p xs C T m :=
  ⟨h.eC, h.eT, h.C1, h.CT, h.T1, h.start, h.now, h.free, h.fine, Nat.le_trans h.len hm, h.sum⟩

theorem takeL_cons (x : Int × Int) (t : List (Int × Int)) : takeL (x :: t) = if x.2 = 1 then t else (x.1, x.2 - 1) :: t := rfl

theorem takeL_sum : ∀ xs : List (Int × Int), fineL xs → sumL (takeL xs) ≤ sumL xs
  | [], _ => Int.le_refl _
  | x :: t, h => by
    have hx := h x (List.mem_cons_self ..)
    rw [takeL_cons]
    split
    · simp only [sumL]; omega
    · simp only [sumL]; omega

theorem Fine.take {p : Bp} {xs : List (Int × Int)} {C T : Int} {n : Nat} (h : Fine p xs C T n) : Fine p (takeL xs) C T n := by
  refine ⟨h.eC, h.eT, h.C1, h.CT, h.T1, h.start, h.now, h.free, ?_, ?_, ?_⟩
  · cases xs with
    | nil => exact h.fine
    | cons x t =>
      have hx := h.fine x (List.mem_cons_self ..)
      have ht : fineL t := fun y hy => h.fine y (List.mem_cons_of_mem _ hy)
      rw [takeL_cons]
      split
      next => exact ht
      next hne =>
        intro y hy
        rcases List.mem_cons.1 hy with rfl | hy
        · exact ⟨by show 1 ≤ x.2 - 1; omega, by show x.2 - 1 ≤ 1000; omega⟩
        · exact ht y hy
  · have := h.len
    cases xs with
    | nil => exact this
    | cons x t =>
      simp at this
      rw [takeL_cons]
      split
      · omega
      · simp; omega
  · have := takeL_sum xs h.fine
    have := h.sum
    omega

theorem Fine.done {p : Bp} {xs : List (Int × Int)} {C T : Int} {n : Nat} (h : Fine p xs C T n) : Fine { p with free := p.free + sumL xs } [] C T n := by
  have h1 := h.pos
  have h2 := h.free
  exact ⟨h.eC, h.eT, h.C1, h.CT, h.T1, h.start, h.now, by show 0 ≤ p.free + sumL xs; omega, (fun _ h => by cases h), Nat.zero_le _, by simp only [sumL]; have := h.sum; omega⟩

/-- When a period begins all is there. -/
theorem goFree_full {p : Bp} {xs : List (Int × Int)} {C T : Int} {n : Nat} (h : Fine p xs C T n) (hs : p.start = 0) (now : Int) (hnow : p.now = now) (hm : (now + 1) % T = 0) : goFree p xs (now + 1) + sumL xs = C := by
  have hT := h.C1
  have hCT := h.CT
  have h0 := h.now
  unfold Go.Proofs.Ytcgefncddbbnlaa.Rf.goFree
  rw [h.eT, hs, hnow, if_pos]
  · have := h.eC
    omega
  · have h1 : now + 1 = T * ((now + 1) / T) := by have := Int.mul_ediv_add_emod (now + 1) T; omega
    have h2 : (now - 0) / T < (now + 1) / T := by
      rw [Int.sub_zero]
      apply Int.ediv_lt_of_lt_mul (by omega)
      rw [Int.mul_comm, ← h1]
      omega
    rw [Int.sub_zero] at h2 ⊢
    rw [Int.sub_zero]
    exact h2

theorem goP_sum (p : Bp) (xs : List (Int × Int)) (now : Int) (busy : Bool) : (goP p xs now busy).1.free + sumL (goP p xs now busy).2 = goFree p xs now + sumL xs := by
  unfold goP
  split
  next hc =>
    rw [sumL_append]
    simp only [sumL]
    omega
  next hc => rfl
end Go.Proofs.Ytcgefncddbbnlaa.Rf
