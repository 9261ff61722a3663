/-
  chunk: what a budget holds: no program in sight.
-/
import Derived.Test.YtcgefncddbbnlaaChunk
namespace Go.Proofs.Ytcgefncddbbnlaa.Ck

structure Cp where
  rf : Bool
  C : Int
  T : Int
  free : Int
  still : Bool

def oweL (T : Int) (x : Int × Int × Int) (ys : List (Int × Int)) : List (Int × Int) := if 0 < x.2.2 then ys ++ [(x.1 + T, x.2.2)] else ys
def sumC : List (Int × Int × Int) → Int
  | [] => 0
  | x :: t => x.2.1 + x.2.2 + sumC t
def leftC : List (Int × Int × Int) → Int
  | [] => 0
  | x :: t => x.2.1 + leftC t
def doneY (T : Int) (xs : List (Int × Int × Int)) (ys : List (Int × Int)) : List (Int × Int) := xs.foldl (fun ys x => oweL T x ys) ys
structure St17 where
  p : Cp
  xs : List (Int × Int × Int)
  ys : List (Int × Int)
def St17.ripe (s : St17) (now : Int) : St17 := { s with p := { s.p with free := s.p.free + ripeN now s.ys }, ys := keepB now s.ys }
def St17.go (s : St17) (now : Int) (busy : Bool) : St17 :=
  if busy = true ∧ s.p.still = false ∧ 0 < (s.ripe now).p.free then { p := { s.p with free := 0 }, xs := s.xs ++ [(now, (s.ripe now).p.free, 0)], ys := keepB now s.ys } else s.ripe now
def St17.use (s : St17) : St17 :=
  match s.xs with
  | [] => s
  | x :: t => if x.2.1 = 1 then { s with xs := t, ys := oweL s.p.T (x.1, 0, x.2.2 + 1) s.ys } else { s with xs := (x.1, x.2.1 - 1, x.2.2 + 1) :: t }
def St17.done (s : St17) : St17 := { p := { s.p with free := s.p.free + leftC s.xs }, xs := [], ys := doneY s.p.T s.xs s.ys }
def St17.stop (s : St17) : St17 := { s.done with p := { s.done.p with still := true } }
def St17.resume (s : St17) : St17 := { s with p := { s.p with still := false } }
def St17.reset (s : St17) : St17 := { p := { s.p with free := s.p.C, still := false }, xs := [], ys := [] }

structure FineC (s : St17) : Prop where
  C1 : 1 ≤ s.p.C
  CT : s.p.C ≤ s.p.T
  T1 : s.p.T ≤ 1000
  free : 0 ≤ s.p.free
  fx : ∀ x ∈ s.xs, 0 ≤ x.1 ∧ x.1 ≤ 2305843009213693952 ∧ 1 ≤ x.2.1 ∧ 0 ≤ x.2.2
  fy : ∀ y ∈ s.ys, 1 ≤ y.2
  all : s.p.free + sumC s.xs + sumB s.ys = s.p.C

theorem sumB_append : ∀ xs ys : List (Int × Int), sumB (xs ++ ys) = sumB xs + sumB ys
  | [], ys => by simp [sumB]
  | x :: t, ys => by simp [sumB, sumB_append t ys]; omega
theorem sumC_append : ∀ xs ys : List (Int × Int × Int), sumC (xs ++ ys) = sumC xs + sumC ys
  | [], ys => by simp [sumC]
  | x :: t, ys => by simp [sumC, sumC_append t ys]; omega
theorem sumB_pos : ∀ ys : List (Int × Int), (∀ y ∈ ys, 1 ≤ y.2) → (ys.length : Int) ≤ sumB ys ∧ ∀ y ∈ ys, y.2 ≤ sumB ys
  | [], _ => by simp [sumB]
  | y :: t, h => by
    have h1 := sumB_pos t (fun z hz => h z (List.mem_cons_of_mem _ hz))
    have h2 := h y (List.mem_cons_self ..)
    simp only [sumB, List.length_cons]
    refine ⟨by omega, fun z hz => ?_⟩
    rcases List.mem_cons.1 hz with rfl | hz
    · omega
    · have := h1.2 z hz; omega
theorem sumC_pos : ∀ xs : List (Int × Int × Int), (∀ x ∈ xs, 1 ≤ x.2.1 ∧ 0 ≤ x.2.2) → (xs.length : Int) ≤ sumC xs ∧ 0 ≤ leftC xs ∧ leftC xs ≤ sumC xs ∧ ∀ x ∈ xs, x.2.1 + x.2.2 ≤ sumC xs
  | [], _ => by simp [sumC, leftC]
  | y :: t, h => by
    have h1 := sumC_pos t (fun z hz => h z (List.mem_cons_of_mem _ hz))
    have h2 := h y (List.mem_cons_self ..)
    simp only [sumC, leftC, List.length_cons]
    refine ⟨by omega, by omega, by omega, fun z hz => ?_⟩
    rcases List.mem_cons.1 hz with rfl | hz
    · omega
    · have := h1.2.2.2 z hz; omega
theorem ripe_sum (now : Int) : ∀ ys : List (Int × Int), ripeN now ys + sumB (keepB now ys) = sumB ys
  | [] => rfl
  | y :: t => by
    have := ripe_sum now t
    unfold keepB at *
    by_cases h : y.1 ≤ now
    · have hn : decide (now < y.1) = false := by simp; omega
      rw [List.filter_cons, hn]
      simp only [ripeN, sumB, if_pos h]
      simp; omega
    · have hn : decide (now < y.1) = true := by simp; omega
      rw [List.filter_cons, hn]
      simp only [ripeN, sumB, if_neg h]
      simp [sumB]; omega
theorem sumB_owe (T : Int) (x : Int × Int × Int) (ys : List (Int × Int)) (h : 0 ≤ x.2.2) : sumB (oweL T x ys) = sumB ys + x.2.2 := by
  unfold oweL
  split
  · rw [sumB_append]; simp [sumB]
  · omega
theorem doneY_sum (T : Int) : ∀ (xs : List (Int × Int × Int)) (ys : List (Int × Int)), (∀ x ∈ xs, 0 ≤ x.2.2) → leftC xs + sumB (doneY T xs ys) = sumC xs + sumB ys
  | [], ys, _ => by simp [leftC, sumC, doneY]
  | x :: t, ys, h => by
    have := doneY_sum T t (oweL T x ys) (fun z hz => h z (List.mem_cons_of_mem _ hz))
    have h2 := sumB_owe T x ys (h x (List.mem_cons_self ..))
    have e : doneY T (x :: t) ys = doneY T t (oweL T x ys) := rfl
    rw [e]
    simp only [leftC, sumC]
    omega
theorem oweL_fine (T : Int) (x : Int × Int × Int) (ys : List (Int × Int)) (h : ∀ y ∈ ys, 1 ≤ y.2) : ∀ y ∈ oweL T x ys, 1 ≤ y.2 := by
  unfold oweL
  split
  · intro y hy
    rcases List.mem_append.1 hy with hy | hy
    · exact h y hy
    · simp at hy; subst hy; show 1 ≤ x.2.2; omega
  · exact h
theorem doneY_fine (T : Int) : ∀ (xs : List (Int × Int × Int)) (ys : List (Int × Int)), (∀ y ∈ ys, 1 ≤ y.2) → ∀ y ∈ doneY T xs ys, 1 ≤ y.2
  | [], _, h => h
  | x :: t, ys, h => doneY_fine T t (oweL T x ys) (oweL_fine T x ys h)

section
variable {s : St17} (h : FineC s)
include h
theorem FineC.posC : ∀ x ∈ s.xs, 1 ≤ x.2.1 ∧ 0 ≤ x.2.2 := fun x hx => (h.fx x hx).2.2
theorem FineC.bound : sumC s.xs + sumB s.ys ≤ 1000 ∧ s.p.free ≤ 1000 ∧ 0 ≤ sumC s.xs ∧ 0 ≤ sumB s.ys ∧ s.xs.length ≤ 1000 ∧ s.ys.length ≤ 1000 ∧ 0 ≤ leftC s.xs ∧ leftC s.xs ≤ 1000 := by
  have h1 := sumB_pos _ h.fy
  have h2 := sumC_pos _ h.posC
  have := h.all; have := h.CT; have := h.T1; have := h.free
  omega
theorem FineC.fineB : fineB s.ys := fun y hy => by
  have h1 := (sumB_pos _ h.fy).2 y hy
  have h2 := h.fy y hy
  have := h.bound
  omega
theorem FineC.ripe (now : Int) : FineC (s.ripe now) := by
  have h1 := ripe_sum now s.ys
  have h2 := ripeN_bound now _ h.fineB
  have := h.all; have := h.free
  exact ⟨h.C1, h.CT, h.T1, by show 0 ≤ s.p.free + ripeN now s.ys; omega, h.fx, fun y hy => h.fy y ((List.mem_filter.1 hy).1), by show s.p.free + ripeN now s.ys + sumC s.xs + sumB (keepB now s.ys) = s.p.C; omega⟩
theorem FineC.go (now : Int) (h0 : 0 ≤ now) (h1 : now ≤ 2305843009213693952) (busy : Bool) : FineC (s.go now busy) := by
  have hr := h.ripe now
  unfold St17.go
  split
  next hc =>
    have ha := hr.all
    refine ⟨h.C1, h.CT, h.T1, Int.le_refl _, fun x hx => ?_, hr.fy, ?_⟩
    · rcases List.mem_append.1 hx with hx | hx
      · exact h.fx x hx
      · simp at hx; subst hx; exact ⟨h0, h1, hc.2.2, Int.le_refl _⟩
    · show 0 + sumC (s.xs ++ [(now, (s.ripe now).p.free, 0)]) + sumB (keepB now s.ys) = s.p.C
      rw [sumC_append]
      have e : (s.ripe now).p.C = s.p.C := rfl
      have e2 : (s.ripe now).xs = s.xs := rfl
      have e3 : (s.ripe now).ys = keepB now s.ys := rfl
      rw [e, e2, e3] at ha
      simp only [sumC]
      omega
  next => exact hr
theorem FineC.use : FineC s.use := by
  obtain ⟨p, xs, ys⟩ := s
  cases xs with
  | nil => exact h
  | cons x t =>
    have hx := h.fx x (List.mem_cons_self ..)
    have ht : ∀ y ∈ t, _ := fun y hy => h.fx y (List.mem_cons_of_mem _ hy)
    have ha := h.all
    simp only [sumC] at ha
    unfold St17.use
    dsimp only
    split
    next h1 =>
      refine ⟨h.C1, h.CT, h.T1, h.free, ht, oweL_fine _ _ _ h.fy, ?_⟩
      show p.free + sumC t + sumB (oweL p.T (x.1, 0, x.2.2 + 1) ys) = p.C
      rw [sumB_owe _ _ _ (by show 0 ≤ x.2.2 + 1; omega)]
      show p.free + sumC t + (sumB ys + (x.2.2 + 1)) = p.C
      omega
    next h1 =>
      refine ⟨h.C1, h.CT, h.T1, h.free, fun y hy => ?_, h.fy, ?_⟩
      · rcases List.mem_cons.1 hy with rfl | hy
        · exact ⟨hx.1, hx.2.1, by show 1 ≤ x.2.1 - 1; omega, by show 0 ≤ x.2.2 + 1; omega⟩
        · exact ht y hy
      · simp only [sumC]; omega
theorem FineC.done : FineC s.done := by
  have h1 := doneY_sum s.p.T s.xs s.ys (fun x hx => (h.posC x hx).2)
  have h2 := h.bound
  have := h.all; have := h.free
  exact ⟨h.C1, h.CT, h.T1, by show 0 ≤ s.p.free + leftC s.xs; omega, (fun _ h => by cases h), doneY_fine _ _ _ h.fy, by show s.p.free + leftC s.xs + sumC [] + sumB (doneY s.p.T s.xs s.ys) = s.p.C; simp only [sumC]; omega⟩
theorem FineC.stop : FineC s.stop := by
  have := h.done
  exact ⟨this.C1, this.CT, this.T1, this.free, this.fx, this.fy, this.all⟩
theorem FineC.resume : FineC s.resume := ⟨h.C1, h.CT, h.T1, h.free, h.fx, h.fy, h.all⟩
theorem FineC.reset : FineC s.reset := ⟨h.C1, h.CT, h.T1, by have := h.C1; show 0 ≤ s.p.C; omega, (fun _ h => by cases h), (fun _ h => by cases h), by show s.p.C + 0 + 0 = s.p.C; omega⟩
end
def St17.new (rf : Bool) (C T : Int) : St17 := ⟨⟨rf, C, T, C, false⟩, [], []⟩
theorem FineC.new (rf : Bool) (C T : Int) (h1 : 1 ≤ C) (h2 : C ≤ T) (h3 : T ≤ 1000) : FineC (St17.new rf C T) :=
  ⟨h1, h2, h3, by show 0 ≤ C; omega, (fun _ h => by cases h), (fun _ h => by cases h), by show C + 0 + 0 = C; omega⟩
end Go.Proofs.Ytcgefncddbbnlaa.Ck
