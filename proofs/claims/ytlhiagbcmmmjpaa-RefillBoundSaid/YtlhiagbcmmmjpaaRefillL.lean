/-
  RefillBound: the plain law. No program in sight.
-/
import Derived.Test.YtlhiagbcmmmjpaaRefillF
import Derived.Test.YtlhiagbcmmmjpaaCnt
namespace Go.Proofs.Ytlhiagbcmmmjpaa

/-- What is left of the chunks from a to b. -/
def leftW (a b : Int) : List (Int × Int) → Int
  | [] => 0
  | x :: t => (if a ≤ x.1 ∧ x.1 ≤ b then x.2 else 0) + leftW a b t
theorem leftW_append (a b : Int) : ∀ xs ys, leftW a b (xs ++ ys) = leftW a b xs + leftW a b ys
  | [], ys => by simp [leftW]
  | x :: t, ys => by simp [leftW, leftW_append a b t ys]; omega
theorem leftW_le (a b : Int) : ∀ xs, fineL xs → 0 ≤ leftW a b xs ∧ leftW a b xs ≤ sumL xs
  | [], _ => by simp [leftW, sumL]
  | x :: t, h => by
    have h1 := leftW_le a b t (fun y hy => h y (List.mem_cons_of_mem _ hy))
    have h2 := h x (List.mem_cons_self ..)
    simp only [leftW, sumL]
    split <;> omega

/-- The number of a tick's period. -/
def perd (s T t : Int) : Int := (t - s) / T
theorem perd_mono {s T a b : Int} (hT : 1 ≤ T) (h : a ≤ b) : perd s T a ≤ perd s T b := Int.ediv_le_ediv (by omega) (by omega)
theorem perd_gap {s T a b : Int} (hT : 1 ≤ T) (h : a ≤ b) : perd s T b - perd s T a ≤ (b + T - a - 1) / T := by
  unfold perd
  have h1 := Int.mul_ediv_add_emod (a - s) T
  have h2 := Int.emod_nonneg (a - s) (show T ≠ 0 by omega)
  have h3 : (b - s) / T - (a - s) / T = (b - s - T * ((a - s) / T)) / T := by
    rw [show b - s - T * ((a - s) / T) = b - s + (-((a - s) / T)) * T by rw [Int.neg_mul, Int.mul_comm]; omega, Int.add_mul_ediv_right _ _ (by omega)]
    omega
  rw [h3]
  have h4 := Int.emod_lt_of_pos (a - s) (show 0 < T by omega)
  exact Int.ediv_le_ediv (by omega) (by omega)

structure RWin (p : Bp) (xs : List (Int × Int)) (C T s now : Int) (fr : List Int) : Prop where
  old : ∀ a b, s ≤ a → a ≤ b → b < now → cnt a b fr + leftW a b xs ≤ C * (1 + perd s T b - perd s T a)
  cur : ∀ a, s ≤ a → a ≤ now → cnt a now fr + (p.free + sumL xs) ≤ C * (1 + perd s T now - perd s T a)
  at_ : ∀ x ∈ xs, s ≤ x.1 ∧ x.1 ≤ now
  fr_ : ∀ x ∈ fr, s ≤ x ∧ x ≤ now

theorem cnt_past {lo hi now : Int} (h : now < lo) : ∀ l : List Int, (∀ x ∈ l, x ≤ now) → cnt lo hi l = 0
  | [], _ => rfl
  | x :: t, hx => by
    have h1 := hx x (List.mem_cons_self ..)
    simp only [cnt]
    rw [if_neg (by omega), cnt_past h t (fun y hy => hx y (List.mem_cons_of_mem _ hy))]
    rfl
theorem cnt_upto {lo hi now : Int} (h : now ≤ hi) : ∀ l : List Int, (∀ x ∈ l, x ≤ now) → cnt lo hi l = cnt lo now l
  | [], _ => rfl
  | x :: t, hx => by
    have h1 := hx x (List.mem_cons_self ..)
    simp only [cnt]
    rw [cnt_upto h t (fun y hy => hx y (List.mem_cons_of_mem _ hy))]
    congr 1
    split <;> split <;> omega
theorem leftW_upto {lo hi now : Int} (h : now < lo) : ∀ xs : List (Int × Int), (∀ x ∈ xs, x.1 ≤ now) → leftW lo hi xs = 0
  | [], _ => rfl
  | x :: t, hx => by
    have h1 := hx x (List.mem_cons_self ..)
    simp only [leftW]
    rw [if_neg (by omega), leftW_upto h t (fun y hy => hx y (List.mem_cons_of_mem _ hy))]
    rfl

theorem RWin.new (rf : Bool) (C T s : Int) (hC : 0 ≤ C) (hs : 0 ≤ s) : RWin (Bp.new rf C T s) [] C T s s [] := by
  refine ⟨fun a b h1 h2 h3 => by omega, fun a h1 h2 => ?_, (fun _ h => by cases h), (fun _ h => by cases h)⟩
  have : a = s := by omega
  subst this
  show 0 + (C + 0) ≤ C * (1 + perd a T a - perd a T a)
  rw [show (1 + perd a T a - perd a T a) = 1 by omega]
  omega

/-- One tick more. -/
theorem RWin.go {p : Bp} {xs : List (Int × Int)} {C T s now : Int} {fr : List Int} {n : Nat} (hf : Fine p xs C T n) (hp : p.now = now) (hs : p.start = s) (h : RWin p xs C T s now fr) (busy : Bool) :
    RWin (goP p xs (now + 1) busy).1 (goP p xs (now + 1) busy).2 C T s (now + 1) fr := by
  have hT : 1 ≤ T := by have := hf.C1; have := hf.CT; omega
  have hC := hf.C1
  have hst : s ≤ now := by have := hf.now; omega
  have hfl := hf.goFree (now + 1)
  have hx2 : (goP p xs (now + 1) busy).2 = xs ∨ ∃ m, (goP p xs (now + 1) busy).2 = xs ++ [(now + 1, m)] := by
    unfold goP; split
    · exact .inr ⟨_, rfl⟩
    · exact .inl rfl
  have hsum := goP_sum p xs (now + 1) busy
  have hfr : ∀ x ∈ fr, x ≤ now := fun x hx => (h.fr_ x hx).2
  have hlw : ∀ a b, b ≤ now → leftW a b (goP p xs (now + 1) busy).2 = leftW a b xs := fun a b hb => by
    rcases hx2 with e | ⟨m, e⟩
    · rw [e]
    · rw [e, leftW_append]; simp only [leftW]; rw [if_neg (by omega)]; omega
  refine ⟨fun a b h1 h2 h3 => ?_, fun a h1 h2 => ?_, fun x hx => ?_, fun x hx => by have := h.fr_ x hx; omega⟩
  · rw [hlw a b (by omega)]
    by_cases hb : b < now
    · exact h.old a b h1 h2 hb
    · obtain rfl : b = now := by omega
      have := h.cur a h1 h2
      have := leftW_le a b xs hf.fine
      have := hf.free
      omega
  · rw [hsum, cnt_upto (now := now) (by omega) fr hfr]
    by_cases ha : a ≤ now
    · have hcur := h.cur a h1 ha
      have hm := perd_mono (s := s) (T := T) hT (show now ≤ now + 1 by omega)
      unfold goFree
      rw [hp, hs, hf.eT]
      by_cases hlt : (now - s) / T < (now + 1 - s) / T
      · rw [if_pos hlt]
        have h0 := hf.pos
        have h00 := hf.free
        have hlt' : perd s T now + 1 ≤ perd s T (now + 1) := hlt
        have e : C * (1 + perd s T (now + 1) - perd s T a) = C * (1 + perd s T now - perd s T a) + C * (perd s T (now + 1) - perd s T now) := by rw [← Int.mul_add]; congr 1; omega
        have e2 : C * 1 ≤ C * (perd s T (now + 1) - perd s T now) := Int.mul_le_mul_of_nonneg_left (by omega) (by omega)
        have := hf.eC
        omega
      · rw [if_neg hlt]
        have e : C * (1 + perd s T (now + 1) - perd s T a) = C * (1 + perd s T now - perd s T a) + C * (perd s T (now + 1) - perd s T now) := by rw [← Int.mul_add]; congr 1; omega
        have e2 : 0 ≤ C * (perd s T (now + 1) - perd s T now) := Int.mul_nonneg (by omega) (by omega)
        omega
    · obtain rfl : a = now + 1 := by omega
      rw [cnt_none _ _ (by omega)]
      rw [show (1 + perd s T (now + 1) - perd s T (now + 1)) = 1 by omega]
      omega
  · rcases hx2 with e | ⟨m, e⟩
    · rw [e] at hx; have := h.at_ x hx; omega
    · rw [e] at hx
      rcases List.mem_append.1 hx with hx | hx
      · have := h.at_ x hx; omega
      · simp at hx; subst hx; exact ⟨by show s ≤ now + 1; omega, Int.le_refl _⟩

theorem RWin.use {p : Bp} {x : Int × Int} {t : List (Int × Int)} {C T s now : Int} {fr : List Int} (h : RWin p (x :: t) C T s now fr) : RWin p (takeL (x :: t)) C T s now (fr ++ [x.1]) := by
  have hxn := h.at_ x (List.mem_cons_self ..)
  have hl : ∀ a b, leftW a b (takeL (x :: t)) = leftW a b (x :: t) - if a ≤ x.1 ∧ x.1 ≤ b then 1 else 0 := fun a b => by
    rw [takeL_cons]
    split
    next h1 => simp only [leftW, h1]; split <;> omega
    next h1 => simp only [leftW]; split <;> omega
  have hs : sumL (takeL (x :: t)) = sumL (x :: t) - 1 := by
    rw [takeL_cons]
    split
    next h1 => simp only [sumL, h1]; omega
    next h1 => simp only [sumL]; omega
  refine ⟨fun a b h1 h2 h3 => ?_, fun a h1 h2 => ?_, fun y hy => ?_, fun y hy => ?_⟩
  · have := h.old a b h1 h2 h3
    rw [hl, cnt_append]
    simp only [cnt]
    omega
  · have := h.cur a h1 h2
    rw [hs, cnt_append]
    simp only [cnt]
    split <;> omega
  · rw [takeL_cons] at hy
    split at hy
    · exact h.at_ y (List.mem_cons_of_mem _ hy)
    · rcases List.mem_cons.1 hy with rfl | hy
      · exact hxn
      · exact h.at_ y (List.mem_cons_of_mem _ hy)
  · rcases List.mem_append.1 hy with hy | hy
    · exact h.fr_ y hy
    · simp at hy; subst hy; exact hxn

theorem RWin.done {p : Bp} {xs : List (Int × Int)} {C T s now : Int} {fr : List Int} (hf : fineL xs) (h : RWin p xs C T s now fr) : RWin { p with free := p.free + sumL xs } [] C T s now fr := by
  refine ⟨fun a b h1 h2 h3 => ?_, fun a h1 h2 => ?_, (fun _ h => by cases h), h.fr_⟩
  · have := h.old a b h1 h2 h3
    have := (leftW_le a b xs hf).1
    simp only [leftW]
    omega
  · have := h.cur a h1 h2
    show cnt a now fr + (p.free + sumL xs + 0) ≤ _
    omega
theorem RWin.still {p : Bp} {xs : List (Int × Int)} {C T s now : Int} {fr : List Int} (h : RWin p xs C T s now fr) (b : Bool) : RWin { p with still := b } xs C T s now fr := ⟨h.old, h.cur, h.at_, h.fr_⟩

theorem RWin.law {p : Bp} {xs : List (Int × Int)} {C T s now : Int} {fr : List Int} {n : Nat} (hf : Fine p xs C T n) (h : RWin p xs C T s now fr) (a b : Int) (ha : a ∈ fr) (hb : b ∈ fr) (hab : a ≤ b) : cnt a b fr ≤ C * ((b + T - a - 1) / T + 1) := by
  have hT : 1 ≤ T := by have := hf.C1; have := hf.CT; omega
  have hC := hf.C1
  have h1 := h.fr_ a ha
  have h2 := h.fr_ b hb
  have hg := perd_gap (s := s) hT hab
  have h3 : cnt a b fr ≤ C * (1 + perd s T b - perd s T a) := by
    by_cases hlt : b < now
    · have := h.old a b h1.1 hab hlt
      have := (leftW_le a b xs hf.fine).1
      omega
    · obtain rfl : b = now := by omega
      have := h.cur a h1.1 hab
      have := hf.pos
      have := hf.free
      omega
  exact Int.le_trans h3 (Int.mul_le_mul_of_nonneg_left (by omega) (by omega))
end Go.Proofs.Ytlhiagbcmmmjpaa
