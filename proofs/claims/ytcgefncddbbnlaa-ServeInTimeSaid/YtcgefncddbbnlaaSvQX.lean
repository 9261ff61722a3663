/-
  Serve, plain: what was used of a chunk budget, by when its chunks began. No program in sight.
  Serve, plain: a window of T busy ticks has C uses. No program in sight.
  Serve, plain: what was used of a refill budget in a period. No program in sight.
  Serve, plain: all ticks its own: how often it is used; who comes alone is done in time. No program in sight.
  Serve, plain: with all ticks, who comes alone is done in time. No program in sight.
-/
import Derived.Test.YtcgefncddbbnlaaSvPK
namespace Go.Proofs.Ytcgefncddbbnlaa

/-- What was used of chunks begun at or behind x. -/
def usY (T x : Int) : List (Int × Int) → Int
  | [] => 0
  | y :: t => (if x + T ≤ y.1 then y.2 else 0) + usY T x t
def usX (x : Int) : List (Int × Int × Int) → Int
  | [] => 0
  | c :: t => (if x ≤ c.1 then c.2.2 else 0) + usX x t
theorem usY_append (T x : Int) : ∀ xs ys : List (Int × Int), usY T x (xs ++ ys) = usY T x xs + usY T x ys
  | [], ys => by simp [usY]
  | y :: t, ys => by simp only [List.cons_append, usY, usY_append T x t ys]; omega
theorem usX_append (x : Int) : ∀ xs ys : List (Int × Int × Int), usX x (xs ++ ys) = usX x xs + usX x ys
  | [], ys => by simp [usX]
  | y :: t, ys => by simp only [List.cons_append, usX, usX_append x t ys]; omega
theorem usY_keep (T x now : Int) : ∀ ys : List (Int × Int), (∀ y ∈ ys, 1 ≤ y.2) → usY T x (Ck.keepB now ys) ≤ usY T x ys
  | [], _ => Int.le_refl _
  | y :: t, h => by
    have h1 := h y (by simp)
    have h2 := usY_keep T x now t (fun z hz => h z (by simp [hz]))
    unfold Ck.keepB at h2 ⊢
    rw [List.filter_cons]
    split
    · simp only [usY]; omega
    · simp only [usY]
      split <;> omega
theorem usY_owe (T x : Int) (c : Int × Int × Int) (ys : List (Int × Int)) (h : 0 ≤ c.2.2) : usY T x (Ck.oweL T c ys) = usY T x ys + (if x ≤ c.1 then c.2.2 else 0) := by
  unfold Ck.oweL
  split
  · rw [usY_append]
    simp only [usY]
    by_cases hx : x ≤ c.1
    · rw [if_pos hx, if_pos (by omega)]; omega
    · rw [if_neg hx, if_neg (by omega)]; omega
  · split <;> omega
theorem usY_done (T x : Int) : ∀ (xs : List (Int × Int × Int)) (ys : List (Int × Int)), (∀ c ∈ xs, 0 ≤ c.2.2) → usY T x (Ck.doneY T xs ys) = usY T x ys + usX x xs
  | [], ys, _ => by simp [Ck.doneY, usX]
  | c :: t, ys, h => by
    have h1 := usY_done T x t (Ck.oweL T c ys) (fun z hz => h z (by simp [hz]))
    have h2 := usY_owe T x c ys (h c (by simp))
    unfold Ck.doneY at h1 ⊢
    rw [List.foldl_cons, h1, h2]
    simp only [usX]
    omega
theorem usY_zero (T x : Int) : ∀ ys : List (Int × Int), (∀ y ∈ ys, y.1 < x + T) → usY T x ys = 0
  | [], _ => rfl
  | y :: t, h => by
    have h1 := h y (by simp)
    have h2 := usY_zero T x t (fun z hz => h z (by simp [hz]))
    simp only [usY]
    rw [if_neg (by omega)]
    omega
theorem usX_zero (x : Int) : ∀ xs : List (Int × Int × Int), (∀ c ∈ xs, c.1 < x) → usX x xs = 0
  | [], _ => rfl
  | c :: t, h => by
    have h1 := h c (by simp)
    have h2 := usX_zero x t (fun z hz => h z (by simp [hz]))
    simp only [usX]
    rw [if_neg (by omega)]
    omega
/-- Z x: uses ahead of tick x. -/
structure SvZ (s : Ck.St17) (Z : Int → Int) (n : Int) : Prop where
  us : ∀ x, x ≤ n → usY s.p.T x s.ys + usX x s.xs ≤ Z n - Z x
  xt : ∀ c ∈ s.xs, c.1 ≤ n
  yt : ∀ y ∈ s.ys, y.1 ≤ n + s.p.T
variable {s : Ck.St17} {Z : Int → Int} {n : Int}
theorem SvZ.go (h : SvZ s Z n) (hf : Ck.FineC s) (b : Bool) : SvZ (s.go n b) Z n := by
  have hk : ∀ y, y ∈ Ck.keepB n s.ys → y ∈ s.ys := fun y hy => (List.mem_filter.1 hy).1
  unfold Ck.St17.go
  split
  · refine ⟨fun x hx => ?_, fun c hc => ?_, fun y hy => h.yt y (hk y hy)⟩
    · have h1 := h.us x hx
      have h2 := usY_keep s.p.T x n s.ys hf.fy
      show usY s.p.T x (Ck.keepB n s.ys) + usX x (s.xs ++ [(n, (s.ripe n).p.free, 0)]) ≤ _
      rw [usX_append]
      simp only [usX]
      split <;> omega
    · rcases List.mem_append.1 hc with hc | hc
      · exact h.xt c hc
      · simp at hc; subst hc; exact Int.le_refl _
  · refine ⟨fun x hx => ?_, h.xt, fun y hy => h.yt y (hk y hy)⟩
    have h1 := h.us x hx
    have h2 := usY_keep s.p.T x n s.ys hf.fy
    show usY s.p.T x (Ck.keepB n s.ys) + usX x s.xs ≤ _
    omega
theorem SvZ.next {s' : Ck.St17} (h1 : ∀ x, x ≤ n → usY s'.p.T x s'.ys + usX x s'.xs ≤ Z (n + 1) - Z x) (h2 : ∀ c ∈ s'.xs, c.1 ≤ n) (h3 : ∀ y ∈ s'.ys, y.1 ≤ n + s'.p.T) : SvZ s' Z (n + 1) := by
  refine ⟨fun x hx => ?_, fun c hc => by have := h2 c hc; omega, fun y hy => by have := h3 y hy; omega⟩
  by_cases e : x ≤ n
  · exact h1 x e
  · obtain rfl : x = n + 1 := by omega
    rw [usY_zero _ _ _ (fun y hy => by have := h3 y hy; omega), usX_zero _ _ (fun c hc => by have := h2 c hc; omega)]
    omega
theorem SvZ.idle (h : SvZ s Z n) (hz : Z (n + 1) = Z n) : SvZ s Z (n + 1) :=
  SvZ.next (fun x hx => by rw [hz]; exact h.us x hx) h.xt h.yt
theorem SvZ.done (h : SvZ s Z n) (hf : Ck.FineC s) : SvZ s.done Z n := by
  have hx0 : ∀ c ∈ s.xs, 0 ≤ c.2.2 := fun c hc => (hf.fx c hc).2.2.2
  refine ⟨fun x hx => ?_, fun c hc => (by cases hc), fun y hy => ?_⟩
  · show usY s.p.T x (Ck.doneY s.p.T s.xs s.ys) + usX x [] ≤ _
    rw [usY_done s.p.T x s.xs s.ys hx0]
    have := h.us x hx
    simp only [usX]
    omega
  · show y.1 ≤ n + s.p.T
    have key : ∀ (xs : List (Int × Int × Int)) (ys : List (Int × Int)), (∀ c ∈ xs, c.1 ≤ n) → (∀ y ∈ ys, y.1 ≤ n + s.p.T) → ∀ y ∈ Ck.doneY s.p.T xs ys, y.1 ≤ n + s.p.T := by
      intro xs
      induction xs with
      | nil => intro ys _ h2 y hy; exact h2 y hy
      | cons c t ih =>
        intro ys h1 h2 y hy
        refine ih (Ck.oweL s.p.T c ys) (fun z hz => h1 z (by simp [hz])) (fun z hz => ?_) y hy
        unfold Ck.oweL at hz
        split at hz
        · rcases List.mem_append.1 hz with hz | hz
          · exact h2 z hz
          · simp at hz; subst hz
            have := h1 c (by simp)
            show c.1 + s.p.T ≤ n + s.p.T
            omega
        · exact h2 z hz
    exact key s.xs s.ys h.xt h.yt y hy
theorem SvZ.use1 (h : SvZ s Z n) (hf : Ck.FineC s) {c : Int × Int × Int} {t : List (Int × Int × Int)} (hx : s.xs = c :: t) (hz : Z (n + 1) = Z n + 1) : SvZ s.use Z (n + 1) := by
  have hc := hf.fx c (by rw [hx]; simp)
  have hct := h.xt c (by rw [hx]; simp)
  have ht : ∀ z ∈ t, z.1 ≤ n := fun z hz => h.xt z (by rw [hx]; simp [hz])
  have hu := h.us
  rw [hx] at hu
  simp only [usX] at hu
  unfold Ck.St17.use
  rw [hx]
  dsimp only
  split
  · refine SvZ.next (fun x hxn => ?_) ht (fun y hy => ?_)
    · show usY s.p.T x (Ck.oweL s.p.T (c.1, 0, c.2.2 + 1) s.ys) + usX x t ≤ _
      have h1 := hu x hxn
      rw [usY_owe _ _ _ _ (by show 0 ≤ c.2.2 + 1; omega)]
      dsimp only
      by_cases e : x ≤ c.1
      · rw [if_pos e] at h1 ⊢; omega
      · rw [if_neg e] at h1 ⊢; omega
    · have hy : y ∈ Ck.oweL s.p.T (c.1, 0, c.2.2 + 1) s.ys := hy
      show y.1 ≤ n + s.p.T
      unfold Ck.oweL at hy
      split at hy
      · rcases List.mem_append.1 hy with hy | hy
        · exact h.yt y hy
        · simp at hy; subst hy
          show c.1 + s.p.T ≤ n + s.p.T
          omega
      · exact h.yt y hy
  · refine SvZ.next (fun x hxn => ?_) (fun z hz => ?_) h.yt
    · show usY s.p.T x s.ys + usX x ((c.1, c.2.1 - 1, c.2.2 + 1) :: t) ≤ _
      have h1 := hu x hxn
      simp only [usX]
      by_cases e : x ≤ c.1
      · rw [if_pos e] at h1 ⊢; omega
      · rw [if_neg e] at h1 ⊢; omega
    · rcases List.mem_cons.1 hz with rfl | hz
      · exact hct
      · exact ht z hz
theorem usY_all (T x : Int) : ∀ ys : List (Int × Int), (∀ y ∈ ys, x + T ≤ y.1) → usY T x ys = Ck.sumB ys
  | [], _ => rfl
  | y :: t, h => by
    have h1 := h y (by simp)
    have h2 := usY_all T x t (fun z hz => h z (by simp [hz]))
    simp only [usY, Ck.sumB]
    rw [if_pos h1, h2]
/-- A dry tick: all was used in the T - 1 ticks ahead of it. -/
theorem SvZ.dry (h : SvZ s Z n) (hf : Ck.FineC s) (h0 : 0 ≤ n) (h1 : n ≤ 2305843009213693952) (hst : s.p.still = false) (hx : (s.go n true).xs = []) : s.p.C ≤ Z n - Z (n - s.p.T + 1) := by
  have hz := h.go hf true
  have hf' := hf.go n h0 h1 true
  have hall := hf'.all
  have hT := hf.CT
  have hC := hf.C1
  unfold Ck.St17.go at hz hx hall
  split at hx
  next hc => simp at hx
  next hc =>
    rw [if_neg hc] at hz hall
    have hfr : (s.ripe n).p.free ≤ 0 := by
      rcases Int.lt_or_le 0 (s.ripe n).p.free with e | e
      · exact absurd ⟨rfl, hst, e⟩ hc
      · exact e
    have hu := hz.us (n - s.p.T + 1) (by omega)
    have hy : usY s.p.T (n - s.p.T + 1) (Ck.keepB n s.ys) = Ck.sumB (Ck.keepB n s.ys) := usY_all _ _ _ (fun y hy => by
      have := of_decide_eq_true (List.mem_filter.1 hy).2
      omega)
    have hxs : s.xs = [] := hx
    have hu' : usY s.p.T (n - s.p.T + 1) (Ck.keepB n s.ys) + usX (n - s.p.T + 1) s.xs ≤ Z n - Z (n - s.p.T + 1) := hu
    have ha : (s.ripe n).p.free + Ck.sumC s.xs + Ck.sumB (Ck.keepB n s.ys) = s.p.C := hall
    rw [hxs] at hu' ha
    simp only [usX, Ck.sumC] at hu' ha
    omega
end Go.Proofs.Ytcgefncddbbnlaa

namespace Go.Proofs.Ytcgefncddbbnlaa

theorem mono1 {Z : Int → Int} (h1 : ∀ x, Z (x + 1) ≤ Z x + 1) (x : Int) : ∀ k : Nat, Z (x + k) ≤ Z x + k
  | 0 => by simp
  | k + 1 => by
    have := mono1 h1 x k
    have h2 := h1 (x + k)
    rw [show x + ((k + 1 : Nat) : Int) = x + k + 1 by omega]
    omega
/-- From s on each tick is used, or dry: C uses of what was used T ticks back. -/
theorem window {Z : Int → Int} (h1 : ∀ x, Z (x + 1) ≤ Z x + 1) (C T s : Int) (hC : C ≤ T) (hT : 1 ≤ T) :
    ∀ m : Nat, (m : Int) ≤ T → (∀ k : Nat, (k : Int) < m → Z (s + k + 1) = Z (s + k) + 1 ∨ (Z (s + k + 1) = Z (s + k) ∧ C ≤ Z (s + k) - Z (s + k - T + 1))) → (∀ x, Z x ≤ Z (x + 1)) →
      Z s + m ≤ Z (s + m) ∨ C ≤ Z (s + m) - Z s + (T - m)
  | 0, _, _, _ => by left; simp
  | m + 1, hm, hk, h0 => by
    have ih := window h1 C T s hC hT m (by omega) (fun k hk' => hk k (by omega)) h0
    have e : s + ((m + 1 : Nat) : Int) = s + m + 1 := by omega
    rw [e]
    rcases hk m (by omega) with hz | ⟨hz, hd⟩
    · rcases ih with ih | ih
      · left; omega
      · right; omega
    · right
      have hx : Z s ≤ Z (s + m - T + 1) + (T - 1 - m) := by
        have := mono1 h1 (s + m - T + 1) (T - 1 - m).toNat
        rw [show s + (m : Int) - T + 1 + (((T - 1 - m).toNat : Nat) : Int) = s by omega] at this
        omega
      omega
theorem window_all {Z : Int → Int} (h1 : ∀ x, Z (x + 1) ≤ Z x + 1) (h0 : ∀ x, Z x ≤ Z (x + 1)) (C : Int) (T : Nat) (s : Int) (hC : C ≤ T) (hT : 1 ≤ T)
    (hk : ∀ k : Nat, k < T → Z (s + k + 1) = Z (s + k) + 1 ∨ (Z (s + k + 1) = Z (s + k) ∧ C ≤ Z (s + k) - Z (s + k - T + 1))) : Z s + C ≤ Z (s + T) := by
  rcases window h1 C T s hC (by omega) T (Int.le_refl _) (fun k hk' => hk k (by omega)) h0 with h | h <;> omega
end Go.Proofs.Ytcgefncddbbnlaa

namespace Go.Proofs.Ytcgefncddbbnlaa

/-- A period's first tick. -/
def pst (T n : Int) : Int := T * (n / T)
def SrZ (p : Rf.Bp) (xs : List (Int × Int)) (Z : Int → Int) (at_ n : Int) : Prop := p.start = 0 ∧ p.now = at_ ∧ p.C ≤ p.free + Rf.sumL xs + (Z n - Z (pst p.T at_))
variable {p : Rf.Bp} {xs : List (Int × Int)} {Z : Int → Int} {n : Int}
theorem pst_next {T n : Int} (hT : 1 ≤ T) : (n / T < (n + 1) / T ∧ pst T (n + 1) = n + 1) ∨ ((n + 1) / T = n / T ∧ pst T (n + 1) = pst T n) := by
  unfold pst
  have h1 := Int.emod_add_mul_ediv n T
  have h2 := Int.emod_add_mul_ediv (n + 1) T
  have h3 := Int.emod_nonneg n (show T ≠ 0 by omega)
  have h4 := Int.emod_lt_of_pos n (show 0 < T by omega)
  have h5 := Int.emod_nonneg (n + 1) (show T ≠ 0 by omega)
  have h6 := Int.emod_lt_of_pos (n + 1) (show 0 < T by omega)
  by_cases e : n % T + 1 < T
  · right
    have e1 : (n + 1) / T = n / T := by
      rw [show n + 1 = (n % T + 1) + T * (n / T) by omega, Int.add_mul_ediv_left _ _ (by omega), Int.ediv_eq_zero_of_lt (by omega) e]
      omega
    exact ⟨e1, by rw [e1]⟩
  · left
    have e1 : (n + 1) / T = n / T + 1 := by
      rw [show n + 1 = 0 + T * (n / T + 1) by rw [Int.mul_add]; omega, Int.add_mul_ediv_left _ _ (by omega)]
      simp
    refine ⟨by omega, ?_⟩
    rw [e1, Int.mul_add]
    omega
theorem SrZ.go (h : SrZ p xs Z n (n + 1)) (hf : FineR p xs) (b : Bool) : SrZ (Rf.goP p xs (n + 1) b).1 (Rf.goP p xs (n + 1) b).2 Z (n + 1) (n + 1) := by
  obtain ⟨h1, h2, h3⟩ := h
  have hT : 1 ≤ p.T := by have := hf.C1; have := hf.CT; omega
  have hfr : p.C ≤ Rf.goFree p xs (n + 1) + Rf.sumL xs + (Z (n + 1) - Z (pst p.T (n + 1))) := by
    unfold Rf.goFree
    rw [h1, h2, Int.sub_zero, Int.sub_zero]
    rcases pst_next (T := p.T) (n := n) hT with ⟨e1, e2⟩ | ⟨e1, e2⟩
    · rw [if_pos e1, e2]; omega
    · rw [if_neg (by omega), e2]; omega
  unfold Rf.goP
  split
  · refine ⟨h1, rfl, ?_⟩
    show p.C ≤ 0 + Rf.sumL (xs ++ [(n + 1, Rf.goFree p xs (n + 1))]) + (Z (n + 1) - Z (pst p.T (n + 1)))
    rw [Rf.sumL_append]
    simp only [Rf.sumL]
    omega
  · exact ⟨h1, rfl, hfr⟩
theorem SrZ.use1 {at_ : Int} (h : SrZ p xs Z at_ n) (hx : xs ≠ []) (hz : Z (n + 1) = Z n + 1) : SrZ p (Rf.takeL xs) Z at_ (n + 1) := by
  obtain ⟨h1, h2, h3⟩ := h
  refine ⟨h1, h2, ?_⟩
  cases xs with
  | nil => exact absurd rfl hx
  | cons x t =>
    rw [Rf.takeL_cons]
    simp only [Rf.sumL] at h3
    split
    · omega
    · simp only [Rf.sumL]; omega
theorem SrZ.idle {at_ : Int} (h : SrZ p xs Z at_ n) (hz : Z (n + 1) = Z n) : SrZ p xs Z at_ (n + 1) := by
  obtain ⟨h1, h2, h3⟩ := h
  exact ⟨h1, h2, by omega⟩
theorem SrZ.done {at_ : Int} (h : SrZ p xs Z at_ n) : SrZ { p with free := p.free + Rf.sumL xs } [] Z at_ n := by
  obtain ⟨h1, h2, h3⟩ := h
  refine ⟨h1, h2, ?_⟩
  show p.C ≤ p.free + Rf.sumL xs + 0 + (Z n - Z (pst p.T at_))
  omega
/-- A dry tick: all of the period's was used. -/
theorem SrZ.dry {now : Int} (h : SrZ (Rf.goP p xs now true).1 (Rf.goP p xs now true).2 Z now now) (hst : p.still = false) (hx : (Rf.goP p xs now true).2 = []) : p.C ≤ Z now - Z (pst p.T now) := by
  obtain ⟨_, _, h3⟩ := h
  unfold Rf.goP at h3 hx
  split at hx
  next hc => simp at hx
  next hc =>
    rw [if_neg hc] at h3
    have hx' : xs = [] := hx
    have e : Rf.goFree p xs now ≤ 0 := by
      rcases Int.lt_or_le 0 (Rf.goFree p xs now) with e | e
      · exact absurd ⟨rfl, hst, e⟩ hc
      · exact e
    have h3' : p.C ≤ Rf.goFree p xs now + Rf.sumL xs + (Z now - Z (pst p.T now)) := h3
    rw [hx'] at h3' e
    simp only [Rf.sumL] at h3'
    omega
/-- A whole period that is busy has C uses. -/
theorem period_all (h0 : ∀ x, Z x ≤ Z (x + 1)) (C : Int) (s : Int) : ∀ m : Nat, (∀ k : Nat, k < m → Z (s + k + 1) = Z (s + k) + 1 ∨ C ≤ Z (s + k) - Z s) → Z s + m ≤ Z (s + m) ∨ C ≤ Z (s + m) - Z s
  | 0, _ => by left; simp
  | m + 1, hk => by
    have ih := period_all h0 C s m (fun k hk' => hk k (by omega))
    have h1 := h0 (s + m)
    rw [show s + ((m + 1 : Nat) : Int) = s + m + 1 by omega]
    rcases hk m (by omega) with hz | hd
    · rcases ih with ih | ih
      · left; omega
      · right; omega
    · right; omega
end Go.Proofs.Ytcgefncddbbnlaa

namespace Go.Proofs.Ytcgefncddbbnlaa

theorem SrZ.go0 {p : Rf.Bp} {xs : List (Int × Int)} {Z : Int → Int} {n : Int} (h : SrZ p xs Z n n) (b : Bool) : SrZ (Rf.goP p xs n b).1 (Rf.goP p xs n b).2 Z n n := by
  obtain ⟨h1, h2, h3⟩ := h
  have hfr : Rf.goFree p xs n = p.free := by
    unfold Rf.goFree
    rw [h2, if_neg (by omega)]
  unfold Rf.goP
  rw [hfr]
  split
  · refine ⟨h1, rfl, ?_⟩
    show p.C ≤ 0 + Rf.sumL (xs ++ [(n, p.free)]) + (Z n - Z (pst p.T n))
    rw [Rf.sumL_append]
    simp only [Rf.sumL]
    omega
  · exact ⟨h1, rfl, h3⟩
/-- A budget of either kind, by what was used; at: the tick of the last Go. -/
def BsZ (b : Bs) (C T : Int) (Z : Int → Int) (at_ n : Int) : Prop := match b with
  | .ch s => SvZ s Z n ∧ s.p.still = false ∧ s.p.C = C ∧ s.p.T = T
  | .re p xs => SrZ p xs Z at_ n ∧ p.still = false ∧ p.C = C ∧ p.T = T
/-- A dry tick. -/
def BsDry (b : Bs) (C T : Int) (Z : Int → Int) (n : Int) : Prop := match b with
  | .ch _ => C ≤ Z n - Z (n - T + 1)
  | .re _ _ => C ≤ Z n - Z (pst T n)
def Bs.isCh (b : Bs) : Bool := match b with
  | .ch _ => true
  | .re _ _ => false
theorem go_ch {s : Ck.St17} {n : Int} {b : Bool} : (s.go n b).p.still = s.p.still ∧ (s.go n b).p.C = s.p.C ∧ (s.go n b).p.T = s.p.T := by
  unfold Ck.St17.go
  split <;> exact ⟨rfl, rfl, rfl⟩
theorem use_ch {s : Ck.St17} : s.use.p = s.p := by
  unfold Ck.St17.use
  split
  · rfl
  · split <;> rfl
theorem go_re {p : Rf.Bp} {xs : List (Int × Int)} {n : Int} {b : Bool} : (Rf.goP p xs n b).1.still = p.still ∧ (Rf.goP p xs n b).1.C = p.C ∧ (Rf.goP p xs n b).1.T = p.T := by
  unfold Rf.goP
  split <;> exact ⟨rfl, rfl, rfl⟩
variable {b : Bs} {C T : Int} {Z : Int → Int} {n : Int}
theorem BsZ.go {at_ : Int} (h : BsZ b C T Z at_ n) (ha : at_ = n ∨ at_ + 1 = n) (hf : FineBs b) (u : Bool) : BsZ (b.go n u) C T Z n n := by
  cases b with
  | ch s =>
    obtain ⟨h1, h2, h3, h4⟩ := h
    obtain ⟨e1, e2, e3⟩ := go_ch (s := s) (n := n) (b := u)
    exact ⟨h1.go hf u, e1.trans h2, e2.trans h3, e3.trans h4⟩
  | re p xs =>
    obtain ⟨h1, h2, h3, h4⟩ := h
    obtain ⟨e1, e2, e3⟩ := go_re (p := p) (xs := xs) (n := n) (b := u)
    refine ⟨?_, e1.trans h2, e2.trans h3, e3.trans h4⟩
    rcases ha with rfl | rfl
    · obtain ⟨g1, g2, g3⟩ := h1
      have hn : p.now = at_ := g2
      exact SrZ.go0 ⟨g1, g2, g3⟩ u
    · have hf : FineR p xs := hf
      obtain ⟨g1, g2, g3⟩ := h1
      -- the last Go was at at_; what was used since is counted
      have hT : 1 ≤ p.T := by have := hf.C1; have := hf.CT; omega
      have hfr : p.C ≤ Rf.goFree p xs (at_ + 1) + Rf.sumL xs + (Z (at_ + 1) - Z (pst p.T (at_ + 1))) := by
        unfold Rf.goFree
        rw [g1, g2, Int.sub_zero, Int.sub_zero]
        rcases pst_next (T := p.T) (n := at_) hT with ⟨x1, x2⟩ | ⟨x1, x2⟩
        · rw [if_pos x1, x2]; omega
        · rw [if_neg (by omega), x2]; omega
      show SrZ (Rf.goP p xs (at_ + 1) u).1 (Rf.goP p xs (at_ + 1) u).2 Z (at_ + 1) (at_ + 1)
      unfold Rf.goP
      split
      · refine ⟨g1, rfl, ?_⟩
        show p.C ≤ 0 + Rf.sumL (xs ++ [(at_ + 1, Rf.goFree p xs (at_ + 1))]) + (Z (at_ + 1) - Z (pst p.T (at_ + 1)))
        rw [Rf.sumL_append]
        simp only [Rf.sumL]
        omega
      · exact ⟨g1, rfl, hfr⟩
theorem BsZ.use (h : BsZ b C T Z n n) (hf : FineBs b) (hl : b.live = true) (hz : Z (n + 1) = Z n + 1) : BsZ b.use C T Z n (n + 1) := by
  cases b with
  | ch s =>
    obtain ⟨h1, h2, h3, h4⟩ := h
    have hl : 0 < s.xs.length := of_decide_eq_true hl
    show SvZ s.use Z (n + 1) ∧ s.use.p.still = false ∧ s.use.p.C = C ∧ s.use.p.T = T
    rw [use_ch]
    cases hx : s.xs with
    | nil => rw [hx] at hl; exact absurd hl (by simp)
    | cons c t => exact ⟨h1.use1 hf hx hz, h2, h3, h4⟩
  | re p xs =>
    obtain ⟨h1, h2, h3, h4⟩ := h
    have hl : 0 < xs.length := of_decide_eq_true hl
    exact ⟨h1.use1 (fun e => by rw [e] at hl; exact absurd hl (by simp)) hz, h2, h3, h4⟩
theorem BsZ.idle {at_ : Int} (h : BsZ b C T Z at_ n) (hz : Z (n + 1) = Z n) : BsZ b C T Z at_ (n + 1) := by
  cases b with
  | ch s => exact ⟨h.1.idle hz, h.2⟩
  | re p xs => exact ⟨h.1.idle hz, h.2⟩
theorem BsZ.done {at_ : Int} (h : BsZ b C T Z at_ n) (hf : FineBs b) : BsZ b.done C T Z at_ n := by
  cases b with
  | ch s => exact ⟨h.1.done hf, h.2⟩
  | re p xs => exact ⟨h.1.done, h.2⟩
theorem BsZ.dry {at_ : Int} (h : BsZ b C T Z at_ n) (ha : at_ = n ∨ at_ + 1 = n) (hf : FineBs b) (h0 : 0 ≤ n) (h1 : n ≤ 2305843009213693952) (hl : (b.go n true).live = false) : BsDry b C T Z n := by
  have h2 := h.go ha hf true
  cases b with
  | ch s =>
    obtain ⟨g1, g2, g3, g4⟩ := h
    have hl : ¬ 0 < (s.go n true).xs.length := of_decide_eq_false hl
    have := g1.dry hf h0 h1 g2 (List.length_eq_zero_iff.1 (by omega))
    rw [g3, g4] at this
    exact this
  | re p xs =>
    obtain ⟨g1, g2, g3, g4⟩ := h
    have hl : ¬ 0 < (Rf.goP p xs n true).2.length := of_decide_eq_false hl
    have h2 : SrZ (Rf.goP p xs n true).1 (Rf.goP p xs n true).2 Z n n := h2.1
    have := h2.dry g2 (List.length_eq_zero_iff.1 (by omega))
    rw [g3, g4] at this
    exact this
theorem live_use {s : Bs} : s.use.isCh = s.isCh ∧ s.done.isCh = s.isCh ∧ ∀ n u, (s.go n u).isCh = s.isCh := by
  cases s <;> exact ⟨rfl, rfl, fun _ _ => rfl⟩

-- The run.
def allT : Int → Bool := fun _ => true
def Rn.mid (r : Rn) (n : Nat) : Rn := Rn.come n (Rn.run allT r n).out.length (Rn.run allT r n)
theorem run_succ (r : Rn) (n : Nat) : Rn.run allT r (n + 1) = ((r.mid n).go n).use n := by
  show (Rn.run allT r n).tick allT n = _
  unfold Rn.tick
  rfl
def Rn.uses (r : Rn) (n : Nat) : Bool := decide (0 < (r.mid n).wait.length) && ((r.mid n).go n).bs.live
def Zn (r : Rn) : Nat → Int
  | 0 => 0
  | n + 1 => Zn r n + if r.uses n = true then 1 else 0
def Zi (r : Rn) (x : Int) : Int := Zn r x.toNat
theorem Zi_nat (r : Rn) (n : Nat) : Zi r n = Zn r n := by unfold Zi; rw [Int.toNat_natCast]
theorem Zi_succ (r : Rn) (n : Nat) : Zi r ((n : Int) + 1) = Zi r n + if r.uses n = true then 1 else 0 := by
  rw [Zi_nat, show (n : Int) + 1 = ((n + 1 : Nat) : Int) by omega, Zi_nat]
  rfl
theorem Zi_step (r : Rn) (x : Int) : Zi r x ≤ Zi r (x + 1) ∧ Zi r (x + 1) ≤ Zi r x + 1 := by
  by_cases h : 0 ≤ x
  · obtain ⟨n, rfl⟩ : ∃ n : Nat, x = n := ⟨x.toNat, by omega⟩
    rw [Zi_succ]
    split <;> omega
  · unfold Zi
    rw [show (x + 1).toNat = x.toNat by omega]
    omega
theorem come_same (now : Int) : ∀ (m : Nat) (s : Rn), (Rn.come now m s).out = s.out ∧ (Rn.come now m s).left = s.left ∧ (Rn.come now m s).bs = s.bs
  | 0, _ => ⟨rfl, rfl, rfl⟩
  | m + 1, s => by
    unfold Rn.come
    split
    · exact come_same now m s.push
    · exact ⟨rfl, rfl, rfl⟩
theorem push_head {s : Rn} {k : Nat} {t : List Nat} (h : s.wait = k :: t) : ∃ t', s.push.wait = k :: t' := by
  unfold Rn.push
  dsimp only
  split
  · exact ⟨t ++ [s.next], by rw [h]; rfl⟩
  · exact ⟨t, h⟩
theorem come_head (now : Int) : ∀ (m : Nat) (s : Rn) (k : Nat) (t : List Nat), s.wait = k :: t → ∃ t', (Rn.come now m s).wait = k :: t'
  | 0, _, _, t, h => ⟨t, h⟩
  | m + 1, s, k, t, h => by
    unfold Rn.come
    split
    · obtain ⟨t', h'⟩ := push_head h
      exact come_head now m s.push k t' h'
    · exact ⟨t, h⟩
variable {r : Rn} {N : Nat}
theorem RnOk.mid (h : RnOk r N) (n : Nat) (hn : n ≤ 1000000) : RnOk (r.mid n) N := RnOk.come n _ _ (h.run allT n hn)
/-- What a use does. -/
theorem use_cases {s : Rn} (h : RnOk s N) (now : Int) :
    ((s.wait = [] ∨ s.bs.live = false) ∧ s.use now = s) ∨
    (∃ k t a x, s.wait = k :: t ∧ s.bs.live = true ∧ s.out[k]? = some a ∧ s.left[k]? = some x ∧ 1 ≤ x ∧
      ((1 < x ∧ s.use now = { s with bs := s.bs.use, left := s.left.set k (x - 1), out := s.out.set k (a.begin now) }) ∨
       (x = 1 ∧ s.use now = { s with bs := if t = [] then s.bs.use.done else s.bs.use, wait := t, left := s.left.set k (x - 1), out := s.out.set k { a.begin now with d := now + 1 } }))) := by
  cases hw : s.wait with
  | nil => exact .inl ⟨.inl rfl, by unfold Rn.use; rw [hw]⟩
  | cons k t =>
    cases hl : s.bs.live with
    | false => exact .inl ⟨.inr rfl, by unfold Rn.use; rw [hw, hl]; rfl⟩
    | true =>
      have hk := h.wait k (by rw [hw]; simp)
      have hn := h.next
      obtain ⟨a, ha⟩ : ∃ a, s.out[k]? = some a := ⟨_, List.getElem?_eq_getElem (by rw [h.out]; omega)⟩
      obtain ⟨x, hx⟩ : ∃ x, s.left[k]? = some x := ⟨_, List.getElem?_eq_getElem (by rw [h.left]; omega)⟩
      have hx1 := h.pos k (.inl (by rw [hw]; simp)) x hx
      refine .inr ⟨k, t, a, x, rfl, rfl, ha, hx, hx1, ?_⟩
      by_cases e : 1 < x
      · refine .inl ⟨e, ?_⟩
        unfold Rn.use
        rw [hw]
        dsimp only
        rw [if_pos hl, ha, hx]
        dsimp only
        rw [if_pos (by omega)]
      · refine .inr ⟨by omega, ?_⟩
        unfold Rn.use
        rw [hw]
        dsimp only
        rw [if_pos hl, ha, hx]
        dsimp only
        rw [if_neg (by omega)]
theorem bsz_run {C T : Int} (h : RnOk r N) (h0 : BsZ r.bs C T (Zi r) 0 0) : ∀ n : Nat, n ≤ 1000000 → BsZ (Rn.run allT r n).bs C T (Zi r) ((n : Int) - 1) n ∨ (n = 0 ∧ BsZ (Rn.run allT r n).bs C T (Zi r) 0 0)
  | 0, _ => .inr ⟨rfl, h0⟩
  | n + 1, hn => by
    left
    have ih := bsz_run h h0 n (by omega)
    have hm := h.mid n (by omega)
    have hb : (r.mid n).bs = (Rn.run allT r n).bs := (come_same n _ _).2.2
    have hg : BsZ ((r.mid n).go n).bs C T (Zi r) n n := by
      show BsZ ((r.mid n).bs.go n _) C T (Zi r) n n
      rcases ih with ih | ⟨rfl, ih⟩
      · exact BsZ.go (by rw [hb]; exact ih) (.inr (by omega)) hm.bs _
      · exact BsZ.go (at_ := 0) (by rw [hb]; exact ih) (.inl rfl) hm.bs _
    have hgk := hm.go n (by omega) (by omega)
    rw [run_succ, show (((n + 1 : Nat)) : Int) - 1 = n by omega, show ((n + 1 : Nat) : Int) = (n : Int) + 1 by omega]
    have hz := Zi_succ r n
    rcases use_cases hgk n with ⟨h1, h2⟩ | ⟨k, t, a, x, h1, h2, h3, h4, h5, h6⟩
    · rw [h2]
      have hu : r.uses n = false := by
        unfold Rn.uses
        rcases h1 with h1 | h1
        · have h1 : (r.mid n).wait = [] := h1
          rw [h1]
          simp
        · rw [h1, Bool.and_false]
      rw [hu] at hz
      exact hg.idle (by rw [hz]; simp)
    · have hu : r.uses n = true := by
        unfold Rn.uses
        have h1 : (r.mid n).wait = k :: t := h1
        rw [h1, h2]
        simp
      rw [hu] at hz
      have hus := hg.use hgk.bs h2 (by rw [hz]; simp)
      rcases h6 with ⟨_, e⟩ | ⟨_, e⟩
      · rw [e]
        exact hus
      · rw [e]
        dsimp only
        split
        · exact hus.done hgk.bs.use
        · exact hus
theorem isCh_run (r : Rn) (hk : RnOk r N) : ∀ n : Nat, n ≤ 1000000 → (Rn.run allT r n).bs.isCh = r.bs.isCh
  | 0, _ => rfl
  | n + 1, hn => by
    have ih := isCh_run r hk n (by omega)
    have hm := hk.mid n (by omega)
    have hb : (r.mid n).bs = (Rn.run allT r n).bs := (come_same n _ _).2.2
    have hg : ((r.mid n).go n).bs.isCh = r.bs.isCh := by
      show ((r.mid n).bs.go n _).isCh = _
      rw [live_use.2.2, hb, ih]
    rw [run_succ]
    rcases use_cases (hm.go n (by omega) (by omega)) n with ⟨_, h2⟩ | ⟨k, t, a, x, h1, h2, h3, h4, h5, h6⟩
    · rw [h2]; exact hg
    · rcases h6 with ⟨_, e⟩ | ⟨_, e⟩
      · rw [e]; exact live_use.1.trans hg
      · rw [e]
        dsimp only
        split
        · exact live_use.2.1.trans (live_use.1.trans hg)
        · exact live_use.1.trans hg
/-- A tick that is busy is used, or dry. -/
theorem busy1 {C T : Int} (h : RnOk r N) (h0 : BsZ r.bs C T (Zi r) 0 0) (n : Nat) (hn : n ≤ 1000000) (hw : (r.mid n).wait ≠ []) :
    Zi r ((n : Int) + 1) = Zi r n + 1 ∨ (Zi r ((n : Int) + 1) = Zi r n ∧ BsDry r.bs C T (Zi r) n) := by
  have hp : 0 < (r.mid n).wait.length := List.length_pos_iff.2 hw
  have hz := Zi_succ r n
  cases hu : r.uses n with
  | true => rw [hu] at hz; left; rw [hz]; rfl
  | false =>
    rw [hu] at hz
    right
    refine ⟨by rw [hz]; simp, ?_⟩
    have hl : ((r.mid n).go n).bs.live = false := by
      unfold Rn.uses at hu
      rw [decide_eq_true hp, Bool.true_and] at hu
      exact hu
    have hl : ((r.mid n).bs.go n (decide (0 < (r.mid n).wait.length))).live = false := hl
    rw [decide_eq_true hp] at hl
    have hb : (r.mid n).bs = (Rn.run allT r n).bs := (come_same n _ _).2.2
    have hi := isCh_run r h n hn
    have hm := (h.mid n hn).bs
    rw [hb] at hl hm
    have hd : BsDry (Rn.run allT r n).bs C T (Zi r) n := by
      rcases bsz_run h h0 n hn with ih | ⟨rfl, ih⟩
      · exact ih.dry (.inr (by omega)) hm (by omega) (by omega) hl
      · exact BsZ.dry (at_ := 0) ih (.inl rfl) hm (by omega) (by omega) hl
    cases e1 : (Rn.run allT r n).bs <;> cases e2 : r.bs <;> rw [e1] at hd hi <;> rw [e2] at hi
    · exact hd
    · cases hi
    · cases hi
    · exact hd
theorem pst_in {T s : Int} (hT : 1 ≤ T) (q : Int) (k : Int) (hs : s = T * q) (h0 : 0 ≤ k) (h1 : k < T) : pst T (s + k) = s := by
  unfold pst
  subst hs
  rw [show T * q + k = k + T * q by omega, Int.add_mul_ediv_left _ _ (by omega), Int.ediv_eq_zero_of_lt h0 h1]
  simp
/-- Busy for T (q + 1) ticks: C q uses. -/
theorem busy_all {C : Int} {T : Nat} (h : RnOk r N) (h0 : BsZ r.bs C T (Zi r) 0 0) (hT : 1 ≤ T) (hC : C ≤ T) (hC0 : 0 ≤ C) (A q : Nat) (hA : A + T * (q + 1) ≤ 1000000)
    (hw : ∀ n, A ≤ n → n < A + T * (q + 1) → (r.mid n).wait ≠ []) : Zi r A + C * q ≤ Zi r ((A + T * (q + 1) : Nat) : Int) := by
  have hmono : ∀ x, Zi r x ≤ Zi r (x + 1) := fun x => (Zi_step r x).1
  have hm2 : ∀ (x : Int) (k : Nat), Zi r x ≤ Zi r (x + k) := fun x k => by
    induction k with
    | zero => simp
    | succ k ih =>
      have := hmono (x + k)
      rw [show x + ((k + 1 : Nat) : Int) = x + k + 1 by omega]
      omega
  cases hb : r.bs with
  | ch s =>
    have hd : ∀ n : Nat, A ≤ n → n < A + T * (q + 1) → Zi r ((n : Int) + 1) = Zi r n + 1 ∨ (Zi r ((n : Int) + 1) = Zi r n ∧ C ≤ Zi r n - Zi r ((n : Int) - T + 1)) := fun n h1 h2 => by
      have := busy1 h h0 n (by omega) (hw n h1 h2)
      rw [hb] at this
      exact this
    have key : ∀ j : Nat, j ≤ q → Zi r A + C * j ≤ Zi r ((A + T * j : Nat) : Int) := fun j => by
      induction j with
      | zero => intro _; simp
      | succ j ih =>
        intro hj
        have h1 := ih (by omega)
        have hle : T * (j + 1) ≤ T * (q + 1) := Nat.mul_le_mul_left T (by omega)
        rw [Nat.mul_succ] at hle
        have h2 := window_all (fun x => (Zi_step r x).2) hmono C T ((A + T * j : Nat) : Int) hC hT (fun k hk => by
          have := hd (A + T * j + k) (by omega) (by omega)
          rw [show ((A + T * j + k : Nat) : Int) = ((A + T * j : Nat) : Int) + k by omega] at this
          exact this)
        rw [Nat.mul_succ, show ((A + (T * j + T) : Nat) : Int) = ((A + T * j : Nat) : Int) + T by omega, show C * ((j + 1 : Nat) : Int) = C * j + C by rw [show ((j + 1 : Nat) : Int) = (j : Int) + 1 by omega, Int.mul_add]; omega]
        omega
    have h1 := key q (Nat.le_refl _)
    have h2 := hm2 ((A + T * q : Nat) : Int) T
    rw [Nat.mul_succ, show ((A + (T * q + T) : Nat) : Int) = ((A + T * q : Nat) : Int) + T by omega]
    omega
  | re p xs =>
    have hd : ∀ n : Nat, A ≤ n → n < A + T * (q + 1) → Zi r ((n : Int) + 1) = Zi r n + 1 ∨ (Zi r ((n : Int) + 1) = Zi r n ∧ C ≤ Zi r n - Zi r (pst T n)) := fun n h1 h2 => by
      have := busy1 h h0 n (by omega) (hw n h1 h2)
      rw [hb] at this
      exact this
    -- the first period's first tick at or behind A
    obtain ⟨z, hz1, hz2⟩ : ∃ z : Nat, A ≤ T * z ∧ T * z ≤ A + T - 1 := ⟨(A + T - 1) / T, by
      have e1 := Nat.div_add_mod (A + T - 1) T
      have e2 := Nat.mod_lt (A + T - 1) (show 0 < T by omega)
      omega, by
      have e1 := Nat.div_add_mod (A + T - 1) T
      omega⟩
    have key : ∀ j : Nat, j ≤ q → Zi r ((T * z : Nat) : Int) + C * j ≤ Zi r ((T * z + T * j : Nat) : Int) := fun j => by
      induction j with
      | zero => intro _; simp
      | succ j ih =>
        intro hj
        have h1 := ih (by omega)
        have hle : T * (j + 1) ≤ T * q := Nat.mul_le_mul_left T (by omega)
        have hq : T * (q + 1) = T * q + T := Nat.mul_succ T q
        rw [Nat.mul_succ] at hle
        have h2 := period_all (Z := Zi r) hmono C ((T * z + T * j : Nat) : Int) T (fun k hk => by
          have := hd (T * z + T * j + k) (by omega) (by omega)
          rw [show ((T * z + T * j + k : Nat) : Int) = ((T * z + T * j : Nat) : Int) + k by omega] at this
          rw [pst_in (by omega) ((z + j : Nat) : Int) k (by rw [← Nat.mul_add]; exact Int.natCast_mul T (z + j)) (by omega) (by omega)] at this
          rcases this with e | ⟨_, e⟩
          · exact .inl e
          · exact .inr e)
        rw [Nat.mul_succ, show ((T * z + (T * j + T) : Nat) : Int) = ((T * z + T * j : Nat) : Int) + T by omega, show C * ((j + 1 : Nat) : Int) = C * j + C by rw [show ((j + 1 : Nat) : Int) = (j : Int) + 1 by omega, Int.mul_add]; omega]
        omega
    have h1 := key q (Nat.le_refl _)
    have h2 := hm2 (A : Int) (T * z - A)
    have h3 := hm2 ((T * z + T * q : Nat) : Int) (A + T * (q + 1) - (T * z + T * q))
    have hq : T * (q + 1) = T * q + T := Nat.mul_succ T q
    rw [show (A : Int) + ((T * z - A : Nat) : Int) = ((T * z : Nat) : Int) by omega] at h2
    rw [show ((T * z + T * q : Nat) : Int) + ((A + T * (q + 1) - (T * z + T * q) : Nat) : Int) = ((A + T * (q + 1) : Nat) : Int) by omega] at h3
    omega
end Go.Proofs.Ytcgefncddbbnlaa

namespace Go.Proofs.Ytcgefncddbbnlaa

variable {r : Rn} {N : Nat}
/-- At tick n (all have come): k waits first, with so much left. -/
structure HeadAt (r : Rn) (k : Nat) (x : Int) (A n : Nat) : Prop where
  w : ∃ t, (r.mid n).wait = k :: t
  a : ∃ a, (Rn.run allT r n).out[k]? = some a ∧ a.d = -1 ∧ (0 < Zn r n - Zn r A → a.b ≠ -1)
  l : (Rn.run allT r n).left[k]? = some (x - (Zn r n - Zn r A))
theorem begin_b (a : An) (now : Int) (h : 0 ≤ now) : (a.begin now).b ≠ -1 := by
  unfold An.begin
  split
  · show now ≠ -1; omega
  · assumption
theorem begin_d (a : An) (now : Int) : (a.begin now).d = a.d := by
  unfold An.begin
  split <;> rfl
theorem HeadAt.step (hk : RnOk r N) {k : Nat} {x : Int} {A n : Nat} (h : HeadAt r k x A n) (hn : n ≤ 1000000) :
    HeadAt r k x A (n + 1) ∨ ∃ a, (Rn.run allT r (n + 1)).out[k]? = some a ∧ a.d = ((n + 1 : Nat) : Int) ∧ a.b ≠ -1 := by
  obtain ⟨⟨t, hw⟩, ⟨a, ha, hd, hb⟩, hl⟩ := h
  have hm := hk.mid n hn
  obtain ⟨s1, s2, s3⟩ := come_same n (Rn.run allT r n).out.length (Rn.run allT r n)
  have hgo : (r.mid n).out = (Rn.run allT r n).out := s1
  have hgl : (r.mid n).left = (Rn.run allT r n).left := s2
  have hkl : k < (r.mid n).out.length := by rw [hgo]; exact (List.getElem?_eq_some_iff.1 ha).1
  have hkl2 : k < (r.mid n).left.length := by rw [hgl]; exact (List.getElem?_eq_some_iff.1 hl).1
  have hkn : Rn.run allT r (n + 1) = ((r.mid n).go n).use n := run_succ r n
  rcases use_cases (hm.go n (by omega) (by omega)) n with ⟨h1, h2⟩ | ⟨k', t', a', x', h1, h2, h3, h4, h5, h6⟩
  · left
    have hu : r.uses n = false := by
      unfold Rn.uses
      rcases h1 with h1 | h1
      · have h1 : (r.mid n).wait = [] := h1
        rw [h1]; simp
      · rw [h1, Bool.and_false]
    have hz : Zn r (n + 1) = Zn r n := by show Zn r n + _ = _; rw [hu]; simp
    rw [h2] at hkn
    refine ⟨?_, ⟨a, ?_, hd, by rw [hz]; exact hb⟩, ?_⟩
    · unfold Rn.mid
      exact come_head _ _ _ k t (by rw [hkn]; exact hw)
    · rw [hkn]; show (r.mid n).out[k]? = _; rw [hgo]; exact ha
    · rw [hkn, hz]; show (r.mid n).left[k]? = _; rw [hgl]; exact hl
  · have h1 : (r.mid n).wait = k' :: t' := h1
    have h3 : (r.mid n).out[k']? = some a' := h3
    have h4 : (r.mid n).left[k']? = some x' := h4
    rw [hw] at h1
    injection h1 with e1 e2
    subst e1 e2
    rw [hgo, ha] at h3
    injection h3 with h3
    subst h3
    rw [hgl, hl] at h4
    injection h4 with h4
    have hu : r.uses n = true := by
      unfold Rn.uses
      rw [hw, h2]; simp
    have hz : Zn r (n + 1) = Zn r n + 1 := by show Zn r n + _ = _; rw [hu]; simp
    rcases h6 with ⟨h6, e⟩ | ⟨h6, e⟩
    · left
      rw [e] at hkn
      refine ⟨?_, ⟨a.begin n, ?_, by rw [begin_d]; exact hd, fun _ => begin_b a n (by omega)⟩, ?_⟩
      · unfold Rn.mid
        exact come_head _ _ _ k t (by rw [hkn]; exact hw)
      · rw [hkn]; exact List.getElem?_set_self hkl
      · rw [hkn, hz]
        show ((r.mid n).left.set k (x' - 1))[k]? = _
        rw [List.getElem?_set_self hkl2, ← h4]
        congr 1
        omega
    · right
      rw [e] at hkn
      refine ⟨{ a.begin n with d := (n : Int) + 1 }, ?_, by show (n : Int) + 1 = _; omega, begin_b a n (by omega)⟩
      rw [hkn]
      exact List.getElem?_set_self hkl
theorem HeadAt.run (hk : RnOk r N) {k : Nat} {x : Int} {A : Nat} (h : HeadAt r k x A A) : ∀ m : Nat, A + m ≤ 1000000 →
    (∀ j, j ≤ m → HeadAt r k x A (A + j)) ∨ ∃ n a, n ≤ m ∧ (Rn.run allT r (A + n)).out[k]? = some a ∧ a.d = ((A + n : Nat) : Int) ∧ a.b ≠ -1
  | 0, _ => .inl (fun j hj => by obtain rfl : j = 0 := by omega
                                 exact h)
  | m + 1, hm => by
    rcases HeadAt.run hk h m (by omega) with ih | ⟨n, a, h1, h2⟩
    · rcases (ih m (Nat.le_refl _)).step hk (by omega) with h1 | ⟨a, h1, h2, h3⟩
      · left
        intro j hj
        by_cases e : j ≤ m
        · exact ih j e
        · obtain rfl : j = m + 1 := by omega
          exact h1
      · exact .inr ⟨m + 1, a, Nat.le_refl _, h1, h2, h3⟩
    · exact .inr ⟨n, a, by omega, h2⟩
/-- What is done stays; what is begun stays begun; who is not done is done later. -/
theorem stay1 (hk : RnOk r N) {l : List (Int × Int)} (ho : OrdOk l allT r 0) (n : Nat) (hn : n ≤ 1000000) {k : Nat} {a : An} (ha : (Rn.run allT r n).out[k]? = some a) :
    ∃ a', (Rn.run allT r (n + 1)).out[k]? = some a' ∧ (a.d ≠ -1 → a' = a) ∧ (a.b ≠ -1 → a'.b ≠ -1) ∧ (a'.d = a.d ∨ a'.d = (n : Int) + 1) := by
  have hm := hk.mid n hn
  obtain ⟨s1, s2, s3⟩ := come_same n (Rn.run allT r n).out.length (Rn.run allT r n)
  have hgo : (r.mid n).out = (Rn.run allT r n).out := s1
  have hon := ho.run hk n hn
  have hom : OrdOk l allT (r.mid n) n := OrdOk.come _ _ hon (hk.run allT n hn)
  rw [run_succ]
  rcases use_cases (hm.go n (by omega) (by omega)) n with ⟨h1, h2⟩ | ⟨k', t', a', x', h1, h2, h3, h4, h5, h6⟩
  · rw [h2]
    exact ⟨a, by show (r.mid n).out[k]? = _; rw [hgo]; exact ha, fun _ => rfl, id, .inl rfl⟩
  · have h1 : (r.mid n).wait = k' :: t' := h1
    have h3 : (r.mid n).out[k']? = some a' := h3
    have ha' : (r.mid n).out[k]? = some a := by rw [hgo]; exact ha
    by_cases e : k = k'
    · subst e
      rw [ha'] at h3
      injection h3 with h3
      subst h3
      have hd := (hom.wt k (by rw [h1]; simp) a ha').1
      have hkl : k < (r.mid n).out.length := (List.getElem?_eq_some_iff.1 ha').1
      rcases h6 with ⟨_, e⟩ | ⟨_, e⟩
      · rw [e]
        exact ⟨a.begin n, List.getElem?_set_self hkl, fun h => absurd hd h, fun _ => begin_b a n (by omega), .inl (begin_d a n)⟩
      · rw [e]
        exact ⟨{ a.begin n with d := (n : Int) + 1 }, List.getElem?_set_self hkl, fun h => absurd hd h, fun _ => begin_b a n (by omega), .inr rfl⟩
    · refine ⟨a, ?_, fun _ => rfl, id, .inl rfl⟩
      rcases h6 with ⟨_, e'⟩ | ⟨_, e'⟩
      · rw [e']
        show ((r.mid n).out.set k' _)[k]? = _
        rw [List.getElem?_set_ne (fun q => e q.symm)]
        exact ha'
      · rw [e']
        show ((r.mid n).out.set k' _)[k]? = _
        rw [List.getElem?_set_ne (fun q => e q.symm)]
        exact ha'
theorem stay (hk : RnOk r N) {l : List (Int × Int)} (ho : OrdOk l allT r 0) {n : Nat} {k : Nat} {a : An} (ha : (Rn.run allT r n).out[k]? = some a) (h0 : a.d = -1 ∨ 0 ≤ a.d) : ∀ j : Nat, n + j ≤ 1000000 →
    ∃ a', (Rn.run allT r (n + j)).out[k]? = some a' ∧ (a.d ≠ -1 → a' = a) ∧ (a.b ≠ -1 → a'.b ≠ -1) ∧ (a.d = -1 → a'.d = -1 ∨ (n : Int) < a'.d)
  | 0, _ => ⟨a, ha, fun _ => rfl, id, .inl⟩
  | j + 1, hj => by
    obtain ⟨a1, h1, h2, h3, h4⟩ := stay hk ho ha h0 j (by omega)
    obtain ⟨a2, g1, g2, g3, g4⟩ := stay1 hk ho (n + j) (by omega) h1
    refine ⟨a2, g1, fun h => ?_, fun h => g3 (h3 h), fun h => ?_⟩
    · have e := h2 h
      rw [g2 (by rw [e]; exact h), e]
    · rcases g4 with e | e
      · rw [e]; exact h4 h
      · right; omega
-- Who has come.
/-- The times rise. -/
def Rises (l : List (Int × Int)) : Prop := ∀ (i j : Nat) (a c : Int × Int), i ≤ j → l[i]? = some a → l[j]? = some c → a.1 ≤ c.1
structure NextOk (l : List (Int × Int)) (s : Rn) (now : Int) : Prop where
  tw : ∀ (k : Nat) a, s.out[k]? = some a → ∃ q, l[k]? = some q ∧ a.t = q.1 ∧ a.w = q.2
  ge : ∀ (k : Nat) a, s.out[k]? = some a → a.t < now → k < s.next
/-- Who has come came ahead of now. -/
def LtOk (s : Rn) (now : Int) : Prop := ∀ (k : Nat) a, s.out[k]? = some a → k < s.next → a.t < now
theorem come_at {l : List (Int × Int)} (hr : Rises l) {now : Int} {i : Nat} {a : An} (hat : a.t = now) : ∀ (d m : Nat) (s : Rn), s.next + d = i → d < m → NextOk l s now → RnOk s N → OrdOk l allT s now → s.out[i]? = some a →
    ∃ s' m', s'.next = i ∧ s'.comes now = true ∧ Rn.come now m s = Rn.come now m' s'.push ∧ RnOk s' N ∧ OrdOk l allT s' now ∧ s'.out = s.out ∧ s'.left = s.left
  | 0, 0, _, _, h, _, _, _, _ => absurd h (by omega)
  | 0, m + 1, s, hi, _, hn, hk, ho, ha => by
    have hc : s.comes now = true := by
      unfold Rn.comes
      rw [show s.next = i by omega, ha]
      exact beq_iff_eq.2 hat
    exact ⟨s, m, by omega, hc, by show (if s.comes now = true then _ else _) = _; rw [if_pos hc], hk, ho, rfl, rfl⟩
  | d + 1, 0, _, _, h, _, _, _, _ => absurd h (by omega)
  | d + 1, m + 1, s, hi, hm, hn, hk, ho, ha => by
    obtain ⟨c, hc⟩ : ∃ c, s.out[s.next]? = some c := ⟨_, List.getElem?_eq_getElem (by have := (List.getElem?_eq_some_iff.1 ha).1; omega)⟩
    have hct : c.t = now := by
      obtain ⟨q, hq, e1, _⟩ := hn.tw _ c hc
      obtain ⟨q2, hq2, e2, _⟩ := hn.tw _ a ha
      have h1 := hr s.next i q q2 (by omega) hq hq2
      have h2 : ¬ c.t < now := fun h => by have := hn.ge s.next c hc h; omega
      omega
    have hcm : s.comes now = true := by
      unfold Rn.comes
      rw [hc]
      exact beq_iff_eq.2 hct
    have hp : NextOk l s.push now := by
      refine ⟨hn.tw, fun k b hb hlt => ?_⟩
      have := hn.ge k b hb hlt
      show k < s.next + 1
      omega
    obtain ⟨s', m', g1, g2, g3, g4, g5, g6, g7⟩ := come_at hr hat d m s.push (by show s.next + 1 + d = i; omega) (by omega) hp (hk.push (hk.comes hcm)) (ho.push hcm hk) ha
    refine ⟨s', m', g1, g2, ?_, g4, g5, g6, g7⟩
    show (if s.comes now = true then Rn.come now m s.push else s) = _
    rw [if_pos hcm]
    exact g3
theorem push_mono (s : Rn) : s.next ≤ s.push.next := Nat.le_succ _
theorem come_next (now : Int) : ∀ (m : Nat) (s : Rn), s.next ≤ (Rn.come now m s).next
  | 0, _ => Nat.le_refl _
  | m + 1, s => by
    unfold Rn.come
    split
    · exact Nat.le_trans (push_mono s) (come_next now m s.push)
    · exact Nat.le_refl _
theorem come_lt {now : Int} : ∀ (m : Nat) (s : Rn), (∀ (k : Nat) a, s.out[k]? = some a → k < s.next → a.t ≤ now) → ∀ (k : Nat) a, s.out[k]? = some a → k < (Rn.come now m s).next → a.t ≤ now
  | 0, _, h => h
  | m + 1, s, h => by
    unfold Rn.come
    split
    next hc =>
      refine come_lt m s.push (fun k a ha hk => ?_)
      have ha : s.out[k]? = some a := ha
      have hk : k < s.next + 1 := hk
      by_cases e : k < s.next
      · exact h k a ha e
      · obtain rfl : k = s.next := by omega
        unfold Rn.comes at hc
        rw [ha] at hc
        rw [beq_iff_eq.1 hc]
        exact Int.le_refl _
    next => exact h
theorem use_next (s : Rn) (now : Int) : (s.use now).next = s.next := by
  unfold Rn.use
  split
  · rfl
  · split
    · split
      · split <;> rfl
      · rfl
    · rfl
theorem NextOk.run {l : List (Int × Int)} (hr : Rises l) (hk : RnOk r N) (ho : OrdOk l allT r 0) (h : NextOk l r 0) (h' : LtOk r 0) : ∀ n : Nat, n ≤ 1000000 → NextOk l (Rn.run allT r n) n ∧ LtOk (Rn.run allT r n) n
  | 0, _ => ⟨h, h'⟩
  | n + 1, hn => by
    obtain ⟨ih, ih2⟩ := NextOk.run hr hk ho h h' n (by omega)
    have hon := ho.run hk n (by omega)
    have hkn := hk.run allT n (by omega)
    have hon1 := ho.run hk (n + 1) (by omega)
    obtain ⟨s1, s2, s3⟩ := come_same n (Rn.run allT r n).out.length (Rn.run allT r n)
    have hnx : (Rn.run allT r (n + 1)).next = (r.mid n).next := by rw [run_succ, use_next]; rfl
    have hto : ∀ (k : Nat) (a : An), (Rn.run allT r (n + 1)).out[k]? = some a → ∃ a' : An, (Rn.run allT r n).out[k]? = some a' ∧ a'.t = a.t := fun k a ha => by
      obtain ⟨q, hq, e, _⟩ := hon1.tw k a ha
      have hlen : k < (Rn.run allT r n).out.length := by
        have := (List.getElem?_eq_some_iff.1 ha).1
        rw [(hk.run allT (n + 1) (by omega)).out] at this
        rw [hkn.out]; exact this
      obtain ⟨a', ha'⟩ : ∃ a', (Rn.run allT r n).out[k]? = some a' := ⟨_, List.getElem?_eq_getElem hlen⟩
      obtain ⟨q', hq', e', _⟩ := hon.tw k a' ha'
      rw [hq] at hq'
      injection hq' with hq'
      exact ⟨a', ha', by rw [e', e, hq']⟩
    refine ⟨⟨hon1.tw, fun k a ha hlt => ?_⟩, fun k a ha hlt => ?_⟩
    · obtain ⟨a', ha', e⟩ := hto k a ha
      rw [hnx]
      by_cases e2 : a'.t < n
      · exact Nat.lt_of_lt_of_le (ih.ge k a' ha' e2) (come_next _ _ _)
      · have e3 : a'.t = n := by omega
        by_cases e4 : k < (Rn.run allT r n).next
        · exact Nat.lt_of_lt_of_le e4 (come_next _ _ _)
        · have hlen := (List.getElem?_eq_some_iff.1 ha').1
          obtain ⟨s', m', g1, _, g3, _⟩ := come_at hr e3 (k - (Rn.run allT r n).next) (Rn.run allT r n).out.length _ (by omega) (by omega) ih hkn hon ha'
          show k < (Rn.come n (Rn.run allT r n).out.length (Rn.run allT r n)).next
          rw [g3]
          have := come_next n m' s'.push
          have h5 : s'.push.next = s'.next + 1 := rfl
          omega
    · obtain ⟨a', ha', e⟩ := hto k a ha
      rw [hnx] at hlt
      have := come_lt (now := (n : Int)) _ _ (fun k a ha hk => Int.le_of_lt (ih2 k a ha hk)) k a' ha' hlt
      omega
/-- Nothing of some waits at a tick. -/
def aloneP (L : List An) (at_ : Int) : Prop := ∀ c ∈ L, (c.b = -1 ∧ c.d = -1) ∨ (0 ≤ c.d ∧ c.d ≤ at_)
theorem in_time {l : List (Int × Int)} {C : Int} {T : Nat} (hr : Rises l) (hk : RnOk r N) (ho : OrdOk l allT r 0) (hx : NextOk l r 0) (hx' : LtOk r 0) (h0 : BsZ r.bs C T (Zi r) 0 0) (hC : 1 ≤ C) (hCT : C ≤ T) (E : Nat) (hE : E ≤ 1000000)
    {i : Nat} {a : An} (ha : (Rn.run allT r E).out[i]? = some a) (hal : aloneP ((Rn.run allT r E).out.take i) a.t) (q : Nat) (hq : a.w ≤ C * q) (hq1 : 1 ≤ q) (ht0 : 0 ≤ a.t) (hte : a.t.toNat + T * (q + 1) ≤ E) :
    0 ≤ a.d ∧ a.d - a.t ≤ T * ((q : Int) + 1) := by
  obtain ⟨A, hA⟩ : ∃ A : Nat, a.t.toNat = A := ⟨_, rfl⟩
  rw [hA] at hte
  have hT : 1 ≤ T := by omega
  have hkA := hk.run allT A (by omega)
  have hoA := ho.run hk A (by omega)
  obtain ⟨hxA, hlA⟩ := NextOk.run hr hk ho hx hx' A (by omega)
  have hkE := hk.run allT E (by omega)
  have hoE := ho.run hk E (by omega)
  have hlen := (List.getElem?_eq_some_iff.1 ha).1
  rw [hkE.out] at hlen
  obtain ⟨a0, ha0⟩ : ∃ a0, (Rn.run allT r A).out[i]? = some a0 := ⟨_, List.getElem?_eq_getElem (by rw [hkA.out]; exact hlen)⟩
  obtain ⟨qa, hqa, e1, e2⟩ := hoE.tw i a ha
  obtain ⟨qb, hqb, e3, e4⟩ := hoA.tw i a0 ha0
  rw [hqa] at hqb
  injection hqb with hqb
  subst hqb
  have ht : a0.t = (A : Int) := by omega
  have hni : (Rn.run allT r A).next ≤ i := by
    rcases Nat.lt_or_ge i (Rn.run allT r A).next with h | h
    · have := hlA i a0 ha0 h
      omega
    · exact h
  obtain ⟨s', m', g1, g2, g3, g4, g5, g6, g7⟩ := come_at hr ht (i - (Rn.run allT r A).next) (Rn.run allT r A).out.length _ (by omega) (by rw [hkA.out]; omega) hxA hkA hoA ha0
  have g3 : r.mid A = Rn.come A m' s'.push := g3
  have hzz : Zn r A - Zn r A = 0 := by omega
  cases hw : s'.wait with
  | nil =>
    have hpw : s'.push.wait = i :: [] := by
      unfold Rn.push
      dsimp only
      rw [hw, g1]
      rfl
    obtain ⟨t, hmw⟩ := come_head A m' s'.push i [] hpw
    rw [← g3] at hmw
    have hnx := g5.nx i (by omega) a0 (by rw [g6]; exact ha0)
    obtain ⟨x, hx1⟩ : ∃ x, s'.left[i]? = some x := ⟨_, List.getElem?_eq_getElem (by rw [g4.left]; exact hlen)⟩
    have hxw := g5.lf i a0 x (by rw [g6]; exact ha0) hx1 hnx.1
    rw [g7] at hx1
    have hH : HeadAt r i x A A := ⟨⟨t, hmw⟩, ⟨a0, ha0, hnx.2, fun h => by omega⟩, by rw [hzz, Int.sub_zero]; exact hx1⟩
    rcases hH.run hk (T * (q + 1)) (by omega) with hall | ⟨n, a', h1, h2, h3, h4⟩
    · exfalso
      have hb := busy_all hk h0 hT hCT (by omega) A q (by omega) (fun n h1 h2 => by
        obtain ⟨t, ht⟩ := (hall (n - A) (by omega)).w
        rw [show A + (n - A) = n by omega] at ht
        rw [ht]; simp)
      rw [Zi_nat, Zi_nat] at hb
      have hL := (hall (T * (q + 1)) (Nat.le_refl _))
      obtain ⟨t, ht⟩ := hL.w
      have hkm := hk.mid (A + T * (q + 1)) (by omega)
      obtain ⟨_, s2, _⟩ := come_same (A + T * (q + 1) : Nat) (Rn.run allT r (A + T * (q + 1))).out.length (Rn.run allT r (A + T * (q + 1)))
      have := hkm.pos i (.inl (by rw [ht]; simp)) _ (by show (r.mid (A + T * (q + 1))).left[i]? = _; unfold Rn.mid; rw [s2]; exact hL.l)
      omega
    · obtain ⟨a2, i1, i2, _⟩ := stay hk ho h2 (.inr (by omega)) (E - (A + n)) (by omega)
      rw [show A + n + (E - (A + n)) = E by omega, ha] at i1
      injection i1 with i1
      have i3 := i2 (by omega)
      rw [i1, i3, h3]
      refine ⟨by omega, ?_⟩
      have : ((n : Nat) : Int) ≤ ((T * (q + 1) : Nat) : Int) := by omega
      rw [Int.natCast_mul] at this
      have e5 : a'.t = (A : Int) := by
        rw [← i3, ← i1]
        omega
      rw [e5]
      rw [show ((q + 1 : Nat) : Int) = (q : Int) + 1 by omega] at this
      omega
  | cons k t =>
    exfalso
    have hki : k < i := by have := g4.wait k (by rw [hw]; simp); omega
    obtain ⟨c0, hc0⟩ : ∃ c0, (Rn.run allT r A).out[k]? = some c0 := ⟨_, List.getElem?_eq_getElem (by rw [hkA.out]; omega)⟩
    have hcd := (g5.wt k (by rw [hw]; simp) c0 (by rw [g6]; exact hc0)).1
    -- its answer at the end
    obtain ⟨cE, z1, z2, z3, z4⟩ := stay hk ho hc0 (.inl hcd) (E - A) (by omega)
    rw [show A + (E - A) = E by omega] at z1
    have hin : cE ∈ (Rn.run allT r E).out.take i := List.mem_of_getElem? (i := k) (by rw [List.getElem?_take_of_lt hki]; exact z1)
    have hbn : cE.b ≠ -1 := by
      obtain ⟨t1, hp1⟩ := push_head hw
      obtain ⟨t2, hmw⟩ := come_head A m' s'.push k t1 hp1
      rw [← g3] at hmw
      obtain ⟨x, hx1⟩ : ∃ x, (Rn.run allT r A).left[k]? = some x := ⟨_, List.getElem?_eq_getElem (by rw [hkA.left]; omega)⟩
      have hH : HeadAt r k x A A := ⟨⟨t2, hmw⟩, ⟨c0, hc0, hcd, fun h => by omega⟩, by rw [hzz, Int.sub_zero]; exact hx1⟩
      have hle : T * 2 ≤ T * (q + 1) := Nat.mul_le_mul_left T (by omega)
      rcases hH.run hk (T * (1 + 1)) (by omega) with hall | ⟨n, a', h1, h2, h3, h4⟩
      · have hb := busy_all hk h0 hT hCT (by omega) A 1 (by omega) (fun n h1 h2 => by
          obtain ⟨t, ht⟩ := (hall (n - A) (by omega)).w
          rw [show A + (n - A) = n by omega] at ht
          rw [ht]; simp)
        rw [Zi_nat, Zi_nat] at hb
        obtain ⟨c1, hc1, _, hb1⟩ := (hall (T * (1 + 1)) (Nat.le_refl _)).a
        have hnb := hb1 (by omega)
        obtain ⟨c2, y1, _, y3, _⟩ := stay hk ho hc1 (by
          rcases (ho.run hk (A + T * (1 + 1)) (by omega)).dn k c1 hc1 with e | e
          · exact .inl e
          · right; omega) (E - (A + T * (1 + 1))) (by omega)
        rw [show A + T * (1 + 1) + (E - (A + T * (1 + 1))) = E by omega, z1] at y1
        injection y1 with y1
        rw [y1]
        exact y3 hnb
      · obtain ⟨c2, y1, _, y3, _⟩ := stay hk ho h2 (.inr (by omega)) (E - (A + n)) (by omega)
        rw [show A + n + (E - (A + n)) = E by omega, z1] at y1
        injection y1 with y1
        rw [y1]
        exact y3 h4
    rcases hal cE hin with ⟨e, _⟩ | ⟨e5, e6⟩
    · exact hbn e
    · rcases z4 hcd with e7 | e7 <;> omega
end Go.Proofs.Ytcgefncddbbnlaa
