/-
  ChunkBound: the plain law: what is used of chunks of T ticks one behind the other is at most C. No program in sight.
-/
import Derived.Test.YtlhiagbcmmmjpaaChunkA
import Derived.Test.YtlhiagbcmmmjpaaCnt
namespace Go.Proofs.Ytlhiagbcmmmjpaa

/-- Of the live chunks from a on, ahead of a + T: what is left; what is used; and of what is to be back. -/
def winL (a T : Int) : List (Int × Int × Int) → Int
  | [] => 0
  | x :: t => (if a ≤ x.1 ∧ x.1 ≤ a + T - 1 then x.2.1 else 0) + winL a T t
def winU (a T : Int) : List (Int × Int × Int) → Int
  | [] => 0
  | x :: t => (if a ≤ x.1 ∧ x.1 ≤ a + T - 1 then x.2.2 else 0) + winU a T t
def winB (a T : Int) : List (Int × Int) → Int
  | [] => 0
  | x :: t => (if a + T ≤ x.1 ∧ x.1 ≤ a + T - 1 + T then x.2 else 0) + winB a T t
theorem winL_append (a T : Int) : ∀ xs ys, winL a T (xs ++ ys) = winL a T xs + winL a T ys
  | [], ys => by simp [winL]
  | x :: t, ys => by simp [winL, winL_append a T t ys]; omega
theorem winU_append (a T : Int) : ∀ xs ys, winU a T (xs ++ ys) = winU a T xs + winU a T ys
  | [], ys => by simp [winU]
  | x :: t, ys => by simp [winU, winU_append a T t ys]; omega
theorem winB_append (a T : Int) : ∀ xs ys, winB a T (xs ++ ys) = winB a T xs + winB a T ys
  | [], ys => by simp [winB]
  | x :: t, ys => by simp [winB, winB_append a T t ys]; omega
theorem win_le (a T : Int) : ∀ xs : List (Int × Int × Int), (∀ x ∈ xs, 1 ≤ x.2.1 ∧ 0 ≤ x.2.2) → 0 ≤ winL a T xs ∧ 0 ≤ winU a T xs ∧ winL a T xs + winU a T xs ≤ sumC xs
  | [], _ => by simp [winL, winU, sumC]
  | x :: t, h => by
    have h1 := win_le a T t (fun y hy => h y (List.mem_cons_of_mem _ hy))
    have h2 := h x (List.mem_cons_self ..)
    simp only [winL, winU, sumC]
    split <;> omega
theorem winB_le (a T : Int) : ∀ ys : List (Int × Int), (∀ y ∈ ys, 1 ≤ y.2) → 0 ≤ winB a T ys ∧ winB a T ys ≤ sumB ys
  | [], _ => by simp [winB, sumB]
  | y :: t, h => by
    have h1 := winB_le a T t (fun z hz => h z (List.mem_cons_of_mem _ hz))
    have h2 := h y (List.mem_cons_self ..)
    simp only [winB, sumB]
    split <;> omega
theorem winB_keep (a T now : Int) (h : now < a + T) : ∀ ys : List (Int × Int), winB a T (keepB now ys) = winB a T ys
  | [] => rfl
  | y :: t => by
    have := winB_keep a T now h t
    unfold keepB at *
    rw [List.filter_cons]
    by_cases hy : now < y.1
    · rw [if_pos (decide_eq_true hy)]; simp only [winB, this]
    · rw [if_neg (by simpa using hy)]; simp only [winB, this]; rw [if_neg (by omega)]; omega
theorem winB_owe (a T : Int) (x : Int × Int × Int) (ys : List (Int × Int)) (h : 0 ≤ x.2.2) : winB a T (oweL T x ys) = winB a T ys + if a ≤ x.1 ∧ x.1 ≤ a + T - 1 then x.2.2 else 0 := by
  unfold oweL
  by_cases hx : 0 < x.2.2
  · rw [if_pos hx, winB_append]
    simp only [winB]
    split <;> split <;> omega
  · rw [if_neg hx]
    split <;> omega
theorem win_done (a T : Int) : ∀ (xs : List (Int × Int × Int)) (ys : List (Int × Int)), (∀ x ∈ xs, 1 ≤ x.2.1 ∧ 0 ≤ x.2.2) → winB a T (doneY T xs ys) = winU a T xs + winB a T ys
  | [], ys, _ => by simp [doneY, winU]
  | x :: t, ys, h => by
    have h1 := win_done a T t (oweL T x ys) (fun y hy => h y (List.mem_cons_of_mem _ hy))
    have h2 := winB_owe a T x ys (h x (List.mem_cons_self ..)).2
    have e : doneY T (x :: t) ys = doneY T t (oweL T x ys) := rfl
    rw [e, h1, h2]
    simp only [winU]
    omega

/-- What holds of each window. -/
def Win (s : St17) (now : Int) (from_ : List Int) : Prop :=
  ∀ a, cnt a (a + s.p.T - 1) from_ + winL a s.p.T s.xs ≤ s.p.C ∧ (now < a + s.p.T → cnt a (a + s.p.T - 1) from_ = winU a s.p.T s.xs + winB a s.p.T s.ys)

theorem Win.new (rf : Bool) (C T : Int) (h : 0 ≤ C) : Win (St17.new rf C T) 0 [] := fun a => ⟨by simpa [cnt, winL, St17.new] using h, fun _ => rfl⟩

/-- From the second half the first one follows, early. -/
theorem Win.early {s : St17} (hf : FineC s) {now : Int} {from_ : List Int} (a : Int) (h : cnt a (a + s.p.T - 1) from_ = winU a s.p.T s.xs + winB a s.p.T s.ys) : cnt a (a + s.p.T - 1) from_ + winL a s.p.T s.xs ≤ s.p.C := by
  have h1 := win_le a s.p.T s.xs hf.posC
  have h2 := winB_le a s.p.T s.ys hf.fy
  have := hf.all; have := hf.free
  omega

theorem go_T (s : St17) (now : Int) (b : Bool) : (s.go now b).p.T = s.p.T ∧ (s.go now b).p.C = s.p.C ∧ (s.go now b).ys = keepB now s.ys ∧ ((s.go now b).xs = s.xs ∨ ∃ n, (s.go now b).xs = s.xs ++ [(now, n, 0)]) := by
  unfold St17.go
  split
  · exact ⟨rfl, rfl, rfl, .inr ⟨_, rfl⟩⟩
  · exact ⟨rfl, rfl, rfl, .inl rfl⟩

theorem Win.go {s : St17} (hf : FineC s) {now now' : Int} {from_ : List Int} (h : Win s now from_) (hn : now ≤ now') (h0 : 0 ≤ now') (h1 : now' ≤ 2305843009213693952) (b : Bool) : Win (s.go now' b) now' from_ := by
  obtain ⟨eT, eC, eY, eX⟩ := go_T s now' b
  have hf' := hf.go now' h0 h1 b
  intro a
  obtain ⟨w1, w2⟩ := h a
  have hU : winU a s.p.T (s.go now' b).xs = winU a s.p.T s.xs := by
    rcases eX with e | ⟨n, e⟩
    · rw [e]
    · rw [e, winU_append]; simp [winU]
  have h2 : now' < a + s.p.T → cnt a (a + s.p.T - 1) from_ = winU a s.p.T (s.go now' b).xs + winB a s.p.T (s.go now' b).ys := fun hlt => by
    rw [hU, eY, winB_keep a s.p.T now' hlt]
    exact w2 (by omega)
  refine ⟨?_, by rw [eT]; exact h2⟩
  by_cases hlt : now' < a + s.p.T
  · have := Win.early hf' (now := now') a (from_ := from_) (by rw [eT]; exact h2 hlt)
    exact this
  · rw [eT, eC]
    rcases eX with e | ⟨n, e⟩
    · rw [e]; exact w1
    · rw [e, winL_append]
      simp only [winL]
      rw [if_neg (by omega)]
      omega

theorem Win.late {s : St17} {now now' : Int} {from_ : List Int} (h : Win s now from_) (hn : now ≤ now') : Win s now' from_ := fun a => ⟨(h a).1, fun hlt => (h a).2 (by omega)⟩

theorem Win.done {s : St17} (hf : FineC s) {now : Int} {from_ : List Int} (h : Win s now from_) : Win s.done now from_ := by
  intro a
  obtain ⟨w1, w2⟩ := h a
  have h1 := win_le a s.p.T s.xs hf.posC
  refine ⟨?_, fun hlt => ?_⟩
  · show cnt a (a + s.p.T - 1) from_ + winL a s.p.T [] ≤ s.p.C
    simp only [winL]
    omega
  · show cnt a (a + s.p.T - 1) from_ = winU a s.p.T [] + winB a s.p.T (doneY s.p.T s.xs s.ys)
    rw [win_done a s.p.T s.xs s.ys hf.posC]
    simp only [winU]
    have := w2 hlt
    omega

theorem Win.act {s : St17} (hf : FineC s) {now : Int} {from_ : List Int} (h : Win s now from_) (kind n : Int) (h0 : 0 ≤ now) (h1 : now ≤ 1000000) : Win (s.act kind n now) (nowOf kind n now) from_ := by
  have hb := nowOf_bd kind n now
  unfold St17.act
  split
  · exact h.go hf hb.1 (by omega) (by omega) _
  split
  · exact h.go hf hb.1 (by omega) (by omega) _
  split
  · exact h.go hf hb.1 (by omega) (by omega) _
  split
  · exact (h.done hf).late hb.1
  split
  · exact fun a => (h.done hf).late hb.1 a
  split
  · exact fun a => h.late hb.1 a
  exact h.late hb.1

/-- A tick is used of the first chunk. -/
theorem Win.use {p : Cp} {x : Int × Int × Int} {t : List (Int × Int × Int)} {ys : List (Int × Int)} (hf : FineC ⟨p, x :: t, ys⟩) {now : Int} {from_ : List Int} (h : Win ⟨p, x :: t, ys⟩ now from_) : Win (St17.use ⟨p, x :: t, ys⟩) now (from_ ++ [x.1]) := by
  have hx := hf.fx x (List.mem_cons_self ..)
  intro a
  obtain ⟨w1, w2⟩ := h a
  dsimp only at w1 w2 hx
  simp only [winL] at w1
  simp only [winU] at w2
  unfold St17.use
  dsimp only
  split
  next h1 =>
    dsimp only
    rw [cnt_append, winB_owe a p.T _ ys (by show 0 ≤ x.2.2 + 1; omega)]
    simp only [cnt]
    refine ⟨by split at w1 <;> split <;> omega, fun hlt => ?_⟩
    have := w2 hlt
    split at this <;> split <;> omega
  next h1 =>
    dsimp only
    rw [cnt_append]
    simp only [cnt, winL, winU]
    refine ⟨by split at w1 <;> split <;> omega, fun hlt => ?_⟩
    have := w2 hlt
    split at this <;> split <;> omega
theorem use_T (s : St17) : s.use.p = s.p := by
  unfold St17.use
  split
  · rfl
  · split <;> rfl
theorem act_T (s : St17) (kind n now : Int) : (s.act kind n now).p.T = s.p.T := by
  have hg : ∀ t b, (s.go t b).p.T = s.p.T := fun t b => (go_T s t b).1
  unfold St17.act
  (repeat' split) <;> first | exact hg _ _ | rfl
end Go.Proofs.Ytlhiagbcmmmjpaa
