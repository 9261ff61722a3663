/-
  What is dark, and the worst answer of one tick's work. No program in sight.
-/
import Derived.Test.YtnfajehocljbnaaLatP
namespace Go.Proofs.Ytnfajehocljbnaa
section
variable {M : Int} {ws : List W3} {p : Int} {F : Nat}
theorem cntF_head (f : Int) (n : Nat) : cntF M ws p F f (n + 1) = (if isO M ws p (f % F) then 1 else 0) + cntF M ws p F (f + 1) n := by
  have h := cntF_add M ws p F f 1 n
  rw [Nat.add_comm] at h
  have h1 : cntF M ws p F f 1 = if isO M ws p (f % F) then 1 else 0 := by
    show (0 : Int) + _ = _
    rw [show f + ((0 : Nat) : Int) = f by omega]; omega
  rw [h, h1]; rfl
theorem IsD.back {f : Int} {d : Nat} (h : IsD M ws p F (f + 1) 1 d) (hn : isO M ws p (f % F) = false) : IsD M ws p F f 1 (d + 1) := by
  refine ⟨by rw [cntF_head, hn]; have := h.1; simp; omega, fun i hi => ?_⟩
  cases i with
  | zero => have h0 : cntF M ws p F f 0 = 0 := rfl; rw [h0]; omega
  | succ j => rw [cntF_head, hn]; have := h.2 j (by omega); simp; omega
theorem doneN_one {hF : 0 < F} {ho : 0 < cntO M ws p F} (f : Int) : 1 ≤ doneN M ws p F f 1 := ((doneN_is hF ho f 1).pred (by omega)).1
theorem doneN_back (hF : 0 < F) (ho : 0 < cntO M ws p F) (j : Int) : ∀ t : Nat, (∀ u : Nat, u < t → isO M ws p ((j - 1 - u) % F) = false) → doneN M ws p F (j - t) 1 = doneN M ws p F j 1 + t
  | 0, _ => by rw [show j - ((0 : Nat) : Int) = j by omega]; rfl
  | t + 1, h => by
    have ih := doneN_back hF ho j t (fun u hu => h u (by omega))
    have h1 := doneN_is hF ho (j - t) 1
    have e : j - ((t + 1 : Nat) : Int) + 1 = j - t := by omega
    have h2 : IsD M ws p F (j - ((t + 1 : Nat) : Int)) 1 (doneN M ws p F (j - t) 1 + 1) := IsD.back (by rw [e]; exact h1) (by
      have := h t (by omega)
      rwa [show j - 1 - (t : Int) = j - ((t + 1 : Nat) : Int) by omega] at this)
    rw [(doneN_is hF ho _ 1).eq h2, ih]; omega
theorem next_done (hF : 0 < F) (ho : 0 < cntO M ws p F) {f x : Int} {b : Bool} (h : NextIs M ws p F f x b) : x = f + doneN M ws p F f 1 - 1 ∧ b = true := by
  rcases h with ⟨k, h1, h2, h3, rfl, rfl⟩ | ⟨h1, _, _⟩
  · refine ⟨?_, rfl⟩
    have hz : ∀ i, i ≤ k → cntF M ws p F f i = 0 := by
      intro i
      induction i with
      | zero => intro _; rfl
      | succ i ih => intro hi; rw [cntF, ih (by omega), h3 i (by omega)]; rfl
    have hd : IsD M ws p F f 1 (k + 1) := ⟨by rw [cntF, hz k (Nat.le_refl _), h2]; simp, fun i hi => by rw [hz i (by omega)]; omega⟩
    rw [(doneN_is hF ho f 1).eq hd]; omega
  · exfalso
    have h2 := cntF_frame M ws p F hF f
    have h3 : 0 < cntF M ws p F f F := by rw [h2]; exact ho
    obtain ⟨i, hi, h4⟩ := (cntF_pos M ws p F f F).1 h3
    rw [h1 i hi] at h4; cases h4
variable (M ws p F)
def darkB (i : Int) : Bool := !(isO M ws p (i % F)) && isO M ws p ((i - 1) % F)
def dkN : Nat → List (Int × Int)
  | 0 => []
  | i + 1 => if darkB M ws p F i then dkN i ++ [((i : Int), (i : Int) + doneN M ws p F i 1 - 1)] else dkN i
theorem dkN_len : ∀ i, (dkN M ws p F i).length ≤ i
  | 0 => Nat.le_refl _
  | i + 1 => by have := dkN_len i; rw [dkN]; split <;> simp <;> omega
theorem dkN_mem : ∀ k : Nat, ∀ s ∈ dkN M ws p F k, ∃ i : Nat, i < k ∧ s = ((i : Int), (i : Int) + doneN M ws p F i 1 - 1)
  | 0, s, h => by cases h
  | k + 1, s, h => by
    rw [dkN] at h
    split at h
    · rcases List.mem_append.1 h with h | h
      · obtain ⟨i, hi, e⟩ := dkN_mem k s h; exact ⟨i, by omega, e⟩
      · rw [List.mem_singleton] at h; exact ⟨k, by omega, h⟩
    · obtain ⟨i, hi, e⟩ := dkN_mem k s h; exact ⟨i, by omega, e⟩
theorem dkN_has : ∀ k i : Nat, i < k → darkB M ws p F i = true → ((i : Int), (i : Int) + doneN M ws p F i 1 - 1) ∈ dkN M ws p F k
  | 0, i, h, _ => by omega
  | k + 1, i, h, hd => by
    rw [dkN]
    by_cases e : i = k
    · subst e
      rw [if_pos hd]; simp
    · have := dkN_has k i (by omega) hd
      split
      · exact List.mem_append_left _ this
      · exact this
end
/-- The longest of some. -/
def lgN : List (Int × Int) → Int × Int
  | [] => (0, 0)
  | x :: t => t.foldl (fun b s => if b.2 - b.1 < s.2 - s.1 then s else b) x
theorem lgN_snoc (l : List (Int × Int)) (x : Int × Int) : lgN (l ++ [x]) = if l = [] ∨ (lgN l).2 - (lgN l).1 < x.2 - x.1 then x else lgN l := by
  cases l with
  | nil => rfl
  | cons y t =>
    simp only [List.cons_append, lgN, List.foldl_append, List.foldl_cons, List.foldl_nil, reduceCtorEq, false_or]
theorem foldl_lg (t : List (Int × Int)) : ∀ x : Int × Int, (t.foldl (fun b s => if b.2 - b.1 < s.2 - s.1 then s else b) x ∈ x :: t) ∧ ∀ s ∈ x :: t, s.2 - s.1 ≤ (t.foldl (fun b s => if b.2 - b.1 < s.2 - s.1 then s else b) x).2 - (t.foldl (fun b s => if b.2 - b.1 < s.2 - s.1 then s else b) x).1 := by
  induction t with
  | nil => intro x; exact ⟨by simp, fun s hs => by rw [List.mem_singleton] at hs; subst hs; exact Int.le_refl _⟩
  | cons y t ih =>
    intro x
    rw [List.foldl_cons]
    obtain ⟨h1, h2⟩ := ih (if x.2 - x.1 < y.2 - y.1 then y else x)
    refine ⟨?_, fun s hs => ?_⟩
    · rcases List.mem_cons.1 h1 with h | h
      · rw [h]
        split
        · simp
        · simp
      · exact List.mem_cons_of_mem _ (List.mem_cons_of_mem _ h)
    · have h3 := h2 _ (List.mem_cons_self ..)
      have h4 : x.2 - x.1 ≤ (if x.2 - x.1 < y.2 - y.1 then y else x).2 - (if x.2 - x.1 < y.2 - y.1 then y else x).1 ∧ y.2 - y.1 ≤ (if x.2 - x.1 < y.2 - y.1 then y else x).2 - (if x.2 - x.1 < y.2 - y.1 then y else x).1 := by
        by_cases hc : x.2 - x.1 < y.2 - y.1
        · rw [if_pos hc]; omega
        · rw [if_neg hc]; omega
      rcases List.mem_cons.1 hs with rfl | hs
      · exact Int.le_trans h4.1 h3
      · rcases List.mem_cons.1 hs with rfl | hs
        · exact Int.le_trans h4.2 h3
        · exact h2 s (List.mem_cons_of_mem _ hs)
theorem lgN_mem {l : List (Int × Int)} (h : l ≠ []) : lgN l ∈ l ∧ ∀ s ∈ l, s.2 - s.1 ≤ (lgN l).2 - (lgN l).1 := by
  cases l with
  | nil => exact absurd rfl h
  | cons x t => exact foldl_lg t x
section
variable {M : Int} {ws : List W3} {p : Int} {F : Nat}
/-- The worst answer of one tick's work is the longest dark span, and one. -/
theorem dark_worst (hF : 0 < F) (ho : 0 < cntO M ws p F) : (wstN M ws p F 1 F).1 = (if dkN M ws p F F = [] then 0 else (lgN (dkN M ws p F F)).2 - (lgN (dkN M ws p F F)).1) + 1 := by
  obtain ⟨j, hj, e⟩ := wstN_at M ws p F 1 F hF
  have hj1 := doneN_one (hF := hF) (ho := ho) (M := M) (ws := ws) (p := p) (F := F) (j : Int)
  have hup : ∀ s ∈ dkN M ws p F F, s.2 - s.1 + 1 ≤ (wstN M ws p F 1 F).1 := by
    intro s hs
    obtain ⟨i, hi, rfl⟩ := dkN_mem M ws p F F s hs
    have := wstN_le M ws p F 1 F i hi
    dsimp only; omega
  -- the dark span in which j is
  have hdn : doneN M ws p F (j : Int) 1 = 1 ∨ ∃ s ∈ dkN M ws p F F, (doneN M ws p F (j : Int) 1 : Int) - 1 ≤ s.2 - s.1 := by
    by_cases h1 : doneN M ws p F (j : Int) 1 = 1
    · exact .inl h1
    · right
      have hnj : isO M ws p ((j : Int) % F) = false := by
        cases hc : isO M ws p ((j : Int) % F) with
        | false => rfl
        | true =>
          exfalso
          apply h1
          refine (doneN_is hF ho (j : Int) 1).eq ⟨?_, fun i hi => ?_⟩
          · rw [cntF_head, hc]; have := cntF_le M ws p F ((j : Int) + 1) 0; simp; omega
          · have : i = 0 := by omega
            subst this
            have h0 : cntF M ws p F (j : Int) 0 = 0 := rfl
            rw [h0]; omega
      -- the first open tick behind j, going back
      have hex : ∃ t : Nat, isO M ws p (((j : Int) - 1 - t) % F) = true ∧ ∀ u : Nat, u < t → isO M ws p (((j : Int) - 1 - u) % F) = false := by
        have h2 : 0 < cntF M ws p F ((j : Int) - F) F := by rw [cntF_frame M ws p F hF]; exact ho
        obtain ⟨i, hi, h3⟩ := (cntF_pos M ws p F ((j : Int) - F) F).1 h2
        have h4 : isO M ws p (((j : Int) - 1 - ((F - 1 - i : Nat) : Int)) % F) = true := by rwa [show (j : Int) - 1 - ((F - 1 - i : Nat) : Int) = (j : Int) - F + i by omega]
        have hs := fstN_spec (fun t : Nat => isO M ws p (((j : Int) - 1 - t) % F)) F 0
        have hle : fstN (fun t : Nat => isO M ws p (((j : Int) - 1 - t) % F)) F 0 ≤ F - 1 - i := by
          rcases Nat.lt_or_ge (F - 1 - i) (fstN (fun t : Nat => isO M ws p (((j : Int) - 1 - t) % F)) F 0) with h | h
          · have := hs.2.2.1 _ (by omega) h
            rw [h4] at this; cases this
          · exact h
        exact ⟨_, hs.2.2.2 (by omega), fun u hu => hs.2.2.1 u (by omega) hu⟩
      obtain ⟨t, ht1, ht2⟩ := hex
      have hb := doneN_back hF ho (j : Int) t ht2
      obtain ⟨i, hi⟩ : ∃ i : Nat, ((j : Int) - t) % (F : Int) = i := ⟨(((j : Int) - t) % (F : Int)).toNat, by have := Int.emod_nonneg ((j : Int) - t) (show (F : Int) ≠ 0 by omega); omega⟩
      have hiF : i < F := by have := Int.emod_lt_of_pos ((j : Int) - t) (show (0 : Int) < (F : Int) by omega); omega
      have hdi : doneN M ws p F (i : Int) 1 = doneN M ws p F ((j : Int) - t) 1 := by
        have := (doneN_is hF ho ((j : Int) - t) 1).mod
        rw [hi] at this
        exact (doneN_is hF ho (i : Int) 1).eq this
      have hdark : darkB M ws p F i = true := by
        unfold darkB
        have a1 : isO M ws p ((i : Int) % F) = false := by
          rw [← hi, Int.emod_emod_of_dvd _ (Int.dvd_refl _)]
          cases t with
          | zero => rwa [show (j : Int) - ((0 : Nat) : Int) = j by omega]
          | succ u => have := ht2 u (by omega); rwa [show (j : Int) - 1 - (u : Int) = (j : Int) - ((u + 1 : Nat) : Int) by omega] at this
        have a2 : isO M ws p (((i : Int) - 1) % F) = true := by
          rw [← hi, Int.sub_emod, Int.emod_emod_of_dvd _ (Int.dvd_refl _), ← Int.sub_emod]
          rwa [show (j : Int) - t - 1 = (j : Int) - 1 - t by omega]
        rw [a1, a2]; rfl
      refine ⟨_, dkN_has M ws p F F i hiF hdark, ?_⟩
      dsimp only
      rw [hdi, hb]
      omega
  have hW : (wstN M ws p F 1 F).1 = (doneN M ws p F (j : Int) 1 : Int) := by rw [e]
  by_cases hnil : dkN M ws p F F = []
  · rw [if_pos hnil, hW]
    rcases hdn with h | ⟨s, hs, _⟩
    · rw [h]; rfl
    · rw [hnil] at hs; cases hs
  · rw [if_neg hnil]
    obtain ⟨l1, l2⟩ := lgN_mem hnil
    have u1 := hup _ l1
    rcases hdn with h | ⟨s, hs, h⟩
    · obtain ⟨i, hi, es⟩ := dkN_mem M ws p F F _ l1
      have h1 := doneN_one (hF := hF) (ho := ho) (M := M) (ws := ws) (p := p) (F := F) (i : Int)
      rw [es] at u1 ⊢
      dsimp only at u1 ⊢
      rw [hW, h] at u1 ⊢
      omega
    · have := l2 s hs
      omega
end
end Go.Proofs.Ytnfajehocljbnaa
