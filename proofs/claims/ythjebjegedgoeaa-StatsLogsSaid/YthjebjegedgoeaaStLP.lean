/-
  Stats, plain: a log's entries, and the jobs that they tell. No program in sight.
-/
import Derived.Test.YthjebjegedgoeaaStP
namespace Go.Proofs.Ythjebjegedgoeaa

/-- An entry: tick, kind, a, b. -/
structure En where
  k : Int
  d : Int
  a : Int
  b : Int
def brkE (e : En) : Prop := e.d = 13 ∨ (e.d = 12 ∧ e.b ≠ 0)
instance (e : En) : Decidable (brkE e) := inferInstanceAs (Decidable (e.d = 13 ∨ (e.d = 12 ∧ e.b ≠ 0)))
def endK (k : Int) : Int := if k = 4 then 1 else if k = 5 then 2 else if k = 6 then 3 else if k = 8 then 4 else 0
def endR (e : En) (t : Int) : Int := if brkE e then 5 else if e.a ≠ t then 0 else endK e.d
def newJ (e : En) : J5 := ⟨e.a, e.b, e.k, -1, 0⟩
def upJ (j : J5) (e : En) : J5 := if j.e = 0 then (if endR e j.t ≠ 0 then { j with o := e.k, e := endR e j.t } else j) else j
def stepE (J : List J5) (e : En) : List J5 := J.map (fun j => upJ j e) ++ (if e.d = 0 then [newJ e] else [])
def jobsE (l : List En) : List J5 := l.foldl stepE []
theorem jobsE_snoc (l : List En) (e : En) : jobsE (l ++ [e]) = stepE (jobsE l) e := by unfold jobsE; rw [List.foldl_append]; rfl
def jobsR : List En → List J5
  | [] => []
  | e :: r => (if e.d = 0 then [r.foldl upJ (newJ e)] else []) ++ jobsR r
theorem fold_stepE (l : List En) (J : List J5) : l.foldl stepE J = J.map (fun j => l.foldl upJ j) ++ jobsR l := by
  induction l generalizing J with
  | nil => simp [jobsR]
  | cons e r ih =>
    rw [List.foldl_cons, ih, jobsR]
    unfold stepE
    by_cases h : e.d = 0
    · rw [if_pos h, if_pos h]
      simp [List.map_append, List.append_assoc]
    · rw [if_neg h, if_neg h]
      simp
theorem jobsE_eq (l : List En) : jobsE l = jobsR l := by
  unfold jobsE
  rw [fold_stepE]
  simp
theorem jobsE_len (l : List En) : (jobsE l).length ≤ l.length := by
  induction l using snocInd with
  | nil => simp [jobsE]
  | append_singleton l e ih =>
    rw [jobsE_snoc, List.length_append]
    unfold stepE
    rw [List.length_append, List.length_map]
    split <;> simp <;> omega
structure EnWf (e : En) : Prop where
  k0 : -9223372036854775808 ≤ e.k
  k1 : e.k < 9223372036854775808
  d0 : -9223372036854775808 ≤ e.d
  d1 : e.d < 9223372036854775808
  a0 : -9223372036854775808 ≤ e.a
  a1 : e.a < 9223372036854775808
  b0 : -9223372036854775808 ≤ e.b
  b1 : e.b < 9223372036854775808
structure JB (j : J5) : Prop where
  t0 : -9223372036854775808 ≤ j.t
  t1 : j.t < 9223372036854775808
  f0 : -9223372036854775808 ≤ j.f
  f1 : j.f < 9223372036854775808
  o0 : -9223372036854775808 ≤ j.o
  o1 : j.o < 9223372036854775808
theorem jobsE_wf {l : List En} (h : ∀ e ∈ l, EnWf e) : ∀ j ∈ jobsE l, JB j := by
  induction l using snocInd with
  | nil => intro j hj; simp [jobsE] at hj
  | append_singleton l e ih =>
    have he := h e (by simp)
    have h1 := ih (fun x hx => h x (by simp [hx]))
    intro j hj
    rw [jobsE_snoc] at hj
    unfold stepE at hj
    rcases List.mem_append.1 hj with hj | hj
    · obtain ⟨i, hi, rfl⟩ := List.mem_map.1 hj
      have hb := h1 i hi
      unfold upJ
      split
      · split
        · exact ⟨hb.t0, hb.t1, hb.f0, hb.f1, he.k0, he.k1⟩
        · exact hb
      · exact hb
    · split at hj
      · simp at hj
        subst hj
        exact ⟨he.a0, he.a1, he.k0, he.k1, by simp [newJ], by simp [newJ]⟩
      · cases hj

/-- The places of a task's open jobs. -/
def opJ (j : J5) (t : Int) : Prop := j.t = t ∧ j.e = 0
instance (j : J5) (t : Int) : Decidable (opJ j t) := inferInstanceAs (Decidable (j.t = t ∧ j.e = 0))
def openF (t : Int) : Nat → List J5 → List Nat
  | _, [] => []
  | i, j :: r => if opJ j t then i :: openF t (i + 1) r else openF t (i + 1) r
def openI (J : List J5) (t : Int) : List Nat := openF t 0 J
theorem openF_mem (t : Int) (k : Nat) : ∀ (J : List J5) (i : Nat), k ∈ openF t i J ↔ i ≤ k ∧ ∃ j, J[k - i]? = some j ∧ opJ j t
  | [], i => by simp [openF]
  | j :: r, i => by
    unfold openF
    have ih := openF_mem t k r (i + 1)
    have key : k ∈ openF t (i + 1) r ↔ i + 1 ≤ k ∧ ∃ x, (j :: r)[k - i]? = some x ∧ opJ x t := by
      rw [ih]
      constructor
      · rintro ⟨h1, x, h2, h3⟩
        refine ⟨h1, x, ?_, h3⟩
        rw [show k - i = k - (i + 1) + 1 by omega]
        simpa using h2
      · rintro ⟨h1, x, h2, h3⟩
        refine ⟨h1, x, ?_, h3⟩
        rw [show k - i = k - (i + 1) + 1 by omega] at h2
        simpa using h2
    split
    · rename_i ho
      rw [List.mem_cons, key]
      constructor
      · rintro (rfl | ⟨h1, h2⟩)
        · exact ⟨Nat.le_refl _, j, by simp, ho⟩
        · exact ⟨by omega, h2⟩
      · rintro ⟨h1, x, h2, h3⟩
        by_cases e : k = i
        · exact .inl e
        · exact .inr ⟨by omega, x, h2, h3⟩
    · rename_i ho
      rw [key]
      constructor
      · rintro ⟨h1, h2⟩
        exact ⟨by omega, h2⟩
      · rintro ⟨h1, x, h2, h3⟩
        refine ⟨?_, x, h2, h3⟩
        by_cases e : k = i
        · subst e
          rw [Nat.sub_self] at h2
          simp at h2
          subst h2
          exact absurd h3 ho
        · omega
theorem openI_mem (J : List J5) (t : Int) (k : Nat) : k ∈ openI J t ↔ ∃ j, J[k]? = some j ∧ opJ j t := by
  unfold openI
  rw [openF_mem]
  simp
theorem openF_append (t : Int) : ∀ (J K : List J5) (i : Nat), openF t i (J ++ K) = openF t i J ++ openF t (i + J.length) K
  | [], K, i => by simp [openF]
  | j :: r, K, i => by
    have ih := openF_append t r K (i + 1)
    rw [show i + 1 + r.length = i + (r.length + 1) by omega] at ih
    have e1 : openF t i (j :: r ++ K) = if opJ j t then i :: openF t (i + 1) (r ++ K) else openF t (i + 1) (r ++ K) := rfl
    have e2 : openF t i (j :: r) = if opJ j t then i :: openF t (i + 1) r else openF t (i + 1) r := rfl
    rw [e1, e2, ih, List.length_cons]
    split
    · rw [List.cons_append]
    · rfl
theorem openI_snoc (J : List J5) (j : J5) (t : Int) : openI (J ++ [j]) t = if opJ j t then openI J t ++ [J.length] else openI J t := by
  unfold openI
  rw [openF_append]
  simp only [openF, Nat.zero_add]
  split <;> simp
theorem openF_congr (t : Int) : ∀ (J K : List J5) (i : Nat), J.length = K.length → (∀ (k : Nat) (x y : J5), J[k]? = some x → K[k]? = some y → (opJ x t ↔ opJ y t)) → openF t i J = openF t i K
  | [], [], _, _, _ => rfl
  | [], _ :: _, _, h, _ => by simp at h
  | _ :: _, [], _, h, _ => by simp at h
  | x :: r, y :: s, i, h, hh => by
    have h0 := hh 0 x y rfl rfl
    have ih := openF_congr t r s (i + 1) (by simpa using h) (fun k a b ha hb => hh (k + 1) a b (by simpa using ha) (by simpa using hb))
    unfold openF
    rw [ih]
    by_cases hx : opJ x t
    · rw [if_pos hx, if_pos (h0.1 hx)]
    · rw [if_neg hx, if_neg (fun e => hx (h0.2 e))]
theorem openI_len (J : List J5) (t : Int) : (openI J t).length ≤ J.length := by
  unfold openI
  have : ∀ (J : List J5) (i : Nat), (openF t i J).length ≤ J.length := by
    intro J
    induction J with
    | nil => intro i; simp [openF]
    | cons j r ih =>
      intro i
      unfold openF
      have := ih (i + 1)
      split <;> simp <;> omega
  exact this J 0
theorem openF_ge (t : Int) (k : Nat) (J : List J5) (i : Nat) (h : k ∈ openF t i J) : i ≤ k := ((openF_mem t k J i).1 h).1
theorem openF_nodup (t : Int) : ∀ (J : List J5) (i : Nat), (openF t i J).Nodup
  | [], i => by simp [openF]
  | j :: r, i => by
    unfold openF
    have ih := openF_nodup t r (i + 1)
    split
    · exact List.nodup_cons.2 ⟨fun h => by have := openF_ge t i r (i + 1) h; omega, ih⟩
    · exact ih
theorem openI_nodup (J : List J5) (t : Int) : (openI J t).Nodup := openF_nodup t J 0
theorem not_mem_takeN {l : List Nat} (h : l.Nodup) {i : Nat} {x : Nat} (hx : l[i]? = some x) : x ∉ l.take i := fun hm => by
  obtain ⟨j, hj, he⟩ := List.getElem_of_mem hm
  rw [List.length_take] at hj
  rw [List.getElem_take] at he
  obtain ⟨hi, hxe⟩ := List.getElem?_eq_some_iff.1 hx
  exact (List.pairwise_iff_getElem.1 h) j i (by omega) hi (by omega) (he.trans hxe.symm)
/-- A task's open jobs are ended. -/
def shutJ (J : List J5) (t how tick : Int) : List J5 := J.map (fun j => if opJ j t then { j with o := tick, e := how } else j)
theorem shutJ_len (J : List J5) (t how tick : Int) : (shutJ J t how tick).length = J.length := by simp [shutJ]
theorem shutJ_at (J : List J5) (t how tick : Int) (k : Nat) : (shutJ J t how tick)[k]? = if k ∈ openI J t then (J[k]?).map (fun j => { j with o := tick, e := how }) else J[k]? := by
  unfold shutJ
  rw [List.getElem?_map]
  cases hk : J[k]? with
  | none => simp
  | some j =>
    by_cases h : opJ j t
    · rw [if_pos ((openI_mem J t k).2 ⟨j, hk, h⟩)]
      simp [h]
    · rw [if_neg (fun e => by
        obtain ⟨x, hx, hx2⟩ := (openI_mem J t k).1 e
        rw [hk] at hx
        injection hx with hx
        subst hx
        exact h hx2)]
      simp [h]
theorem openI_shut (J : List J5) (t how tick s : Int) (hh : how ≠ 0) : openI (shutJ J t how tick) s = if s = t then [] else openI J s := by
  by_cases hs : s = t
  · subst hs
    rw [if_pos rfl]
    apply List.eq_nil_iff_forall_not_mem.2
    intro k hk
    obtain ⟨j, hj, ho⟩ := (openI_mem _ _ _).1 hk
    unfold shutJ at hj
    rw [List.getElem?_map] at hj
    cases hJ : J[k]? with
    | none => rw [hJ] at hj; cases hj
    | some x =>
      rw [hJ] at hj
      simp at hj
      subst hj
      by_cases hx : opJ x s
      · rw [if_pos hx] at ho
        exact hh ho.2
      · rw [if_neg hx] at ho
        exact hx ho
  · rw [if_neg hs]
    refine openF_congr s _ _ 0 (shutJ_len _ _ _ _) (fun k x y hx hy => ?_)
    unfold shutJ at hx
    rw [List.getElem?_map, hy] at hx
    simp at hx
    subst hx
    by_cases h : opJ y t
    · rw [if_pos h]
      constructor
      · intro e; exact absurd e.2 hh
      · intro e; exact absurd (e.1.symm.trans h.1) hs
    · rw [if_neg h]
/-- What an entry does, seen from the jobs. -/
theorem stepE_acc (J : List J5) (e : En) (h : e.d = 0) : stepE J e = J ++ [newJ e] := by
  unfold stepE
  rw [if_pos h]
  congr 1
  have hb : ¬ brkE e := fun hb => by
    rcases hb with hb | hb
    · omega
    · have := hb.1; omega
  have hk : endK e.d = 0 := by rw [h]; rfl
  have : ∀ j : J5, upJ j e = j := fun j => by
    have h1 : endR e j.t = 0 := by
      unfold endR
      rw [if_neg hb, hk]
      simp
    unfold upJ
    rw [h1]
    simp
  simp [this]
theorem stepE_end (J : List J5) (e : En) (h0 : ¬ e.d = 0) (hb : ¬ brkE e) : (endK e.d ≠ 0 ∧ stepE J e = shutJ J e.a (endK e.d) e.k) ∨ (endK e.d = 0 ∧ stepE J e = J) := by
  have hr : ∀ t, endR e t = if e.a ≠ t then 0 else endK e.d := fun t => if_neg hb
  unfold stepE
  rw [if_neg h0, List.append_nil]
  by_cases hk : endK e.d = 0
  · refine .inr ⟨hk, ?_⟩
    have : ∀ j : J5, upJ j e = j := fun j => by
      unfold upJ
      rw [hr, hk]
      simp
    simp [this]
  · refine .inl ⟨hk, ?_⟩
    unfold shutJ
    refine List.map_congr_left (fun j _ => ?_)
    unfold upJ
    rw [hr]
    by_cases ht : e.a = j.t
    · have h1 : (if e.a ≠ j.t then 0 else endK e.d) = endK e.d := if_neg (fun q => q ht)
      rw [h1]
      by_cases he : j.e = 0
      · have ho : opJ j e.a := ⟨ht.symm, he⟩
        rw [if_pos he, if_pos ho, if_pos hk]
      · have ho : ¬ opJ j e.a := fun q => he q.2
        rw [if_neg he, if_neg ho]
    · have h1 : (if e.a ≠ j.t then 0 else endK e.d) = 0 := if_pos ht
      have ho : ¬ opJ j e.a := fun q => ht q.1.symm
      rw [h1, if_neg ho]
      simp
theorem stepE_brk (J : List J5) (e : En) (hb : brkE e) : stepE J e = J.map (fun j => if j.e = 0 then { j with o := e.k, e := 5 } else j) := by
  unfold stepE
  have h0 : ¬ e.d = 0 := fun h => by
    rcases hb with hb | hb
    · omega
    · have := hb.1; omega
  rw [if_neg h0, List.append_nil]
  refine List.map_congr_left (fun j _ => ?_)
  unfold upJ endR
  rw [if_pos hb]
  simp
end Go.Proofs.Ythjebjegedgoeaa
