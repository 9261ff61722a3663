/-
  Stats, plain: jobs, a task's line and buckets, the tasks in their order. No program in sight.
-/
import Derived.Test.YthjebjegedgoeaaLib
namespace Go.Proofs.Ythjebjegedgoeaa

theorem snocInd {α : Type} {motive : List α → Prop} (nil : motive []) (append_singleton : ∀ l j, motive l → motive (l ++ [j])) (l : List α) : motive l := by
  have h : ∀ r : List α, motive r.reverse := fun r => by
    induction r with
    | nil => exact nil
    | cons x r ih => rw [List.reverse_cons]; exact append_singleton _ _ ih
  have := h l.reverse
  rwa [List.reverse_reverse] at this

/-- A job: task, work, from, to, end. -/
structure J5 where
  t : Int
  k : Int
  f : Int
  o : Int
  e : Int
/-- How long it took; 0: it has no answer. -/
def ansJ (j : J5) : Int := if j.e = 1 ∧ j.f ≤ j.o ∧ j.o - j.f < 1048576 then j.o - j.f + 1 else 0
theorem ansJ_le (j : J5) : 0 ≤ ansJ j ∧ ansJ j ≤ 1048576 := by unfold ansJ; split <;> omega
/-- A task's line. -/
structure Ln where
  arr : Int
  ended : Int
  lost : Int
  least : Int
  most : Int
  sum : Int
def Ln.zero : Ln := ⟨0, 0, 0, 0, 0, 0⟩
def Ln.come (x : Ln) : Ln := { x with arr := x.arr + 1 }
def Ln.lose (x : Ln) : Ln := { x with lost := x.lost + 1 }
def Ln.answer (x : Ln) (a : Int) : Ln := { x with ended := x.ended + 1, least := if x.ended = 0 ∨ a < x.least then a else x.least, most := max x.most a, sum := x.sum + a }
def Ln.step (x : Ln) (j : J5) : Ln := if 0 < ansJ j then x.come.answer (ansJ j) else if j.e ≠ 0 ∧ j.e ≠ 1 then x.come.lose else x.come
structure LnOk (n : Nat) (x : Ln) : Prop where
  arr0 : 0 ≤ x.arr
  arr1 : x.arr ≤ n
  ended0 : 0 ≤ x.ended
  ended1 : x.ended ≤ n
  lost0 : 0 ≤ x.lost
  lost1 : x.lost ≤ n
  least0 : 0 ≤ x.least
  least1 : x.least ≤ 1048576
  most0 : 0 ≤ x.most
  most1 : x.most ≤ 1048576
  sum0 : 0 ≤ x.sum
  sum1 : x.sum ≤ n * 1048576
  both : x.ended + x.lost ≤ x.arr
theorem LnOk.zero (n : Nat) : LnOk n Ln.zero := by constructor <;> simp [Ln.zero] <;> omega
theorem LnOk.mono {n m : Nat} {x : Ln} (h : LnOk n x) (hnm : n ≤ m) : LnOk m x := by
  obtain ⟨h1, h2, h3, h4, h5, h6, h7, h8, h9, h10, h11, h12, h13⟩ := h
  constructor <;> omega
theorem LnOk.step {n : Nat} {x : Ln} (h : LnOk n x) (j : J5) : LnOk (n + 1) (x.step j) := by
  obtain ⟨h1, h2, h3, h4, h5, h6, h7, h8, h9, h10, h11, h12, h13⟩ := h
  have ha := ansJ_le j
  unfold Ln.step
  split
  · constructor <;> simp only [Ln.come, Ln.answer] <;> (try split) <;> omega
  · split <;> constructor <;> simp only [Ln.come, Ln.lose] <;> omega

theorem LnOk.come {n : Nat} {x : Ln} (h : LnOk n x) : LnOk (n + 1) x.come := by
  obtain ⟨h1, h2, h3, h4, h5, h6, h7, h8, h9, h10, h11, h12, h13⟩ := h
  constructor <;> simp only [Ln.come] <;> omega

def lineJ (l : List J5) (t : Int) : Ln := l.foldl (fun x j => if j.t = t then x.step j else x) Ln.zero
theorem lineJ_snoc (l : List J5) (j : J5) (t : Int) : lineJ (l ++ [j]) t = if j.t = t then (lineJ l t).step j else lineJ l t := by
  unfold lineJ; rw [List.foldl_append]; rfl
theorem lineJ_ok (l : List J5) (t : Int) : LnOk l.length (lineJ l t) := by
  induction l using snocInd with
  | nil => exact LnOk.zero _
  | append_singleton l j ih =>
    rw [lineJ_snoc, List.length_append]
    split
    · exact ih.step j
    · exact ih.mono (by simp)
theorem lineJ_none {l : List J5} {t : Int} (h : t ∉ l.map J5.t) : lineJ l t = Ln.zero := by
  induction l using snocInd with
  | nil => rfl
  | append_singleton l j ih =>
    rw [List.map_append, List.mem_append] at h
    rw [lineJ_snoc, if_neg (fun e => h (.inr (by simp [e]))), ih (fun e => h (.inl e))]
theorem lineJ_arr {l : List J5} {t : Int} (h : t ∈ l.map J5.t) : (lineJ l t).arr ≠ 0 := by
  induction l using snocInd with
  | nil => simp at h
  | append_singleton l j ih =>
    rw [lineJ_snoc]
    have hk := (lineJ_ok l t).arr0
    have e : ∀ x : Ln, (x.step j).arr = x.arr + 1 := fun x => by
      unfold Ln.step
      split
      · rfl
      · split <;> rfl
    split
    · rw [e]; omega
    · rename_i hne
      rw [List.map_append, List.mem_append] at h
      rcases h with h | h
      · exact ih h
      · have h' : t = j.t := by simpa using h
        exact absurd h'.symm hne

/-- One more in a bucket. -/
def bump (c : List Int) (k : Nat) : List Int := c.set k (c.getD k 0 + 1)
theorem bump_len (c : List Int) (k : Nat) : (bump c k).length = c.length := by simp [bump]
/-- An answer's bucket. -/
def bkt (B W : Nat) (a : Int) : Nat := (min ((a - 1) / (W : Int)) ((B : Int) - 1)).toNat
theorem bkt_lt {B W : Nat} {a : Int} (hB : 1 ≤ B) (ha : 0 < a) : (bkt B W a : Int) = min ((a - 1) / (W : Int)) ((B : Int) - 1) ∧ bkt B W a < B := by
  have h : 0 ≤ (a - 1) / (W : Int) := Int.ediv_nonneg (by omega) (by omega)
  unfold bkt
  omega
def cntJ (B W : Nat) (l : List J5) (t : Int) : List Int := l.foldl (fun c j => if j.t = t ∧ 0 < ansJ j then bump c (bkt B W (ansJ j)) else c) (List.replicate B 0)
theorem cntJ_snoc (B W : Nat) (l : List J5) (j : J5) (t : Int) : cntJ B W (l ++ [j]) t = if j.t = t ∧ 0 < ansJ j then bump (cntJ B W l t) (bkt B W (ansJ j)) else cntJ B W l t := by
  unfold cntJ; rw [List.foldl_append]; rfl
theorem cntJ_len (B W : Nat) (l : List J5) (t : Int) : (cntJ B W l t).length = B := by
  induction l using snocInd with
  | nil => simp [cntJ]
  | append_singleton l j ih => rw [cntJ_snoc]; split <;> simp [bump_len, ih]
theorem cntJ_none {B W : Nat} {l : List J5} {t : Int} (h : t ∉ l.map J5.t) : cntJ B W l t = List.replicate B 0 := by
  induction l using snocInd with
  | nil => rfl
  | append_singleton l j ih =>
    rw [List.map_append, List.mem_append] at h
    rw [cntJ_snoc, if_neg (fun e => h (.inr (by simp [e.1]))), ih (fun e => h (.inl e))]
theorem bump_bd {c : List Int} {n k : Nat} (h : ∀ x ∈ c, 0 ≤ x ∧ x ≤ n) : ∀ x ∈ bump c k, 0 ≤ x ∧ x ≤ (n + 1 : Nat) := by
  intro x hx
  rcases List.mem_or_eq_of_mem_set hx with hx | rfl
  · have := h x hx; omega
  · by_cases hk : k < c.length
    · have := h c[k] (List.getElem_mem hk)
      simp [List.getD, hk]; omega
    · simp [List.getD, hk]; omega
theorem cntJ_bd (B W : Nat) (l : List J5) (t : Int) : ∀ x ∈ cntJ B W l t, 0 ≤ x ∧ x ≤ l.length := by
  induction l using snocInd with
  | nil => intro x hx; simp [cntJ] at hx; omega
  | append_singleton l j ih =>
    rw [cntJ_snoc, List.length_append]
    split
    · exact bump_bd ih
    · intro x hx; have := ih x hx; simp; omega

/-- The tasks, as they came. -/
def tasksJ (l : List J5) : List Int := l.foldl (fun ts j => if j.t ∈ ts then ts else ts ++ [j.t]) []
theorem tasksJ_snoc (l : List J5) (j : J5) : tasksJ (l ++ [j]) = if j.t ∈ tasksJ l then tasksJ l else tasksJ l ++ [j.t] := by
  unfold tasksJ; rw [List.foldl_append]; rfl
theorem tasksJ_mem (l : List J5) (t : Int) : t ∈ tasksJ l ↔ t ∈ l.map J5.t := by
  induction l using snocInd with
  | nil => simp [tasksJ]
  | append_singleton l j ih =>
    rw [tasksJ_snoc, List.map_append, List.mem_append]
    split
    · rename_i h
      rw [ih]
      constructor
      · exact fun h => .inl h
      · rintro (h2 | h2)
        · exact h2
        · simp at h2; subst h2; exact ih.1 h
    · simp [ih]
theorem tasksJ_nodup (l : List J5) : (tasksJ l).Nodup := by
  induction l using snocInd with
  | nil => simp [tasksJ]
  | append_singleton l j ih =>
    rw [tasksJ_snoc]
    split
    · exact ih
    · rename_i h
      exact List.nodup_append.2 ⟨ih, by simp, fun a ha b hb e => by simp at hb; subst hb; subst e; exact h ha⟩
theorem tasksJ_len (l : List J5) : (tasksJ l).length ≤ l.length := by
  induction l using snocInd with
  | nil => simp [tasksJ]
  | append_singleton l j ih => rw [tasksJ_snoc]; split <;> simp <;> omega
/-- The tasks, in their order. -/
def insS (ts : List Int) (k : Nat) (t : Int) : List Int := ts.take k ++ [t] ++ ts.drop k
def plcS : List Int → Int → Nat
  | [], _ => 0
  | x :: r, t => if x < t then plcS r t + 1 else 0
theorem plcS_le (ts : List Int) (t : Int) : plcS ts t ≤ ts.length := by
  induction ts with
  | nil => exact Nat.le_refl _
  | cons x r ih => unfold plcS; split <;> simp <;> omega
theorem plcS_lt {ts : List Int} {t x : Int} {i : Nat} (h : i < plcS ts t) (hx : ts[i]? = some x) : x < t := by
  induction ts generalizing i with
  | nil => simp at hx
  | cons y r ih =>
    unfold plcS at h
    split at h
    · rename_i hy
      cases i with
      | zero => simp at hx; omega
      | succ i => exact ih (i := i) (by omega) (by simpa using hx)
    · omega
theorem plcS_ge {ts : List Int} {t x : Int} (hx : ts[plcS ts t]? = some x) : ¬ x < t := by
  induction ts with
  | nil => simp at hx
  | cons y r ih =>
    unfold plcS at hx
    split at hx
    · exact ih (by simpa using hx)
    · simp at hx; omega
def sortT (l : List J5) : List Int := l.foldl (fun ts j => if j.t ∈ ts then ts else insS ts (plcS ts j.t) j.t) []
theorem sortT_snoc (l : List J5) (j : J5) : sortT (l ++ [j]) = if j.t ∈ sortT l then sortT l else insS (sortT l) (plcS (sortT l) j.t) j.t := by
  unfold sortT; rw [List.foldl_append]; rfl
theorem insS_mem (ts : List Int) (k : Nat) (t x : Int) : x ∈ insS ts k t ↔ x = t ∨ x ∈ ts := by
  unfold insS
  have h : x ∈ ts ↔ x ∈ ts.take k ∨ x ∈ ts.drop k := by rw [← List.mem_append, List.take_append_drop]
  rw [h]
  simp only [List.mem_append, List.mem_singleton]
  constructor
  · rintro ((h | h) | h) <;> simp [h]
  · rintro (h | h | h) <;> simp [h]
theorem insS_sorted {ts : List Int} {t : Int} (h : ts.Pairwise (· < ·)) (ht : t ∉ ts) : (insS ts (plcS ts t) t).Pairwise (· < ·) := by
  induction ts with
  | nil => simp [insS]
  | cons y r ih =>
    obtain ⟨h1, h2⟩ := List.pairwise_cons.1 h
    have hne : t ≠ y := fun e => ht (by simp [e])
    unfold plcS
    split
    · rename_i hy
      have e : insS (y :: r) (plcS r t + 1) t = y :: insS r (plcS r t) t := by simp [insS]
      rw [e]
      refine List.pairwise_cons.2 ⟨fun x hx => ?_, ih h2 (fun e => ht (by simp [e]))⟩
      rcases (insS_mem _ _ _ _).1 hx with rfl | hx
      · exact hy
      · exact h1 x hx
    · have e : insS (y :: r) 0 t = t :: y :: r := by simp [insS]
      rw [e]
      refine List.pairwise_cons.2 ⟨fun x hx => ?_, h⟩
      rcases List.mem_cons.1 hx with rfl | hx
      · omega
      · have := h1 x hx; omega
theorem sortT_mem (l : List J5) (t : Int) : t ∈ sortT l ↔ t ∈ l.map J5.t := by
  induction l using snocInd with
  | nil => simp [sortT]
  | append_singleton l j ih =>
    rw [sortT_snoc, List.map_append, List.mem_append]
    split
    · rename_i h
      rw [ih]
      constructor
      · exact fun h => .inl h
      · rintro (h2 | h2)
        · exact h2
        · simp at h2; subst h2; exact ih.1 h
    · rw [insS_mem, ih]
      simp
      constructor
      · rintro (h | h)
        · exact .inr h
        · exact .inl h
      · rintro (h | h)
        · exact .inr h
        · exact .inl h
theorem sortT_sorted (l : List J5) : (sortT l).Pairwise (· < ·) := by
  induction l using snocInd with
  | nil => simp [sortT]
  | append_singleton l j ih =>
    rw [sortT_snoc]
    split
    · exact ih
    · rename_i h
      exact insS_sorted ih h
theorem sorted_eq {a b : List Int} (ha : a.Pairwise (· < ·)) (hb : b.Pairwise (· ≤ ·)) (hp : a.Perm b) : a = b := by
  refine List.Perm.eq_of_pairwise (le := fun x y : Int => x ≤ y) (fun x y _ _ h1 h2 => by omega) (ha.imp (fun h => by omega)) hb hp
theorem sortT_perm (l : List J5) : (sortT l).Perm (tasksJ l) :=
  (List.perm_ext_iff_of_nodup ((sortT_sorted l).imp (fun h => by omega)) (tasksJ_nodup l)).2 (fun x => by rw [sortT_mem, tasksJ_mem])
theorem sortT_len (l : List J5) : (sortT l).length ≤ l.length := by rw [(sortT_perm l).length_eq]; exact tasksJ_len l
/-- The tasks as they came, sorted. -/
theorem tasks_sort {l : List J5} {ss : List Int} (h : ss.Perm (tasksJ l)) : ss.mergeSort (fun x y => decide (x ≤ y)) = sortT l := by
  refine (sorted_eq (sortT_sorted l) ?_ ((sortT_perm l).trans (h.symm.trans (List.mergeSort_perm _ _).symm))).symm
  have := List.pairwise_mergeSort (le := fun x y : Int => decide (x ≤ y)) (fun a b c h1 h2 => by simp only [decide_eq_true_eq] at *; omega) (fun a b => by simp only [Bool.or_eq_true, decide_eq_true_eq]; omega) ss
  exact this.imp (fun h => of_decide_eq_true h)
end Go.Proofs.Ythjebjegedgoeaa
