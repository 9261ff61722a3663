/-
  The cells of a list of things that take as many cells each.
-/
import Derived.Test.YtcgefncddbbnlaaSl
namespace Go.Proofs.Ytcgefncddbbnlaa
open Go.RowKit

def rws {α : Type} (enc : α → List Value) (xs : List α) : List Value := xs.flatMap enc
section
variable {α : Type} {enc : α → List Value} {size : Nat}
theorem rws_nil : rws enc [] = [] := rfl
theorem rws_cons (x : α) (xs : List α) : rws enc (x :: xs) = enc x ++ rws enc xs := by simp [rws]
theorem rws_one (x : α) : rws enc [x] = enc x := by simp [rws]
theorem rws_append (xs ys : List α) : rws enc (xs ++ ys) = rws enc xs ++ rws enc ys := by simp [rws]
theorem rws_len (h : ∀ x, (enc x).length = size) : ∀ xs : List α, (rws enc xs).length = xs.length * size
  | [] => by simp [rws]
  | x :: t => by rw [rws_cons, List.length_append, h, rws_len h t, List.length_cons, Nat.add_mul, Nat.one_mul]; omega
theorem rws_at (h : ∀ x, (enc x).length = size) : ∀ (xs : List α) (i : Nat) (x : α), xs[i]? = some x → ∀ j, j < size → (rws enc xs)[i * size + j]? = (enc x)[j]?
  | [], i, x, hx, _, _ => by simp at hx
  | y :: t, 0, x, hx, j, hj => by
    simp at hx; subst hx
    rw [rws_cons, List.getElem?_append_left (by rw [h]; omega)]
    congr 1; omega
  | y :: t, i + 1, x, hx, j, hj => by
    rw [rws_cons, List.getElem?_append_right (by rw [h, Nat.add_mul, Nat.one_mul]; omega), h]
    have := rws_at h t i x (by simpa using hx) j hj
    rw [show (i + 1) * size + j - size = i * size + j by rw [Nat.add_mul, Nat.one_mul]; omega]
    exact this
theorem rws_drop (h : ∀ x, (enc x).length = size) : ∀ (n : Nat) (xs : List α), (rws enc xs).drop (n * size) = rws enc (xs.drop n)
  | 0, xs => by simp
  | n + 1, [] => by simp [rws]
  | n + 1, x :: t => by
    rw [rws_cons, List.drop_succ_cons, ← rws_drop h n t, List.drop_append, h, show (n + 1) * size - size = n * size by rw [Nat.add_mul, Nat.one_mul]; omega,
      List.drop_eq_nil_of_le (by rw [h, Nat.add_mul, Nat.one_mul]; omega), List.nil_append]
theorem rws_drop1 (h : ∀ x, (enc x).length = size) (x : α) (t : List α) : (rws enc (x :: t)).drop size = rws enc t := by
  have := rws_drop h 1 (x :: t)
  simpa using this
theorem rws_take (h : ∀ x, (enc x).length = size) : ∀ (n : Nat) (xs : List α), (rws enc xs).take (n * size) = rws enc (xs.take n)
  | 0, xs => by simp [rws]
  | n + 1, [] => by simp [rws]
  | n + 1, x :: t => by
    rw [rws_cons, List.take_succ_cons, rws_cons, ← rws_take h n t, List.take_append, h, show (n + 1) * size - size = n * size by rw [Nat.add_mul, Nat.one_mul]; omega,
      List.take_of_length_le (by rw [h, Nat.add_mul, Nat.one_mul]; omega)]
/-- One cell of the i-th thing. -/
theorem rws_set (h : ∀ x, (enc x).length = size) (xs : List α) (i : Nat) (x y : α) (j : Nat) (u : Value) (hx : xs[i]? = some x) (hj : j < size) (hy : enc y = (enc x).set j u) : (rws enc xs).set (i * size + j) u = rws enc (xs.set i y) := by
  induction xs generalizing i with
  | nil => simp at hx
  | cons z t ih =>
    cases i with
    | zero =>
      simp at hx; subst hx
      rw [List.set_cons_zero, rws_cons, rws_cons, List.set_append_left _ _ (by rw [h]; omega), hy]
      congr 2; omega
    | succ i =>
      rw [List.set_cons_succ, rws_cons, rws_cons, ← ih i (by simpa using hx), List.set_append_right _ _ (by rw [h, Nat.add_mul, Nat.one_mul]; omega), h]
      congr 2
      rw [Nat.add_mul, Nat.one_mul]; omega
theorem rws_one_cell (h : ∀ x, ∀ u ∈ enc x, u.oneCell' = true) (xs : List α) : ∀ u ∈ rws enc xs, u.oneCell' = true := by
  intro u hu
  simp [rws] at hu
  obtain ⟨x, _, hx⟩ := hu
  exact h x u hx
end

/-- The things that a slice of the call's own holds. -/
def SlR {α : Type} (enc : α → List Value) (w : World) (base : Nat) (t : TypeId) (size : Nat) (v : Value) (xs : List α) : Prop := Sl w base t size v xs.length (rws enc xs)
section
variable {α : Type} {enc : α → List Value} {w w' : World} {base size b off cap n : Nat} {t : TypeId} {v : Value} {xs : List α}
theorem SlR.nil : SlR enc w base t size (.slice none 0 0) ([] : List α) := Sl.nil _ _ _ _
theorem SlR.upd {S : Nat → Prop} (h : SlR enc w base t size v xs) (hu : Upd S w w') (hs : ∀ k, slBlk v = some k → ¬ S k) : SlR enc w' base t size v xs := Sl.upd h hu hs
theorem SlR.still (h : SlR enc w base t size v xs) (hu : Upd (fun _ => False) w w') : SlR enc w' base t size v xs := Sl.upd h hu (fun _ _ h => h)
theorem SlR.drewN (h : SlR enc w base t size v xs) (k : Nat) : SlR enc (w.drewN k) base t size v xs := Sl.drewN h k
theorem SlR.alloc (h : SlR enc w base t size v xs) (o : Obj) : SlR enc (w.alloc o) base t size v xs := Sl.alloc h o
theorem SlR.cell (he : ∀ x, (enc x).length = size) (h : SlR enc w base t size (.slice (some ⟨b, off, none⟩) n cap) xs) (i : Nat) (x : α) (hx : xs[i]? = some x) (j : Nat) (u : Value) (hu : (enc x)[j]? = some u) : w.cell? ⟨b, off + i * size + j, none⟩ = some u := by
  have hn : n = xs.length := by
    rcases h.2 with ⟨h1, _⟩ | ⟨_, _, _, _, h1, _⟩
    · cases h1
    · injection h1
  subst hn
  have hj : j < size := by rw [← he x]; exact (List.getElem?_eq_some_iff.1 hu).1
  rw [Nat.add_assoc]
  exact Sl.cell h _ u ((rws_at he xs i x hx j hj).trans hu)
theorem SlR.frozen (h : SlR enc w base t size (.slice (some ⟨b, off, none⟩) n cap) xs) (j : Nat) : w.frozen? ⟨b, j, none⟩ = false := by
  have hn : n = xs.length := by
    rcases h.2 with ⟨h1, _⟩ | ⟨_, _, _, _, h1, _⟩
    · cases h1
    · injection h1
  subst hn
  exact Sl.frozen h j
theorem SlR.shape (h : SlR enc w base t size v xs) : ∃ A cap, v = .slice A xs.length cap := Sl.shape h
theorem SlR.form (h : SlR enc w base t size v xs) (hn : 0 < xs.length) : ∃ b off cap, v = .slice (some ⟨b, off, none⟩) xs.length cap ∧ base ≤ b ∧ b < w.heap.size ∧ xs.length ≤ cap ∧ cap ≤ maxLen := Sl.form h hn
theorem SlR.mono {base' : Nat} (h : SlR enc w base t size v xs) (hb : base' ≤ base) : SlR enc w base' t size v xs := Sl.mono h hb
end

theorem slBlk_eq {a : Addr} {n c k : Nat} (hk : slBlk (.slice (some a) n c) = some k) : a.block = k := by simpa [slBlk] using hk

/-- 's[1:]': a value, and what it holds. -/
theorem Sl.tailv {P : Program} {w : World} {base size m : Nat} {t ts : TypeId} {b off cap : Nat} {xs ys : List Value} (hts : P.underlying ts = some (.slice (P.elem ts))) (hsz : ∀ w, (sizeOf (P.elem ts)).run P w = .ok size w)
    (h : Sl w base t size (.slice (some ⟨b, off, none⟩) (m + 1) cap) (m + 1) xs) (hy : xs.drop size = ys) :
    ∃ v', (∀ w', (Instr.sliceAt ts (.slice (some ⟨b, off, none⟩) (m + 1) cap) (some (.int .i64 1)) none none).run P w' = .ok v' w') ∧ Sl w base t size v' m ys ∧ slBlk v' = some b := by
  have hr : ∀ w', (Instr.sliceAt ts (.slice (some ⟨b, off, none⟩) (m + 1) cap) (some (.int .i64 1)) none none).run P w' = .ok (sliced (some ⟨b, off, none⟩) 1 (m + 1) cap size) w' := fun w' => by
    rw [run_sliceAt_slice (h := hts), run_slice_l (ht := hts) (h0 := by omega) (h1 := by omega), hsz]
    rfl
  refine ⟨_, hr, ?_⟩
  unfold sliced
  by_cases hcap : cap = 1
  · subst hcap
    obtain ⟨rfl, h2, h3⟩ := h.tail1
    subst hy
    rw [h2]
    exact ⟨h3, rfl⟩
  · rw [if_neg hcap]
    exact ⟨by have := h.tail hy hcap; simpa [Addr.add_lit] using this, by simp [slBlk, Addr.add_lit]⟩

/-- 's[:k]': a value, and what it holds. -/
theorem Sl.headv {P : Program} {w : World} {base size n k : Nat} {t ts : TypeId} {b off cap : Nat} {xs ys : List Value} (hts : P.underlying ts = some (.slice (P.elem ts))) (hsz : ∀ w, (sizeOf (P.elem ts)).run P w = .ok size w)
    (h : Sl w base t size (.slice (some ⟨b, off, none⟩) n cap) n xs) (hk : k ≤ n) (hy : xs.take (k * size) = ys) :
    (∀ w', (Instr.sliceAt ts (.slice (some ⟨b, off, none⟩) n cap) none (some (.int .i64 k)) none).run P w' = .ok (.slice (some ⟨b, off, none⟩) k cap) w') ∧ Sl w base t size (.slice (some ⟨b, off, none⟩) k cap) k ys := by
  obtain ⟨h0, hb, hn, hc, cur, h1, h2, h3⟩ := h.parts
  refine ⟨fun w' => ?_, ?_, .inr ⟨b, off, cap, cur, rfl, hb, h1, by omega, hc, h2, fun j u hu => ?_⟩⟩
  · rw [run_sliceAt_slice (h := hts), run_slice_h (ht := hts) (h0 := by omega) (h2 := by omega), hsz]
    simp [Result.andThen, sliced, Addr.add_lit]
  · subst hy
    rw [List.length_take, h0]
    exact Nat.min_eq_left (Nat.mul_le_mul_right _ hk)
  · subst hy
    rw [List.getElem?_take] at hu
    split at hu
    · exact h3 j u hu
    · cases hu

/-- 'clear(s[i:])': the head stays. -/
theorem Sl.clear {P : Program} {w : World} {base size n i : Nat} {t ts : TypeId} {b off cap : Nat} {xs ys : List Value} {z : Value} (hts : P.underlying ts = some (.slice t)) (hz : ∀ w, (zeroValue t).run P w = .ok z w) (hzs : z.cells.size = size) (h1 : ∀ u ∈ z.cells.toList, u.oneCell' = true) (hsz : 0 < size)
    (h : Sl w base t size (.slice (some ⟨b, off, none⟩) n cap) n xs) (hi : i < n) (hy : xs.take (i * size) = ys) :
    ∃ W, (∀ ty, (Builtin.clear_ #[ts] ty #[.slice (some ⟨b, off + i * size, none⟩) (n - i) (cap - i)]).run P w = .ok (.tuple #[]) W) ∧ Sl W base t size (.slice (some ⟨b, off, none⟩) i cap) i ys ∧ Upd (fun k => k = b) w W := by
  obtain ⟨h0, hb, hn, hc, cur, g1, g2, g3⟩ := h.parts
  have hmul : i * size + (n - i) * size = n * size := by rw [← Nat.add_mul]; congr 1; omega
  have hle : n * size ≤ cap * size := Nat.mul_le_mul_right _ hn
  have hzl : (Builtin.zeroCells z.cells (n - i)).toList.length = (n - i) * size := by simp [Builtin.zeroCells, hzs]
  have hz1 : ∀ u ∈ (Builtin.zeroCells z.cells (n - i)).toList, u.oneCell' = true := by
    intro u hu
    simp only [Builtin.zeroCells, Array.toList_map, List.mem_map] at hu
    obtain ⟨j, _, rfl⟩ := hu
    have hjl : j % z.cells.size < z.cells.size := Nat.mod_lt _ (by omega)
    rw [getElem!_pos z.cells _ hjl]
    exact h1 _ (by simp)
  generalize hZ : (Builtin.zeroCells z.cells (n - i)).toList = Z at *
  have hst := run_storeCells_cells (P := P) b (off + i * size) Z 0 w
    (fun j hj => by rw [Nat.add_zero, g1.cell, Array.getElem?_eq_getElem (by omega)]; rfl) (fun j hj => g1.frozen _) hz1
  obtain ⟨cs', k1, k2, k3, k4⟩ := blk_putCells b t Z (off + i * size) w cur g1 (by omega)
  refine ⟨w.setCells b (off + i * size) Z, fun ty => ?_, ⟨?_, .inr ⟨b, off, cap, cs', rfl, hb, k1, by omega, hc, by omega, fun j u hu => ?_⟩⟩, (upd_putCells b Z _ w).mono (fun k _ hk => (Option.some.inj hk).symm)⟩
  · simp only [Nat.add_zero] at hst
    obtain ⟨m, hm⟩ : ∃ m, n - i = m + 1 := ⟨n - i - 1, by omega⟩
    rw [hm] at hZ ⊢
    simp [Builtin.clear_, run_underlying hts, hz, hZ, hst]
  · subst hy
    rw [List.length_take, h0]
    exact Nat.min_eq_left (Nat.mul_le_mul_right _ (by omega))
  · subst hy
    rw [List.getElem?_take] at hu
    split at hu
    next hj => rw [k4 _ (by omega)]; exact g3 j u hu
    next => cases hu
end Go.Proofs.Ytcgefncddbbnlaa
