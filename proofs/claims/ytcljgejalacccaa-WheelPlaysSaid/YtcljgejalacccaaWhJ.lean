/-
  The wheel: what a tick's loop carries; the sort behind it.
-/
import Derived.Test.YtcljgejalacccaaWhH
namespace Go.Proofs.Ytcljgejalacccaa
open Go.RowKit Go.Shelf Go.Sort
attribute [local go_sem] max_ints min_ints

theorem sort_is {l ys : List Nat} (hp : l.Perm ys) (hs : ys.Pairwise (· < ·)) : (l.map (fun i : Nat => (i : Int))).mergeSort (fun x y => decide (x ≤ y)) = ys.map (fun i : Nat => (i : Int)) := by
  refine List.Perm.eq_of_pairwise (le := fun x y : Int => x ≤ y) (fun a b _ _ h1 h2 => Int.le_antisymm h1 h2) ?_ ?_ ?_
  · refine (List.pairwise_mergeSort (le := fun x y : Int => decide (x ≤ y)) (fun a b c h1 h2 => ?_) (fun a b => ?_) _).imp (fun h => of_decide_eq_true h)
    · exact decide_eq_true (Int.le_trans (of_decide_eq_true h1) (of_decide_eq_true h2))
    · rcases Int.le_total a b with h | h <;> simp [h]
  · exact List.pairwise_map.2 (hs.imp (fun h => by omega))
  · exact (List.mergeSort_perm _ _).trans (hp.map _)

theorem Blk.cells_of {w : World} {k : Nat} {t : TypeId} {cs : Array Value} (h : Blk w k t cs) {o : Obj} (ho : w.heap[k]? = some o) : o.isCells = true := by
  unfold Blk at h
  rw [h] at ho
  injection ho with ho
  subst ho
  rfl
theorem KeepsOthers.of_upd {S : Nat → Prop} {W W' : World} (h : Upd S W W') (hS : ∀ k o, W.heap[k]? = some o → o.isCells = false → ¬ S k) : KeepsOthers W W' :=
  ⟨h.size, fun k o hk ho => (h.block k (Array.getElem?_eq_some_iff.1 hk).1 (hS k o hk ho)).trans hk⟩
/-- What isn't cells. -/
def NonC (W : World) (k : Nat) : Prop := ∃ o : Obj, W.heap[k]? = some o ∧ o.isCells = false
theorem NonC.not {W : World} {k : Nat} {t : TypeId} {cs : Array Value} (h : Blk W k t cs) : ¬ NonC W k := fun ⟨o, ho, hc⟩ => by rw [h.cells_of ho] at hc; cases hc
theorem NonC.lt {W : World} {k : Nat} (h : NonC W k) : k < W.heap.size := by obtain ⟨o, ho, _⟩ := h; exact (Array.getElem?_eq_some_iff.1 ho).1
theorem WhR.keptC {W W' : World} {g now n : Nat} {V : Nat → Value} {at_ : Nat → Int} {sl : Nat → List Nat} {N S : Nat → Prop} (h : WhR W g now V at_ n sl N) (hu : Upd S W W') (hS : ∀ k t cs, Blk W k t cs → ¬ S k) : WhR W' g now V at_ n sl N := by
  refine ⟨h.b.upd hu ?_, fun j hj => SlR.upd (h.s j hj) hu (fun k hk => ?_), h.d, h.ng, h.nk⟩
  · obtain ⟨cs, hb, _⟩ := h.b; exact hS g _ _ hb
  · obtain ⟨_, _, cur, hc⟩ := Sl.blk (h.s j hj) k hk; exact hS k _ _ hc
/-- Blocks that aren't cells may be added to N. -/
theorem WhR.plusC {W : World} {g now n : Nat} {V : Nat → Value} {at_ : Nat → Int} {sl : Nat → List Nat} {N : Nat → Prop} (h : WhR W g now V at_ n sl N) : WhR W g now V at_ n sl (fun k => N k ∨ NonC W k) := by
  refine h.setN (fun e => ?_) (fun j hj k hk e => ?_)
  · rcases e with e | e
    · exact h.ng e
    · obtain ⟨cs, hb, _⟩ := h.b; exact NonC.not hb e
  · rcases e with e | e
    · exact h.nk j hj k hk e
    · obtain ⟨_, _, cur, hc⟩ := Sl.blk (h.s j hj) k hk; exact NonC.not hc e

def Bx (bR k : Nat) : Prop := k = bR ∨ k = bR + 1 ∨ k = bR + 2
/-- Between two rounds. -/
def GoI (w : World) (N : Nat → Prop) (g b bR : Nat) (s : GSt) (W : World) : Prop :=
  ∃ Vf dv, WhR W g b Vf s.at_ s.n s.sl (fun k => (N k ∨ Bx bR k) ∨ slBlk dv = some k) ∧ Blk W bR 24 #[.pointer (some ⟨g, 0, none⟩)] ∧ Blk W (bR + 1) 30 #[dv] ∧ Blk W (bR + 2) 24 #[.pointer (some ⟨g, 0, none⟩)] ∧
    SlR encN W bR 3 1 dv s.due ∧ Upd (fun k => ¬ N k) w W
theorem GoI.kept {w W W' : World} {N : Nat → Prop} {g b bR : Nat} {s : GSt} {row : Option Nat} (h : GoI w N g b bR s W) (hg : W.grownBy W' row) (hr : ∀ r, row = some r → w.heap.size ≤ r ∧ ∃ o : Obj, W.heap[r]? = some o ∧ o.isCells = false) : GoI w N g b bR s W' := by
  obtain ⟨Vf, dv, h1, h2, h3, h4, h5, h6⟩ := h
  have hu : Upd (fun k => row = some k) W W' := (Upd.refl _ W).grown hg (fun k hk _ => hk)
  have hS : ∀ k t cs, Blk W k t cs → ¬ (row = some k) := fun k t cs hb e => by
    obtain ⟨_, o, ho, hc⟩ := hr k e
    rw [hb.cells_of ho] at hc; cases hc
  refine ⟨Vf, dv, h1.keptC hu hS, h2.upd hu (hS _ _ _ h2), h3.upd hu (hS _ _ _ h3), h4.upd hu (hS _ _ _ h4), SlR.upd h5 hu (fun k hk => ?_), h6.grown hg (fun k e hk => ?_)⟩
  · obtain ⟨_, _, cur, hc⟩ := Sl.blk h5 k hk; exact hS k _ _ hc
  · obtain ⟨hB, _⟩ := hr k e; omega
theorem GoI.turn {w W : World} {N : Nat → Prop} {g b bR : Nat} {s : GSt} (h : GoI w N g b bR s W) : TurnF g (bR + 2) b W := by
  obtain ⟨Vf, dv, h1, h2, h3, h4, h5, h6⟩ := h
  exact ⟨h4.cell 0, h1.b.cnow⟩
theorem rws_int (l : List Nat) : rws encN l = (l.map (fun i : Nat => (i : Int))).map (Value.int .i64) := by rw [rws_map, List.map_map]; rfl
/-- slices.Sort of the timers that are due. -/
theorem sortC (w : World) (base : Nat) (v : Value) (l ys : List Nat) (hs : SlR encN w base 3 1 v l) (hp : l.Perm ys) (hy : ys.Pairwise (· < ·)) (hl : l.length ≤ 1000) :
    Calls Try.prog 29 #[v] w fun e w' => e = .returned (.tuple #[]) ∧ SlR encN w' base 3 1 v ys ∧ Upd (fun k => slBlk v = some k) w w' := by
  by_cases h0 : l.length = 0
  · obtain rfl : l = [] := List.eq_nil_of_length_eq_zero h0
    obtain rfl : ys = [] := List.eq_nil_of_length_eq_zero (by rw [← hp.length_eq]; rfl)
    obtain ⟨A, cp, rfl⟩ := hs.shape
    refine Calls.mono (show Calls Try.prog 29 _ _ _ from AnyM.slices_Sort_int_none l29 A cp w) ?_
    rintro e w' ⟨rfl, rfl⟩
    exact ⟨rfl, hs, Upd.refl _ _⟩
  · obtain ⟨b, o, cp, rfl, _, hb, _, _⟩ := hs.form (by omega)
    have hs' : Sl w base 3 1 (.slice (some ⟨b, o, none⟩) l.length cp) l.length ((l.map (fun i : Nat => (i : Int))).map (Value.int .i64)) := by unfold SlR at hs; rwa [rws_int] at hs
    have hll : (l.map (fun i : Nat => (i : Int))).length = l.length := by simp
    have hH : Holds (Value.int .i64) w b o (l.map (fun i : Nat => (i : Int))).toArray := by
      have : Sl w base 3 1 (.slice (some ⟨b, o, none⟩) (l.map (fun i : Nat => (i : Int))).length cp) (l.map (fun i : Nat => (i : Int))).length ((l.map (fun i : Nat => (i : Int))).map (Value.int .i64)) := by rw [hll]; exact hs'
      exact this.holds
    have hcon := AnyM.slices_Sort_int l29 b o cp (l.map (fun i : Nat => (i : Int))) w hH hb (by rw [hll]; omega)
    rw [hll, sort_is hp hy] at hcon
    refine Calls.mono (show Calls Try.prog 29 _ _ _ from hcon) ?_
    rintro e w' ⟨rfl, q, os, rfl⟩
    have hU : Upd (fun k => k = b) w (Sort.putRow (Value.int .i64) (Sort.ahead w q) b o (ys.map (fun i : Nat => (i : Int))).toArray) := Upd.putRow _ _ _ _ _ _
    have hyl : ys.length = l.length := hp.length_eq.symm
    have hR := hs'.putRow (enc := Value.int .i64) (m := l.length) (ys := (ys.map (fun i : Nat => (i : Int))).map (Value.int .i64)) q (ys.map (fun i : Nat => (i : Int))).toArray (by simp [hyl]) (Nat.le_refl _) (by simp [hyl]) (fun j u hu => by
      have hj := (List.getElem?_eq_some_iff.1 hu).1
      rw [List.length_map] at hj
      rw [List.getElem?_map, List.getElem?_eq_getElem hj] at hu
      injection hu with hu
      rw [← hu, getElem!_pos _ j (by simpa using hj)]
      simp)
    refine ⟨rfl, ?_, (hU.mono (S' := fun k => slBlk (.slice (some ⟨b, o, none⟩) l.length cp) = some k) (fun k _ e => by rw [e]; rfl)).grow os⟩
    have hg : Upd (fun _ => False) (Sort.putRow (Value.int .i64) (Sort.ahead w q) b o (ys.map (fun i : Nat => (i : Int))).toArray) (Sort.grow (Sort.putRow (Value.int .i64) (Sort.ahead w q) b o (ys.map (fun i : Nat => (i : Int))).toArray) os) := (Upd.refl _ _).grow os
    unfold SlR
    rw [rws_int, hyl]
    exact Sl.upd hR hg (fun _ _ h => h)

/-! ### Within a round: one timer behind the other -/
def N1 (N : Nat → Prop) (bR : Nat) (dv lv : Value) (k : Nat) : Prop := ((N k ∨ Bx bR k) ∨ slBlk dv = some k) ∨ slBlk lv = some k
structure GoP (w : World) (N : Nat → Prop) (g b bR : Nat) (lst : List Nat) (lv : Value) (at_ : Nat → Int) (n : Nat) (sl : Nat → List Nat) (due : List Nat) (dv : Value) (Vk : Nat → Value) (wr : World) : Prop where
  r : WhR wr g b Vk at_ n sl (N1 N bR dv lv)
  b1 : Blk wr bR 24 #[.pointer (some ⟨g, 0, none⟩)]
  b2 : Blk wr (bR + 1) 30 #[dv]
  b3 : Blk wr (bR + 2) 24 #[.pointer (some ⟨g, 0, none⟩)]
  du : SlR encN wr bR 3 1 dv due
  dj : ∀ k, slBlk dv = some k → slBlk lv ≠ some k
  ls : SlR encN wr 0 3 1 lv lst
  u : Upd (fun k => ¬ N k) w wr
section
variable {w wr wr' : World} {N : Nat → Prop} {g b bR n n' : Nat} {lst due : List Nat} {lv dv : Value} {at_ at' : Nat → Int} {sl sl' : Nat → List Nat} {Vk V' : Nat → Value}
theorem GoP.lt (h : GoP w N g b bR lst lv at_ n sl due dv Vk wr) (hN : ∀ k, N k → k < w.heap.size) : ∀ k, N1 N bR dv lv k → k < wr.heap.size := fun k hk => by
  rcases hk with ((hk | hk) | hk) | hk
  · exact Nat.lt_of_lt_of_le (hN k hk) h.u.size
  · unfold Bx at hk
    rcases hk with rfl | rfl | rfl
    · exact h.b1.lt
    · exact h.b2.lt
    · exact h.b3.lt
  · exact (Sl.blk h.du k hk).2.1
  · exact (Sl.blk h.ls k hk).2.1
/-- The wheel alone has turned. -/
theorem GoP.wh (h : GoP w N g b bR lst lv at_ n sl due dv Vk wr) (h' : WhR wr' g b V' at' n' sl' (N1 N bR dv lv)) (hu : Upd (fun k => ¬ N1 N bR dv lv k) wr wr') : GoP w N g b bR lst lv at' n' sl' due dv V' wr' :=
  ⟨h', h.b1.upd hu (fun e => e (.inl (.inl (.inr (.inl rfl))))), h.b2.upd hu (fun e => e (.inl (.inl (.inr (.inr (.inl rfl)))))), h.b3.upd hu (fun e => e (.inl (.inl (.inr (.inr (.inr rfl)))))),
    SlR.upd h.du hu (fun _ hk e => e (.inl (.inr hk))), h.dj, SlR.upd h.ls hu (fun _ hk e => e (.inr hk)), h.u.trans (hu.mono (fun _ _ e hk => e (.inl (.inl (.inl hk)))))⟩
theorem GoP.drewN (h : GoP w N g b bR lst lv at_ n sl due dv Vk wr) (q : Nat) : GoP w N g b bR lst lv at_ n sl due dv Vk (wr.drewN q) := h.wh (h.r.drewN q) ((Upd.refl _ wr).drewN q)
theorem GoP.goI (h : GoP w N g b bR lst lv at_ n sl due dv Vk wr) (s : GSt) (e1 : s.at_ = at_) (e2 : s.n = n) (e3 : s.sl = sl) (e4 : s.due = due) : GoI w N g b bR s wr := by
  subst e1; subst e2; subst e3; subst e4
  exact ⟨Vk, dv, h.r.less (fun k hk => .inl hk), h.b1, h.b2, h.b3, h.du, h.u⟩
/-- One more that is due. -/
theorem GoP.app (h : GoP w N g b bR lst lv at_ n sl due dv Vk wr) (hB : w.heap.size = bR) (hN : ∀ k, N k → k < w.heap.size) (o : Obj) (id : Nat) {wZ : World} {v9 : Value} (hs : Sl wZ bR 3 1 v9 (due.length + 1) (rws encN due ++ [.int .i64 (id : Int)])) (hu : Upd (fun k => slBlk dv = some k) (wr.alloc o) wZ)
    (hv : ∀ k, slBlk v9 = some k → slBlk dv = some k ∨ (wr.alloc o).heap.size ≤ k) :
    GoP w N g b bR lst lv at_ n sl (due ++ [id]) v9 Vk (wZ.setCell ⟨bR + 1, 0, none⟩ v9) ∧ KeepsOthers wr (wZ.setCell ⟨bR + 1, 0, none⟩ v9) ∧ wZ.cell? ⟨bR + 1, 0, none⟩ = some dv ∧ wZ.frozen? ⟨bR + 1, 0, none⟩ = false := by
  have ua : Upd (fun _ => False) wr (wr.alloc o) := (Upd.refl _ wr).alloc o
  have ha : GoP w N g b bR lst lv at_ n sl due dv Vk (wr.alloc o) := h.wh (h.r.still ua) (ua.mono (fun _ _ h => h.elim))
  have hsz : wr.heap.size ≤ (wr.alloc o).heap.size := ua.size
  have hduT : ∀ k, slBlk dv = some k → ∃ cur, Blk (wr.alloc o) k 3 cur := fun k hk => (Sl.blk ha.du k hk).2.2
  have hb1 := ha.b1.upd hu (fun e => by obtain ⟨cur, hc⟩ := hduT _ e; exact ha.b1.ne_ hc (by decide) rfl)
  have hb2 := ha.b2.upd hu (fun e => by obtain ⟨cur, hc⟩ := hduT _ e; exact ha.b2.ne_ hc (by decide) rfl)
  have hb3 := ha.b3.upd hu (fun e => by obtain ⟨cur, hc⟩ := hduT _ e; exact ha.b3.ne_ hc (by decide) rfl)
  have hls := SlR.upd ha.ls hu (fun k hk e => ha.dj k e hk)
  have hr := ha.r.upd hu (fun k e _ => .inl (.inr e))
  have hU2 : Upd (fun k => k = bR + 1) wZ (wZ.setCell ⟨bR + 1, 0, none⟩ v9) := (Upd.refl (fun k => k = bR + 1) wZ).setCell (p := ⟨bR + 1, 0, none⟩) (fun _ => rfl) v9
  have hlv : ∀ k, slBlk lv = some k → k < wr.heap.size := fun k hk => (Sl.blk h.ls k hk).2.1
  have hr2 : WhR (wZ.setCell ⟨bR + 1, 0, none⟩ v9) g b Vk at_ n sl (N1 N bR v9 lv) := by
    have h0 := hr.upd hU2 (fun k e _ => by subst e; exact .inl (.inl (.inr (.inr (.inl rfl)))))
    refine h0.setN (fun e => ?_) (fun j hj k hk e => ?_)
    · rcases e with (e | e) | e
      · exact h0.ng (.inl (.inl e))
      · rcases hv g e with e | e
        · exact h0.ng (.inl (.inr e))
        · have := h.r.b.lt; omega
      · exact h0.ng (.inr e)
    · rcases e with (e | e) | e
      · exact h0.nk j hj k hk (.inl (.inl e))
      · rcases hv k e with e | e
        · exact h0.nk j hj k hk (.inl (.inr e))
        · have := (Sl.blk (h.r.s j hj) k hk).2.1; omega
      · exact h0.nk j hj k hk (.inr e)
  have hs' : SlR encN wZ bR 3 1 v9 (due ++ [id]) := by
    unfold SlR
    rw [List.length_append, rws_append]
    exact hs
  refine ⟨⟨hr2, hb1.upd hU2 (by omega), by simpa using hb2.set_ 0 v9, hb3.upd hU2 (by omega), SlR.upd hs' hU2 (fun k hk e => ?_), fun k hk hk2 => ?_, SlR.upd hls hU2 (fun k hk e => ?_), ?_⟩, ?_, hb2.cell 0, hb2.frozen 0⟩
  · obtain ⟨_, _, cur, hc⟩ := Sl.blk hs' k hk
    exact hc.ne_ hb2 (by decide) e
  · rcases hv k hk with e | e
    · exact h.dj k e hk2
    · have := hlv k hk2; omega
  · obtain ⟨_, _, cur, hc⟩ := Sl.blk hls k hk
    exact hc.ne_ hb2 (by decide) e
  · refine (ha.u.trans (hu.mono (fun k hk e hNk => ?_))).trans (hU2.mono (fun k hk e hNk => ?_))
    · have := hN k hNk
      have := (Sl.blk ha.du k e).1
      omega
    · have := hN k hNk; omega
  · refine ((KeepsOthers.alloc wr o).trans (KeepsOthers.of_upd hu (fun k o' ho hc e => ?_))).trans (KeepsOthers.setCell _ _ _)
    obtain ⟨cur, hb⟩ := hduT k e
    rw [hb.cells_of ho] at hc; cases hc
end
end Go.Proofs.Ytcljgejalacccaa
