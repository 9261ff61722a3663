/-
  The document's ports: one port's cells by name; Write of a sample.
-/
import Derived.Test.YtnhgmommehjeoaaPortQ
namespace Go.Proofs.Ytnhgmommehjeoaa
open Go.RowKit
attribute [local go_sem] max_ints min_ints

/-- The blocks that hold the document's ports. -/
def PB (w : World) (b k : Nat) : Prop := b ≤ k ∧ ∃ cs, Blk w k 74 cs
/-- One port's cells, the slice's value and the rows named. -/
theorem RPY.pick {w : World} {b P : Nat} {v : Value} {ys : List (PM × Value)} (h : RPY w b P v ys) (i : Nat) (m : PM) (L : Value) (hy : ys[i]? = some (m, L)) :
    ∃ bb o cap, v = .slice (some ⟨bb, o, none⟩) ys.length cap ∧ w.cell? ⟨P, 0, none⟩ = some (.slice (some ⟨bb, o, none⟩) ys.length cap) ∧ (PB w b bb ∧ bb < w.heap.size) ∧ (∀ j, w.frozen? ⟨bb, j, none⟩ = false) ∧
      w.cell? ⟨bb, o + i * 7, none⟩ = some (.bool m.c.q) ∧ w.cell? ⟨bb, o + i * 7 + 1, none⟩ = some (.int .i64 m.c.f) ∧ w.cell? ⟨bb, o + i * 7 + 2, none⟩ = some (.int .i64 m.c.t) ∧ w.cell? ⟨bb, o + i * 7 + 3, none⟩ = some (.int .i64 m.c.sz) ∧
      w.cell? ⟨bb, o + i * 7 + 4, none⟩ = some L ∧ w.cell? ⟨bb, o + i * 7 + 5, none⟩ = some (.int .i64 m.lost) ∧ w.cell? ⟨bb, o + i * 7 + 6, none⟩ = some (.int .i64 m.at_) := by
  obtain ⟨h1, h2, h3, h4⟩ := h
  have hil := (List.getElem?_eq_some_iff.1 hy).1
  obtain ⟨bb, o, cap, rfl, hb1, hb2, _, _⟩ := SlR.form h3 (by omega)
  refine ⟨bb, o, cap, rfl, h1.cell 0, ⟨⟨hb1, (Sl.blk h3 bb rfl).2.2⟩, hb2⟩, fun j => Sl.frozen h3 j, ?_, SlR.cell encP_len h3 i _ hy 1 _ rfl, SlR.cell encP_len h3 i _ hy 2 _ rfl, SlR.cell encP_len h3 i _ hy 3 _ rfl, SlR.cell encP_len h3 i _ hy 4 _ rfl, SlR.cell encP_len h3 i _ hy 5 _ rfl, SlR.cell encP_len h3 i _ hy 6 _ rfl⟩
  have := SlR.cell encP_len h3 i _ hy 0 _ rfl
  rwa [Nat.add_zero] at this
theorem RPY.row {w : World} {b P : Nat} {v : Value} {ys : List (PM × Value)} (h : RPY w b P v ys) (i : Nat) (m : PM) (L : Value) (hy : ys[i]? = some (m, L)) : SlR encI w b 3 1 L m.xs := h.2.2.2 _ (List.mem_of_getElem? hy)
theorem RPY.at_ {ms : List PM} {ys : List (PM × Value)} (h : ys.map Prod.fst = ms) (i : Nat) (m : PM) (hm : ms[i]? = some m) : ∃ L, ys[i]? = some (m, L) := by
  subst h
  rw [List.getElem?_map] at hm
  cases hy : ys[i]? with
  | none => rw [hy] at hm; cases hm
  | some y =>
    rw [hy] at hm
    obtain ⟨m', L⟩ := y
    injection hm with hm
    simp only at hm
    subst hm
    exact ⟨L, rfl⟩
theorem RPY.st {w : World} {b P bb o n cap : Nat} {ys : List (PM × Value)} (h : RPY w b P (.slice (some ⟨bb, o, none⟩) n cap) ys) (i : Nat) (y y' : PM × Value) (hy : ys[i]? = some y) (j : Nat) (hj : j < 7) (u : Value) (he : encP y' = (encP y).set j u)
    (hL : SlR encI w b 3 1 y'.2 y'.1.xs) : RPY (w.setCell ⟨bb, o + i * 7 + j, none⟩ u) b P (.slice (some ⟨bb, o, none⟩) n cap) (ys.set i y') := by
  have := h.store i y y' hy j hj u he hL
  rwa [← Nat.add_assoc] at this
theorem RPY.fz {w : World} {b P bb o n cap : Nat} {ys : List (PM × Value)} (h : RPY w b P (.slice (some ⟨bb, o, none⟩) n cap) ys) : ∀ j, w.frozen? ⟨bb, j, none⟩ = false := by
  obtain ⟨_, _, h3, _⟩ := h
  obtain ⟨A, c, e⟩ := h3.shape
  injection e with e1 e2 e3
  subst e2
  exact fun j => Sl.frozen h3 j
theorem RPY.cl {w : World} {b P bb o n cap : Nat} {ys : List (PM × Value)} (h : RPY w b P (.slice (some ⟨bb, o, none⟩) n cap) ys) (i : Nat) (y : PM × Value) (hy : ys[i]? = some y) (j : Nat) (u : Value) (hu : (encP y)[j]? = some u) : w.cell? ⟨bb, o + i * 7 + j, none⟩ = some u := by
  obtain ⟨_, _, h3, _⟩ := h
  obtain ⟨A, c, e⟩ := h3.shape
  injection e with e1 e2 e3
  subst e2
  exact SlR.cell encP_len h3 i y hy j u hu
theorem encI_one (x : Int) : ∀ u ∈ encI x, u.oneCell' = true := by intro u hu; simp [encI] at hu; subst hu; rfl
/-- A new list of one number. -/
theorem one_new (w : World) (b : Nat) (hb : b ≤ w.heap.size) (v : Int) : SlR encI (w.alloc (.cells #[.int .i64 v] 3)) b 3 1 (.slice (some ⟨w.heap.size, 0, none⟩) 1 1) [v] := by
  refine ⟨rfl, .inr ⟨w.heap.size, 0, 1, _, rfl, hb, Blk.new w _ _, Nat.le_refl _, by decide, by simp, fun j u hu => ?_⟩⟩
  have hu' : ([Value.int .i64 v] : List Value)[j]? = some u := hu
  simpa using hu'

set_option maxHeartbeats 1600000 in
theorem rWriteS (w : World) (b P : Nat) (ms : List PM) (h : RPS w b P ms) (i : Nat) (m : PM) (hm : ms[i]? = some m) (hq : m.c.q = false) (v now : Int) :
    Calls Try.prog 16 #[.pointer (some ⟨P, 0, none⟩), .int .i64 m.c.f, .int .i64 i, .int .i64 v, .int .i64 now] w fun e w' => e = .returned (.int .i64 0) ∧ RPS w' b P (ms.set i (m.put v now)) ∧ Upd (PB w b) w w' := by
  obtain ⟨sv, ys, hY, hys⟩ := h.rpy
  obtain ⟨L, hy⟩ := RPY.at_ hys i m hm
  obtain ⟨bb, o, cap, rfl, c0, hbb, hfz, e0, e1, e2, e3, e4, e5, e6⟩ := hY.pick i m L hy
  have hil := (List.getElem?_eq_some_iff.1 hy).1
  have d0 : decide ((i : Int) < 0) = false := decide_eq_false (by omega)
  have d1 : decide ((ys.length : Int) ≤ (i : Int)) = false := decide_eq_false (by omega)
  rw [hq] at e0
  obtain ⟨AL, cL, hLs⟩ := (hY.row i m L hy).shape
  rw [hLs] at e4
  have hw : b ≤ w.heap.size := by have := hbb.1.1; omega
  let wa := w.alloc (.cells #[.int .i64 v] 3)
  let y1 : PM × Value := ({ m with xs := [v] }, .slice (some ⟨w.heap.size, 0, none⟩) 1 1)
  let y2 : PM × Value := ({ m with xs := [v], at_ := now }, .slice (some ⟨w.heap.size, 0, none⟩) 1 1)
  have U5 : Upd (fun _ => False) w wa := (Upd.refl _ w).alloc _
  have hY5 : RPY wa b P _ ys := hY.upd U5 (fun _ _ _ h => h)
  have hN : SlR encI wa b 3 1 y1.2 y1.1.xs := one_new w b hw v
  have hY6 := hY5.st i (m, L) y1 hy 4 (by decide) y1.2 rfl hN
  have hlt : i < ys.length := hil
  have hy1 : (ys.set i y1)[i]? = some y1 := List.getElem?_set_self hlt
  have f5 := hY5.fz
  have g5 := hY5.cl i (m, L) hy 4 L rfl
  have f6 := hY6.fz
  have g6 := hY6.cl i y1 hy1 6 (.int .i64 m.at_) rfl
  have hN6 : SlR encI (wa.setCell ⟨bb, o + i * 7 + 4, none⟩ y1.2) b 3 1 y2.2 y2.1.xs := hY6.row i y1.1 y1.2 hy1
  have hY7 := hY6.st i y1 y2 hy1 6 (by decide) (.int .i64 now) rfl hN6
  rw [List.set_set] at hY7
  have HY7 := Lib.hid hY7.rps
  have HU := Lib.hid (((U5.mono (fun _ _ h => h.elim)).setCell (S := PB w b) (p := ⟨bb, o + i * 7 + 4, none⟩) (fun _ => hbb.1) y1.2).setCell (p := ⟨bb, o + i * 7 + 6, none⟩) (fun _ => hbb.1) (.int .i64 now))
  have Hq := Lib.hid hq
  have Hys := Lib.hid hys
  rw [hLs] at g5
  clear h hm hq hY hys hy hbb hLs hY5 hN hY6 hy1 hN6 hY7 U5
  simp only [wa, y1, y2] at f5 g5 f6 g6 HY7 HU
  clear wa y1 y2
  go_enter Try.func16, Try.ntmps16
  go_wp2_with fail
  go_returns
  refine ⟨rfl, ?_, HU.out⟩
  have := HY7.out
  have hp : m.put v now = { m with xs := [v], at_ := now } := by unfold PM.put; rw [if_neg (by rw [Hq.out]; decide)]
  rw [hp, ← Hys.out]
  rw [List.map_set] at this
  exact this
end Go.Proofs.Ytnhgmommehjeoaa
