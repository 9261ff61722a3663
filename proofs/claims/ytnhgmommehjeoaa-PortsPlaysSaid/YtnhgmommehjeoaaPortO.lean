/-
  The document's ports: the state; Waiting.
-/
import Derived.Test.YtnhgmommehjeoaaPortK
namespace Go.Proofs.Ytnhgmommehjeoaa
open Go.RowKit
attribute [local go_sem] max_ints min_ints

def encP (x : PM × Value) : List Value := [.bool x.1.c.q, .int .i64 x.1.c.f, .int .i64 x.1.c.t, .int .i64 x.1.c.sz, x.2, .int .i64 x.1.lost, .int .i64 x.1.at_]
theorem encP_len (x : PM × Value) : (encP x).length = 7 := rfl
theorem infoPR : (Try.prog.info? 74).map (fun i => (i.zero, i.size, i.bytes)) = some (some (.agg #[.bool false, .int .i64 0, .int .i64 0, .int .i64 0, .slice none 0 0, .int .i64 0, .int .i64 0]), 7, 72) := by kernel_rfl

/-- The document's ports at P; all of it lies from b on. -/
def RPS (w : World) (b P : Nat) (ms : List PM) : Prop :=
  ∃ (v : Value) (ys : List (PM × Value)), Blk w P 72 #[v] ∧ b ≤ P ∧ SlR encP w b 74 7 v ys ∧ ys.map Prod.fst = ms ∧ ∀ y ∈ ys, SlR encI w b 3 1 y.2 y.1.xs
theorem RPS.upd {w w' : World} {S : Nat → Prop} {b P : Nat} {ms : List PM} (h : RPS w b P ms) (hu : Upd S w w') (hS : ∀ k, b ≤ k → ¬ S k) : RPS w' b P ms := by
  obtain ⟨v, ys, h1, h2, h3, h4, h5⟩ := h
  exact ⟨v, ys, h1.upd hu (hS P h2), h2, SlR.upd h3 hu (fun k hk => hS k (Sl.blk h3 k hk).1), h4, fun y hy => SlR.upd (h5 y hy) hu (fun k hk => hS k (Sl.blk (h5 y hy) k hk).1)⟩
theorem RPS.drewN {w : World} {b P : Nat} {ms : List PM} (h : RPS w b P ms) (k : Nat) : RPS (w.drewN k) b P ms := h.upd ((Upd.refl (fun _ => False) w).drewN k) (fun _ _ h => h)

/-- One port's cells. -/
theorem RPS.pick {w : World} {b P : Nat} {ms : List PM} (h : RPS w b P ms) (i : Nat) (m : PM) (hm : ms[i]? = some m) :
    ∃ bb o cap L, w.cell? ⟨P, 0, none⟩ = some (.slice (some ⟨bb, o, none⟩) ms.length cap) ∧ SlR encI w b 3 1 L m.xs ∧
      w.cell? ⟨bb, o + i * 7, none⟩ = some (.bool m.c.q) ∧ w.cell? ⟨bb, o + i * 7 + 1, none⟩ = some (.int .i64 m.c.f) ∧ w.cell? ⟨bb, o + i * 7 + 2, none⟩ = some (.int .i64 m.c.t) ∧ w.cell? ⟨bb, o + i * 7 + 3, none⟩ = some (.int .i64 m.c.sz) ∧
      w.cell? ⟨bb, o + i * 7 + 4, none⟩ = some L ∧ w.cell? ⟨bb, o + i * 7 + 5, none⟩ = some (.int .i64 m.lost) ∧ w.cell? ⟨bb, o + i * 7 + 6, none⟩ = some (.int .i64 m.at_) := by
  obtain ⟨v, ys, h1, h2, h3, h4, h5⟩ := h
  have hlen : ys.length = ms.length := by rw [← h4]; simp
  have hil := (List.getElem?_eq_some_iff.1 hm).1
  obtain ⟨y, hy⟩ : ∃ y, ys[i]? = some y := ⟨_, List.getElem?_eq_getElem (by omega)⟩
  have hym : y.1 = m := by
    rw [← h4, List.getElem?_map, hy] at hm
    injection hm
  obtain ⟨bb, o, cap, rfl, _, _, _, _⟩ := SlR.form h3 (by omega)
  obtain ⟨ym, L⟩ := y
  simp only at hym
  subst hym
  refine ⟨bb, o, cap, L, by rw [← hlen]; exact h1.cell 0, h5 _ (List.mem_of_getElem? hy), ?_, SlR.cell encP_len h3 i _ hy 1 _ rfl, SlR.cell encP_len h3 i _ hy 2 _ rfl, SlR.cell encP_len h3 i _ hy 3 _ rfl, SlR.cell encP_len h3 i _ hy 4 _ rfl, SlR.cell encP_len h3 i _ hy 5 _ rfl, SlR.cell encP_len h3 i _ hy 6 _ rfl⟩
  have := SlR.cell encP_len h3 i _ hy 0 _ rfl
  rwa [Nat.add_zero] at this
theorem RPS.cell {w : World} {b P : Nat} {ms : List PM} (h : RPS w b P ms) : ∃ A cap, w.cell? ⟨P, 0, none⟩ = some (.slice A ms.length cap) := by
  obtain ⟨v, ys, h1, h2, h3, h4, h5⟩ := h
  have hlen : ys.length = ms.length := by rw [← h4]; simp
  obtain ⟨A, cap, rfl⟩ := h3.shape
  exact ⟨A, cap, by rw [← hlen]; exact h1.cell 0⟩

/-- The same with the slice's value and the rows named; one cell of one port is stored. -/
def RPY (w : World) (b P : Nat) (v : Value) (ys : List (PM × Value)) : Prop :=
  Blk w P 72 #[v] ∧ b ≤ P ∧ SlR encP w b 74 7 v ys ∧ ∀ y ∈ ys, SlR encI w b 3 1 y.2 y.1.xs
theorem RPY.rps {w : World} {b P : Nat} {v : Value} {ys : List (PM × Value)} (h : RPY w b P v ys) : RPS w b P (ys.map Prod.fst) := ⟨v, ys, h.1, h.2.1, h.2.2.1, rfl, h.2.2.2⟩
theorem RPS.rpy {w : World} {b P : Nat} {ms : List PM} (h : RPS w b P ms) : ∃ v ys, RPY w b P v ys ∧ ys.map Prod.fst = ms := by
  obtain ⟨v, ys, h1, h2, h3, h4, h5⟩ := h
  exact ⟨v, ys, ⟨h1, h2, h3, h5⟩, h4⟩
theorem RPY.upd {w w' : World} {S : Nat → Prop} {b P : Nat} {v : Value} {ys : List (PM × Value)} (h : RPY w b P v ys) (hu : Upd S w w') (hS : ∀ k, b ≤ k → k < w.heap.size → ¬ S k) : RPY w' b P v ys :=
  ⟨h.1.upd hu (hS P h.2.1 h.1.lt), h.2.1, SlR.upd h.2.2.1 hu (fun k hk => hS k (Sl.blk h.2.2.1 k hk).1 (Sl.blk h.2.2.1 k hk).2.1), fun y hy => SlR.upd (h.2.2.2 y hy) hu (fun k hk => hS k (Sl.blk (h.2.2.2 y hy) k hk).1 (Sl.blk (h.2.2.2 y hy) k hk).2.1)⟩
theorem RPY.store {w : World} {b P bb o n cap : Nat} {ys : List (PM × Value)} (h : RPY w b P (.slice (some ⟨bb, o, none⟩) n cap) ys) (i : Nat) (y y' : PM × Value) (hy : ys[i]? = some y) (j : Nat) (hj : j < 7) (u : Value) (he : encP y' = (encP y).set j u)
    (hL : SlR encI w b 3 1 y'.2 y'.1.xs) : RPY (w.setCell ⟨bb, o + (i * 7 + j), none⟩ u) b P (.slice (some ⟨bb, o, none⟩) n cap) (ys.set i y') := by
  obtain ⟨h1, h2, h3, h4⟩ := h
  have hil := (List.getElem?_eq_some_iff.1 hy).1
  have hn : n = ys.length := by
    obtain ⟨A, c, e⟩ := h3.shape
    injection e
  subst hn
  obtain ⟨_, _, cur, hB⟩ := Sl.blk h3 bb rfl
  have hU : Upd (fun k => k = bb) w (w.setCell ⟨bb, o + (i * 7 + j), none⟩ u) := (Upd.refl (fun k => k = bb) w).setCell (p := ⟨bb, o + (i * 7 + j), none⟩) (fun _ => rfl) u
  refine ⟨h1.upd hU (fun e => h1.ne_ hB (by decide) e), h2, ?_, fun z hz => ?_⟩
  · have hlt : i * 7 + j < ys.length * 7 := by omega
    have := Sl.set_ h3 (i * 7 + j) hlt u
    unfold SlR
    rw [List.length_set]
    rw [rws_set encP_len ys i y y' j u hy hj he] at this
    exact this
  · have hzz : SlR encI w b 3 1 z.2 z.1.xs := by
      rcases mem_set hz with rfl | hz
      · exact hL
      · exact h4 z hz
    exact SlR.upd hzz hU (fun k hk e => Sl.ne_ hzz hB (by decide) k hk e)

set_option maxHeartbeats 1600000 in
theorem rWaitYes (w : World) (b P : Nat) (ms : List PM) (h : RPS w b P ms) (i : Nat) (m : PM) (hm : ms[i]? = some m) :
    Calls Try.prog 19 #[.pointer (some ⟨P, 0, none⟩), .int .i64 i] w fun e w' => e = .returned (.int .i64 m.xs.length) ∧ ∃ k, w' = w.drewN k := by
  obtain ⟨bb, o, cap, L, c0, hL, e0, e1, e2, e3, e4, e5, e6⟩ := h.pick i m hm
  have hil := (List.getElem?_eq_some_iff.1 hm).1
  have d0 : decide ((i : Int) < 0) = false := decide_eq_false (by omega)
  have d1 : decide ((ms.length : Int) ≤ (i : Int)) = false := decide_eq_false (by omega)
  obtain ⟨A, c, rfl⟩ := hL.shape
  clear h hm hL
  go_enter Try.func19, Try.ntmps19
  go_wp2_with fail
  go_returns
  exact ⟨rfl, 0, rfl⟩
set_option maxHeartbeats 1600000 in
theorem rWaitNo (w : World) (b P : Nat) (ms : List PM) (h : RPS w b P ms) (ch : Int) (hc : ¬ (0 ≤ ch ∧ ch < ms.length)) :
    Calls Try.prog 19 #[.pointer (some ⟨P, 0, none⟩), .int .i64 ch] w fun e w' => e = .returned (.int .i64 0) ∧ ∃ k, w' = w.drewN k := by
  obtain ⟨A, cap, c0⟩ := h.cell
  clear h
  by_cases h0 : 0 ≤ ch
  · have d0 : decide (ch < 0) = false := decide_eq_false (by omega)
    have d1 : decide ((ms.length : Int) ≤ ch) = true := decide_eq_true (by omega)
    go_enter Try.func19, Try.ntmps19
    go_wp2_with fail
    go_returns
    exact ⟨rfl, 0, rfl⟩
  · have d0 : decide (ch < 0) = true := decide_eq_true (by omega)
    go_enter Try.func19, Try.ntmps19
    go_wp2_with fail
    go_returns
    exact ⟨rfl, 0, rfl⟩
end Go.Proofs.Ytnhgmommehjeoaa
