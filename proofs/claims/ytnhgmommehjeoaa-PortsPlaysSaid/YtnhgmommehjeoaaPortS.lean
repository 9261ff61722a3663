/-
  The document's ports: Write of a queue. (Written by portr.py.)
-/
import Derived.Test.YtnhgmommehjeoaaPortR
import Derived.Test.YtnhgmommehjeoaaSeqT
import Derived.Deep.CutBlock
namespace Go.Proofs.Ytnhgmommehjeoaa
open Go.RowKit
attribute [local go_sem] max_ints min_ints

theorem room_iff (sz : Int) (n : Nat) : (min sz 4096 ≤ (n : Int)) ↔ ¬ n < (min (max sz 0) 4096).toNat := by omega

set_option maxRecDepth 100000 in
set_option maxHeartbeats 3200000 in
theorem rWriteQ (w : World) (b P : Nat) (ms : List PM) (h : RPS w b P ms) (i : Nat) (m : PM) (hm : ms[i]? = some m) (hq : m.c.q = true) (hl : 0 ≤ m.lost ∧ m.lost ≤ 1000000) (v now : Int) :
    Calls Try.prog 16 #[.pointer (some ⟨P, 0, none⟩), .int .i64 m.c.f, .int .i64 i, .int .i64 v, .int .i64 now] w fun e w' => e = .returned (.int .i64 0) ∧ RPS w' b P (ms.set i (m.put v now)) ∧ Upd (PB w b) w w' := by
  obtain ⟨sv, ys, hY, hys⟩ := h.rpy
  obtain ⟨L, hy⟩ := RPY.at_ hys i m hm
  obtain ⟨bb, o, cap, rfl, c0, hbb, hfz, e0, e1, e2, e3, e4, e5, e6⟩ := hY.pick i m L hy
  have hil := (List.getElem?_eq_some_iff.1 hy).1
  have d0 : decide ((i : Int) < 0) = false := decide_eq_false (by omega)
  have d1 : decide ((ys.length : Int) ≤ (i : Int)) = false := decide_eq_false (by omega)
  rw [hq] at e0
  obtain ⟨AL, cL, rfl⟩ := (hY.row i m L hy).shape
  have hw : b ≤ w.heap.size := by have := hbb.1.1; omega
  by_cases hr : m.xs.length < m.c.room
  · have hx4 : m.xs.length < 4096 := by unfold Ch.room at hr; omega
    have dr : decide (min m.c.sz 4096 ≤ (m.xs.length : Int)) = false := decide_eq_false (fun e => (room_iff _ _).1 e hr)
    have hp : m.put v now = { m with xs := m.xs ++ [v] } := by unfold PM.put pushL pushB; rw [if_pos hq, if_pos hr, decide_eq_true hr]; rfl
    have Hp := Lib.hid hp
    have HY := Lib.hid hY
    have Hys := Lib.hid hys
    have Hy := Lib.hid hy
    have HLT := Lib.hid hil
    have HBB := Lib.hid hbb
    have HBW := Lib.hid hw
    obtain ⟨i0, hi0, hz0, hz1, hz2⟩ := info_parts infoIn
    clear h hm hq hl hY hys hy hbb hr hw hp
    go_enter Try.func16, Try.ntmps16
    go_wp2_with fail
    go_quiet (fail)
    have HYW := Lib.hid (HY.out.upd ((Upd.refl (fun _ => False) w).drewN nq) (fun _ _ _ h => h))
    have HUW := Lib.hid ((Upd.refl (PB w b) w).drewN nq)
    have HW : Hid (b ≤ (w.drewN nq).heap.size) := Lib.hid (Nat.le_trans HBW.out HUW.out.size)
    generalize w.drewN nq = W at *
    have HL : Hid (SlR encI W b 3 1 (.slice AL m.xs.length cL) m.xs) := Lib.hid (HYW.out.row i m _ Hy.out)
    have HOld : Hid (∀ wx, Upd (fun k => W.heap.size ≤ k) W wx → RPY wx b P (.slice (some ⟨bb, o, none⟩) ys.length cap) ys) := Lib.hid (fun wx hu => HYW.out.upd hu (fun k _ hk e => by omega))
    have HS : Hid (∀ wx, Upd (fun k => W.heap.size ≤ k) W wx → wx.cell? ⟨bb, o + i * 7 + 4, none⟩ = some (.slice AL m.xs.length cL)) := Lib.hid (fun wx hu => (HOld.out wx hu).cl i _ Hy.out 4 _ rfl)
    have HF : Hid (∀ wx, Upd (fun k => W.heap.size ≤ k) W wx → wx.frozen? ⟨bb, o + i * 7 + 4, none⟩ = false) := Lib.hid (fun wx hu => (HOld.out wx hu).fz _)
    have cA : (W.alloc (.cells #[] 3)).cell? ⟨bb, o + i * 7 + 4, none⟩ = some (.slice AL m.xs.length cL) := HS.out _ ((Upd.refl _ W).alloc _)
    have hWA : W.heap.size ≤ (W.alloc (.cells #[] 3)).heap.size := ((Upd.refl (fun k => W.heap.size ≤ k) W).alloc (.cells #[] 3)).size
    go_wp2_with (
      at_builtin
      first
      | (refine wpList_append_copy rfl (.tmp 77) (.tmp 81) 28 rfl W.heap.size _ 3 i0 _ 1 8 Try.underlying28 hi0 hz0 hz1 hz2 rfl (by decide) W.heap.size rfl (Blk.new W _ _) (Nat.le_refl _) (.slice AL m.xs.length cL) m.xs.length (rws encI m.xs) rfl (Sl.alloc HL.out _) (rws_one_cell encI_one _) (by unfold maxLen; omega) (by omega) hWA ?_
         intro v' wB hs1 hu1
         obtain ⟨AB, cB, rfl⟩ := Sl.shape hs1
         have SB := Lib.hid hs1
         have UB := Lib.hid (((Upd.refl (fun k => W.heap.size ≤ k) W).alloc (.cells #[] 3)).trans (hu1.mono (fun k _ e => by rw [e]; exact Nat.le_refl _)))
         have hWB : W.heap.size ≤ (wB.alloc (.cells #[.int .i64 v] 3)).heap.size := (UB.out.alloc _).size
         clear hs1 hu1)
      | (refine wpList_append_sl rfl (.tmp 82) (.tmp 84) 28 rfl W.heap.size 3 i0 _ 1 8 Try.underlying28 hi0 hz0 hz1 hz2 rfl (by decide) (.slice AB m.xs.length cB) m.xs.length (rws encI m.xs) rfl (Sl.alloc SB.out _) ⟨_, 0, none⟩ 1 [.int .i64 v] rfl rfl (new_cellsO _ _ _) (by simp [Value.oneCell']) (by unfold maxLen; omega) (by omega) hWB ?_
         intro v9 wZ hs1 hu1 hv1
         obtain ⟨bz, oz, cz, rfl, _, _, _, _⟩ := hs1.form (by omega)
         have SZ := Lib.hid hs1
         have UZ := Lib.hid ((UB.out.alloc (.cells #[.int .i64 v] 3)).trans (hu1.mono (fun k _ hk => (Sl.blk SB.out k hk).1)))
         have fZ := HF.out _ UZ.out
         have cZ := HS.out _ UZ.out
         clear hs1 hu1 hv1))
    have hN : SlR encI wZ b 3 1 (.slice (some ⟨bz, oz, none⟩) (m.xs.length + 1) cz) (m.xs ++ [v]) := by
      unfold SlR
      rw [List.length_append, rws_append]
      exact Sl.mono SZ.out HW.out
    have hS9 := (HOld.out wZ UZ.out).st i _ ({ m with xs := m.xs ++ [v] }, .slice (some ⟨bz, oz, none⟩) (m.xs.length + 1) cz) Hy.out 4 (by decide) (.slice (some ⟨bz, oz, none⟩) (m.xs.length + 1) cz) rfl hN
    have N9 := Lib.hid hS9.rps
    have U9 := Lib.hid ((HUW.out.trans (UZ.out.mono (fun k hk h => absurd h (by omega)))).setCell (S := PB w b) (p := ⟨bb, o + i * 7 + 4, none⟩) (fun _ => HBB.out.1) (.slice (some ⟨bz, oz, none⟩) (m.xs.length + 1) cz))
    clear hS9 hN
    go_returns
    refine ⟨rfl, ?_, U9.out⟩
    have := N9.out
    rw [Hp.out, ← Hys.out]
    rw [List.map_set] at this
    exact this
  · have dr : decide (min m.c.sz 4096 ≤ (m.xs.length : Int)) = true := decide_eq_true ((room_iff _ _).2 hr)
    have hp : m.put v now = { m with lost := m.lost + 1 } := by unfold PM.put pushL pushB; rw [if_pos hq, if_neg hr, decide_eq_false hr]; rfl
    have N9 : Hid (∀ k, RPS ((w.drewN k).setCell ⟨bb, o + i * 7 + 5, none⟩ (.int .i64 (m.lost + 1))) b P ((ys.set i ({ m with lost := m.lost + 1 }, .slice AL m.xs.length cL)).map Prod.fst)) := Lib.hid (fun k => by
      have hS : RPY (w.drewN k) b P _ ys := hY.upd ((Upd.refl (fun _ => False) w).drewN k) (fun _ _ _ h => h)
      exact (hS.st i _ ({ m with lost := m.lost + 1 }, .slice AL m.xs.length cL) hy 5 (by decide) (.int .i64 (m.lost + 1)) rfl (hS.row i m _ hy)).rps)
    have U9 : Hid (∀ k, Upd (PB w b) w ((w.drewN k).setCell ⟨bb, o + i * 7 + 5, none⟩ (.int .i64 (m.lost + 1)))) := Lib.hid (fun k => ((Upd.refl (PB w b) w).drewN k).setCell (p := ⟨bb, o + i * 7 + 5, none⟩) (fun _ => hbb.1) (.int .i64 (m.lost + 1)))
    have hwr := wrap_in (m.lost + 1) (by omega) (by omega)
    have Hp := Lib.hid hp
    have Hys := Lib.hid hys
    clear h hm hq hl hY hys hy hbb hr hw hp
    go_enter Try.func16, Try.ntmps16
    go_wp2_with fail
    go_quiet (fail)
    go_wp2_with fail
    go_returns
    refine ⟨rfl, ?_, U9.out _⟩
    have := N9.out nq
    rw [Hp.out, ← Hys.out]
    rw [List.map_set] at this
    exact this
end Go.Proofs.Ytnhgmommehjeoaa
