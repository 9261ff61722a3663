/-
  Stats: Counts; two lists that are the same; Shares on both sides.
-/
import Derived.Test.YthjebjegedgoeaaStF
namespace Go.Proofs.Ythjebjegedgoeaa
open Go.RowKit Go.Shelf Go.Maps Go.Sort
attribute [local go_sem] max_ints min_ints mapEq mapEqN makeMp

/-- What Counts says. -/
def cntsJ (B W : Nat) (l : List J5) (t : Int) : List Int := if t ∈ l.map J5.t then cntJ B W l t else []
theorem cntsJ_len (B W : Nat) (l : List J5) (t : Int) : (cntsJ B W l t).length ≤ B := by
  unfold cntsJ
  split
  · rw [cntJ_len]; exact Nat.le_refl _
  · exact Nat.zero_le _
set_option maxRecDepth 100000 in
set_option maxHeartbeats 1600000 in
theorem countsC (w : World) (g bm B W : Nat) (ks : KS) (N : Nat → Prop) (l : List J5) (h : TabJ w g bm B W ks l N) (hB : B ≤ 64) (t : Int) (hw : (Lit.int .i64 t).wf = true) :
    Calls Try.prog 15 #[.pointer (some ⟨g, 0, none⟩), .int .i64 t] w fun e w' => ∃ v, e = .returned v ∧ SlR encI w' w.heap.size 3 1 v (cntsJ B W l t) ∧ Upd (fun _ => False) w w' := by
  have HNone := Lib.hid (noneC w g bm _ _ h.1.b)
  have H := Lib.hid h
  clear h
  go_enter Try.func15, Try.ntmps15
  go_wp2_with fail
  refine HNone.out.mono ?_
  rintro e w1 ⟨rfl, k1, rfl⟩
  have T1 : Hid (TabJ (w.drewN k1) g bm B W ks l N) := Lib.hid ⟨H.out.1.drewN k1, H.out.2⟩
  have U1 : Hid (Upd (fun _ => False) w (w.drewN k1)) := Lib.hid ((Upd.refl _ w).drewN k1)
  have c0 : (w.drewN k1).cell? ⟨g, 0, none⟩ = some (.map (some bm)) := T1.out.1.b.cell 0
  clear HNone
  have hwz : w.heap.size ≤ (w.drewN k1).heap.size := U1.out.size
  generalize w.drewN k1 = w1 at *
  rcases T1.out.1.m.look T1.out.1.n1 t hw false with ⟨k, cb, hm, hrun⟩ | ⟨hno, hrun⟩
  · have hrun' : (Instr.lookup 45 (.map (some bm)) (.int .i64 t) false).run Try.prog w1 = .ok (.pointer (some ⟨k, 0, none⟩)) w1 := hrun
    have hE := T1.out.1.e _ hm
    have k7 : w1.cell? ⟨k, 7, none⟩ = some (.slice (some ⟨cb, 0, none⟩) B B) := hE.kn.cell 7
    have HC := Lib.hid (cloneI w1 _ _ _ hE.cn (by rw [cntJ_len]; omega))
    have hin : t ∈ l.map J5.t := by
      rw [← tasksJ_mem, ← T1.out.2.mem_iff]
      exact List.mem_map.2 ⟨_, hm, rfl⟩
    have hcs : cntsJ B W l t = cntJ B W l t := by unfold cntsJ; rw [if_pos hin]
    have HCS := Lib.hid hcs
    clear hrun hE hm hin hcs
    go_wp2_with fail
    refine HC.out.mono ?_
    rintro e w2 ⟨v, rfl, hv, hU2⟩
    have V2 := Lib.hid (hv.mono hwz)
    have U2 := Lib.hid (U1.out.trans hU2)
    clear hv hU2
    go_wp2_with fail
    go_returns
    refine ⟨_, rfl, ?_, U2.out⟩
    rw [HCS.out]; exact V2.out
  · have hrun' : (Instr.lookup 45 (.map (some bm)) (.int .i64 t) false).run Try.prog w1 = .ok (.pointer none) w1 := hrun
    have hin : t ∉ l.map J5.t := by
      rw [← tasksJ_mem, ← T1.out.2.mem_iff]
      exact hno
    have hcs : cntsJ B W l t = [] := by unfold cntsJ; rw [if_neg hin]
    have HCS := Lib.hid hcs
    clear hrun hno hin hcs
    go_wp2_with fail
    go_returns
    refine ⟨_, rfl, ?_, U1.out⟩
    rw [HCS.out]; exact SlR.nil

set_option maxRecDepth 100000 in
set_option maxHeartbeats 1600000 in
/-- Two lists that are the same. -/
theorem intsEq (w : World) (b1 b2 : Nat) (v1 v2 : Value) (l : List Int) (h1 : SlR encI w b1 3 1 v1 l) (h2 : SlR encI w b2 3 1 v2 l) (hl : l.length ≤ 100000) :
    Calls Try.prog 12 #[v1, v2] w fun e w' => e = .returned (.bool true) ∧ ∃ k, w' = w.drewN k := by
  obtain ⟨A1, c1, rfl⟩ := h1.shape
  obtain ⟨A2, c2, rfl⟩ := h2.shape
  have H1 := Lib.hid h1; have H2 := Lib.hid h2
  clear h1 h2
  go_enter Try.func12, Try.ntmps12
  go_wp2_with fail
  go_loopw [5] (fun vi wr => ∃ (i k : Nat), i ≤ l.length ∧ vi = .int .i64 i ∧ wr = w.drewN k) (fun vi _ => l.length - (intOf vi).toNat)
  case atStart => exact ⟨0, 0, Nat.zero_le _, rfl, rfl⟩
  case round =>
    obtain ⟨i, k, hi, rfl, hwr⟩ := hrel
    have HWR := Lib.hid hwr
    by_cases hlt : i < l.length
    · obtain ⟨x, hx⟩ : ∃ x, l[i]? = some x := ⟨_, List.getElem?_eq_getElem hlt⟩
      obtain ⟨bb1, o1, c1', e1, _, _, _, _⟩ := H1.out.form (by omega)
      obtain ⟨bb2, o2, c2', e2, _, _, _, _⟩ := H2.out.form (by omega)
      injection e1 with e1 e1b e1c
      injection e2 with e2 e2b e2c
      subst e1; subst e2; subst e1c; subst e2c
      clear e1b e2b
      have x1 : wr.cell? ⟨bb1, o1 + i, none⟩ = some (.int .i64 x) := by rw [hwr]; exact slr_int (H1.out.drewN k) i x hx
      have x2 : wr.cell? ⟨bb2, o2 + i, none⟩ = some (.int .i64 x) := by rw [hwr]; exact slr_int (H2.out.drewN k) i x hx
      have dd : decide ((i : Int) < (l.length : Int)) = true := decide_eq_true (by omega)
      have dn : decide ((i : Int) < 0) = false := decide_eq_false (by omega)
      clear hx hwr
      go_wp2_with fail
      go_quiet (fail)
      go_wp2_with fail
      go_roundw
      case rel => exact ⟨i + 1, k + nq, by omega, by go_num, by rw [HWR.out, World.drewN_drewN]⟩
      case measure => simp [intOf]; omega
    · have hie : i = l.length := by omega
      subst hie
      clear hwr
      go_wp2_with fail
      go_returns
      exact ⟨rfl, k, HWR.out⟩
end Go.Proofs.Ythjebjegedgoeaa
