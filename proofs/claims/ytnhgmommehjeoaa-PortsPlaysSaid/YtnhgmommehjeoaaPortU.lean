/-
  The document's ports: Clear.
-/
import Derived.Test.YtnhgmommehjeoaaPortT
namespace Go.Proofs.Ytnhgmommehjeoaa
open Go.RowKit
attribute [local go_sem] max_ints min_ints

theorem RPY.n {w : World} {b P bb o n cap : Nat} {ys : List (PM × Value)} (h : RPY w b P (.slice (some ⟨bb, o, none⟩) n cap) ys) : n = ys.length := by
  obtain ⟨_, _, h3, _⟩ := h
  obtain ⟨A, c, e⟩ := h3.shape
  injection e

set_option maxRecDepth 100000 in
set_option maxHeartbeats 3200000 in
theorem rClear (w : World) (b P : Nat) (ms : List PM) (h : RPS w b P ms) (hlm : ms.length ≤ 1000) (hl : ∀ m ∈ ms, m.c.q = false → m.lost = 0) (part : Int) :
    Calls Try.prog 18 #[.pointer (some ⟨P, 0, none⟩), .int .i64 part] w fun e w' => e = .returned (.tuple #[]) ∧ RPS w' b P (ms.map (PM.clr part)) ∧ Upd (PB w b) w w' := by
  obtain ⟨sv, ys, hY, hys⟩ := h.rpy
  have hlen : ys.length = ms.length := by rw [← hys]; simp
  obtain ⟨A, cap, rfl⟩ := hY.2.2.1.shape
  rw [hlen] at hY
  have HY := Lib.hid hY
  have Hys := Lib.hid hys
  have HL := Lib.hid hl
  clear h hY hys hl hlen
  go_enter Try.func18, Try.ntmps18
  go_wp2_with fail
  go_loopw [4] (fun vi wr => ∃ (i : Nat) (zs : List (PM × Value)), i ≤ ms.length ∧ vi = .int .i64 i ∧ RPY wr b P (.slice A ms.length cap) zs ∧ zs.map Prod.fst = clrN part ms i ∧ Upd (PB w b) w wr) (fun vi _ => ms.length - (intOf vi).toNat)
  case atStart => exact ⟨0, ys, by omega, rfl, HY.out, by rw [Hys.out]; simp [clrN], Upd.refl _ _⟩
  case round =>
    obtain ⟨i, zs, hi, rfl, hS, hC, hU⟩ := hrel
    have HS := Lib.hid hS; have HC := Lib.hid hC; have HU := Lib.hid hU
    have c0 : wr.cell? ⟨P, 0, none⟩ = some (.slice A ms.length cap) := hS.1.cell 0
    clear hS hC hU
    by_cases hlt : i < ms.length
    · obtain ⟨m, hm⟩ : ∃ m, ms[i]? = some m := ⟨_, List.getElem?_eq_getElem hlt⟩
      have hcl := clrN_at part ms i m hm
      obtain ⟨L, hz⟩ := RPY.at_ HC.out i m hcl.1
      obtain ⟨AL, cL, hsh⟩ := (HS.out.row i m L hz).shape
      subst hsh
      obtain ⟨bb, o, cap', he, cdup, hbb, hfz, e0, e1, e2, e3, e4, e5, e6⟩ := HS.out.pick i m _ hz
      injection he with he1 he2 he3
      subst he1
      have HCL := Lib.hid hcl.2
      have HLM := Lib.hid (HL.out m (List.mem_of_getElem? hm))
      have HZ := Lib.hid hz
      have HBB : Hid (PB w b bb) := Lib.hid ⟨hbb.1.1, (Sl.blk HY.out.2.2.1 bb rfl).2.2⟩
      have hzl : Hid (i < zs.length) := Lib.hid (List.getElem?_eq_some_iff.1 hz).1
      clear cdup hm hcl hz hbb he2 he3 e0 e1 e3 e5 e6
      by_cases ht : m.c.t = part
      · have S1 := HS.out.st i _ ({ m with xs := [] }, .slice none 0 0) HZ.out 4 (by decide) (.slice none 0 0) rfl SlR.nil
        have hy1 : (zs.set i ({ m with xs := [] }, .slice none 0 0))[i]? = some ({ m with xs := [] }, .slice none 0 0) := List.getElem?_set_self hzl.out
        have c1 : (wr.setCell ⟨bb, o + i * 7 + 4, none⟩ (.slice none 0 0)).cell? ⟨P, 0, none⟩ = some (.slice (some ⟨bb, o, none⟩) ms.length cap) := S1.1.cell 0
        have f1 := S1.fz
        have c5 := S1.cl i _ hy1 5 (.int .i64 m.lost) rfl
        have S2 := S1.st i _ ({ m with xs := [], lost := 0 }, .slice none 0 0) hy1 5 (by decide) (.int .i64 0) rfl SlR.nil
        rw [List.set_set] at S2
        have N2 := Lib.hid S2
        have HT := Lib.hid ht
        have df : decide (m.c.t = part) = true := decide_eq_true ht
        have df2 : decide (part = m.c.t) = true := decide_eq_true ht.symm
        have df3 : (m.c.t == part) = true := by simp [ht]
        clear S1 hy1 S2 ht
        go_wp2_with fail
        go_roundw
        case rel =>
          refine ⟨i + 1, _, by omega, by go_num, N2.out, ?_, HU.out.trans (((Upd.refl (PB w b) wr).setCell (p := ⟨bb, o + i * 7 + 4, none⟩) (fun _ => HBB.out) _).setCell (p := ⟨bb, o + i * 7 + 5, none⟩) (fun _ => HBB.out) _)⟩
          rw [← HCL.out, List.map_set, HC.out]
          congr 1
          unfold PM.clr PM.emptied
          rw [if_pos HT.out]
          split
          · rfl
          · rename_i hq
            have := HLM.out (by simpa using hq)
            cases m; simp_all
        case measure => simp [intOf]; omega
      · have HT := Lib.hid ht
        have df : decide (m.c.t = part) = false := decide_eq_false ht
        have df2 : decide (part = m.c.t) = false := decide_eq_false (fun e => ht e.symm)
        have df3 : (m.c.t == part) = false := beq_eq_false_iff_ne.2 ht
        clear ht
        go_wp2_with fail
        go_roundw
        case rel =>
          refine ⟨i + 1, zs, by omega, by go_num, HS.out, ?_, HU.out⟩
          rw [HC.out, ← HCL.out, clr_keep HT.out]
          rw [list_self]
          rw [← HC.out, List.getElem?_map, HZ.out]; rfl
        case measure => simp [intOf]; omega
    · have hie : i = ms.length := by omega
      subst hie
      go_wp2_with fail
      go_returns
      refine ⟨rfl, ?_, HU.out⟩
      have := HS.out.rps
      rw [HC.out] at this
      simpa [clrN] using this
end Go.Proofs.Ytnhgmommehjeoaa
