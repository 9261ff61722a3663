/-
  The walk of the statements' Own.
-/
import Derived.Test.YtcgefncddbbnlaaFrameH
import Derived.Test.YtcgefncddbbnlaaFrameJ
namespace Go.Proofs.Ytcgefncddbbnlaa.Fr
open Go.RowKit
attribute [local go_sem] max_ints min_ints

theorem infoW : (Try.prog.info? 79).map (fun i => (i.zero, i.size, i.bytes)) = some (some (.agg #[.int .i64 0, .int .i64 0, .int .i64 0]), 3, 24) := by kernel_rfl
theorem take_one {α : Type} {l : List α} {i : Nat} {x : α} (h : l[i]? = some x) : l.take (i + 1) = l.take i ++ [x] := by rw [List.take_add_one, h]; rfl

set_option maxRecDepth 100000 in
set_option maxHeartbeats 1600000 in
theorem ownYes (w : World) (F : Nat) (M : Int) (v : Value) (ws : List W3) (hv : RdW w v ws) (hr : rightB F M ws = true) :
    Calls Try.prog 17 #[.int .i64 F, .int .i64 M, v] w fun e w' => ∃ base g, e = .returned (.pointer (some ⟨g, 0, none⟩)) ∧ w.heap.size ≤ g ∧ TabS w' base g F M ws ∧ Upd (fun _ => False) w w' := by
  obtain ⟨hF1, hF2, hM, hM8, hl, hfit⟩ := rightB_parts hr
  obtain ⟨i0, hi0, hz0, hz1, hz2⟩ := info_parts infoW
  have HR := Lib.hid hr; have HV := Lib.hid hv
  obtain ⟨A, cap, rfl, _⟩ := hv
  clear hr hfit
  go_enter Try.func17, Try.ntmps17
  go_wp2_with fail
  go_loopw [7, 8] (fun vx vi wr => ∃ i : Nat, i ≤ ws.length ∧ vi = .int .i64 i ∧ SlR encW wr w.heap.size 79 3 vx (ws.take i) ∧ Upd (fun _ => False) w wr) (fun _ vi _ => ws.length - (intOf vi).toNat)
  case atStart => exact ⟨0, Nat.zero_le _, rfl, SlR.nil, Upd.refl _ w⟩
  case round =>
    obtain ⟨i, hi, rfl, hS, hU⟩ := hrel
    have HS := Lib.hid hS; have HU := Lib.hid hU
    obtain ⟨Ax, cx, hsh⟩ := hS.shape
    subst hsh
    have hlen : (ws.take i).length = i := by rw [List.length_take]; omega
    clear hS hU
    by_cases hlt : i < ws.length
    · obtain ⟨x, hx⟩ : ∃ x, ws[i]? = some x := ⟨_, List.getElem?_eq_getElem hlt⟩
      obtain ⟨A', cap', e, hcell⟩ := HV.out.still HU.out
      injection e with e1 e2 e3
      subst e1 e3
      obtain ⟨b, o, rfl, hb, q0, q1, q2⟩ := hcell i x hx
      have HX := Lib.hid (take_one hx)
      clear hcell hx
      obtain ⟨x0, x1, x2⟩ := x
      dsimp only at *
      rw [hlen] at HS ⊢
      have hsz := HU.out.size
      go_wp2_with (
        at_builtin
        refine wpList_append_sl rfl (.tmp 15) (.tmp 20) 77 rfl w.heap.size 79 i0 _ 3 24 Try.underlying77 hi0 hz0 hz1 hz2 rfl (by decide) _ i (rws encW (ws.take i)) rfl (by have := Sl.alloc HS.out (.cells #[.int .i64 x0, .int .i64 x1, .int .i64 x2] 79); rw [hlen] at this; exact this) ⟨_, 0, none⟩ 1 [.int .i64 x0, .int .i64 x1, .int .i64 x2] rfl rfl (fun j u hu => by rw [add_at, (Blk.new _ _ _).cell j]; simpa using hu) (by simp [Value.oneCell']) (by unfold maxLen; omega) (by omega) (by simp; omega) ?_
        intro v' w6 hs6 hu6 hv6
        obtain ⟨bq, oq, cq, rfl, _, _, _, _⟩ := hs6.form (by omega)
        have FS6 := Lib.hid hs6
        have U6 := Lib.hid hu6
        clear hs6 hu6 hv6)
      go_roundw
      case rel =>
        refine ⟨i + 1, by omega, by go_num, ?_, ?_⟩
        · rw [HX.out]
          unfold SlR
          rw [List.length_append, rws_append, hlen]
          exact FS6.out
        · have h1 := (HU.out.alloc (.cells #[.int .i64 x0, .int .i64 x1, .int .i64 x2] 79)).mono (S' := fun k => w.heap.size ≤ k) (fun _ _ h => h.elim)
          exact (h1.trans (U6.out.mono (fun k _ hk => (Sl.blk HS.out k hk).1))).mono (fun k hk h => absurd h (by omega))
      case measure => simp [intOf]; omega
    · have hii : i = ws.length := by omega
      subst hii
      rw [List.take_length] at *
      go_wp2_with fail
      refine (newYes _ w.heap.size F M _ ws HS.out HR.out).mono ?_
      rintro e w2 ⟨g, rfl, hg, hT, hU2⟩
      have HT := Lib.hid hT
      have U2 := Lib.hid (HU.out.trans hU2)
      have HG := Lib.hid (Nat.le_trans HU.out.size hg)
      clear hT hU2 hg
      go_wp2_with fail
      go_returns
      exact ⟨_, g, rfl, HG.out, HT.out, U2.out⟩
end Go.Proofs.Ytcgefncddbbnlaa.Fr
