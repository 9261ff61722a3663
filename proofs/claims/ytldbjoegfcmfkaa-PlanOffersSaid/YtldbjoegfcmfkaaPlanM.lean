/-
  PlanLooks.
-/
import Derived.Test.YtldbjoegfcmfkaaPlanL
namespace Go.Proofs.Ytldbjoegfcmfkaa
open Go.RowKit
attribute [local go_sem] max_ints min_ints

theorem gaps_len (n : Int) (ws : List W3) : (if rightB n 0 ws = true then gapsN n ws else []).length ≤ 33 := by
  split
  next h =>
    obtain ⟨F, rfl⟩ : ∃ F : Nat, n = F := ⟨n.toNat, by
      have := h
      unfold rightB at this
      simp only [Bool.and_eq_true, decide_eq_true_eq] at this
      omega⟩
    obtain ⟨_, _, _, _, hl, hf⟩ := rightB_parts h
    rw [gapsN_eq hf]
    have := gapsC_len (F := F) ws 0
    omega
  next => simp

set_option maxRecDepth 100000 in
set_option maxHeartbeats 3200000 in
theorem looks_any (w : World) (n : Int) (v : Value) (ws : List W3) (hv : RdW w v ws) (p : Int) :
    Calls Try.prog 8 #[.int .i64 n, v, .int .i64 p] w fun e w' => e = .returned (.bool true) ∧ Upd (fun _ => False) w w' := by
  have HV := Lib.hid hv
  obtain ⟨A, cap, rfl, _⟩ := hv
  by_cases hl : ws.length ≤ 60
  · have d0 : decide (60 < (ws.length : Int)) = false := decide_eq_false (by omega)
    have d0' : ¬ 60 < ws.length := by omega
    obtain ⟨i0, hi0, hz0, hz1, hz2⟩ := info_parts infoW
    obtain ⟨gs, hgs⟩ : ∃ gs, (if rightB n 0 ws = true then gapsN n ws else []) = gs := ⟨_, rfl⟩
    have hgl := gaps_len n ws
    rw [hgs] at hgl
    obtain ⟨ys, hys⟩ : ∃ ys, wideL p ws = ys := ⟨_, rfl⟩
    have HGS := Lib.hid hgs; have HYS := Lib.hid hys
    clear hgs hys
    go_enter Try.func8, Try.ntmps8
    go_wp2_with fail
    go_loopw [7, 8] (fun vx vi wr => ∃ i : Nat, i ≤ ws.length ∧ vi = .int .i64 i ∧ SlR encW wr w.heap.size 39 3 vx (ws.take i) ∧ Upd (fun _ => False) w wr) (fun _ vi _ => ws.length - (intOf vi).toNat)
    case atStart => exact ⟨0, Nat.zero_le _, rfl, SlR.nil, Upd.refl _ w⟩
    case round =>
      obtain ⟨i, hi, rfl, hS, hU⟩ := hrel
      have HS := Lib.hid hS; have HU := Lib.hid hU
      obtain ⟨Ax, cx, hsh⟩ := hS.shape
      subst hsh
      have hlen : (ws.take i).length = i := by rw [List.length_take]; omega
      clear hS hU
      by_cases hlt : i < ws.length
      · obtain ⟨x, hx⟩ : ∃ x, ws[i]? = some x := ⟨_, List.getElem?_eq_getElem hlt⟩
        obtain ⟨A', cap', e, hcell⟩ := HV.out.still HU.out
        injection e with e1 e2 e3
        subst e1 e3
        obtain ⟨b, o, rfl, hb, q0, q1, q2⟩ := hcell i x hx
        have HX := Lib.hid (take_one hx)
        clear hcell hx
        obtain ⟨x0, x1, x2⟩ := x
        dsimp only at *
        rw [hlen] at HS ⊢
        have hsz := HU.out.size
        go_wp2_with (
          at_builtin
          refine wpList_append_sl rfl (.tmp 23) (.tmp 28) 24 rfl w.heap.size 39 i0 _ 3 24 Try.underlying24 hi0 hz0 hz1 hz2 rfl (by decide) _ i (rws encW (ws.take i)) rfl (by have := Sl.alloc HS.out (.cells #[.int .i64 x0, .int .i64 x1, .int .i64 x2] 39); rw [hlen] at this; exact this) ⟨_, 0, none⟩ 1 [.int .i64 x0, .int .i64 x1, .int .i64 x2] rfl rfl (new_cellsW _ _ _) (by simp [Value.oneCell']) (by unfold maxLen; omega) (by omega) (by simp; omega) ?_
          intro v' w6 hs6 hu6 hv6
          obtain ⟨bq, oq, cq, rfl, _, _, _, _⟩ := hs6.form (by omega)
          have FS6 := Lib.hid hs6
          have U6 := Lib.hid hu6
          clear hs6 hu6 hv6)
        go_roundw
        case rel =>
          refine ⟨i + 1, by omega, by go_num, ?_, ?_⟩
          · rw [HX.out]
            unfold SlR
            rw [List.length_append, rws_append, hlen]
            exact FS6.out
          · have h1 := (HU.out.alloc (.cells #[.int .i64 x0, .int .i64 x1, .int .i64 x2] 39)).mono (S' := fun k => w.heap.size ≤ k) (fun _ _ h => h.elim)
            exact (h1.trans (U6.out.mono (fun k _ hk => (Sl.blk HS.out k hk).1))).mono (fun k hk h => absurd h (by omega))
        case measure => simp [intOf]; omega
      · have hii : i = ws.length := by omega
        subst hii
        rw [List.take_length] at *
        go_wp2_with fail
        refine (widestP _ _ ws (RdW.of HS.out) (by omega) p ys HYS.out).mono ?_
        rintro e w2 ⟨rfl, hU⟩
        have S2 := Lib.hid (HS.out.still hU)
        have U2 := Lib.hid (HU.out.trans hU)
        clear hU
        go_wp2_with fail
        refine (widestD _ _ ws (HV.out.still U2.out) (by omega) p ys HYS.out).mono ?_
        rintro e w3 ⟨rfl, hU⟩
        have S3 := Lib.hid (S2.out.still hU)
        have U3 := Lib.hid (U2.out.trans hU)
        clear hU
        obtain ⟨m, hm⟩ : ∃ m, maxN ys = m := ⟨_, rfl⟩
        obtain ⟨t, ht⟩ : ∃ t, decide (0 < ys.length) = t := ⟨_, rfl⟩
        rw [hm, ht]
        clear hm ht
        go_wp2_with fail
        refine (gapsP _ w.heap.size n _ ws S3.out (by omega) gs HGS.out).mono ?_
        rintro e w4 ⟨v4, rfl, hS, hU⟩
        have U4 := Lib.hid (U3.out.trans hU)
        have S4 := Lib.hid hS
        obtain ⟨A4, c4, hsh⟩ := hS.shape
        subst hsh
        clear hS hU
        go_wp2_with fail
        refine (gapsD _ n _ ws (HV.out.still U4.out) gs HGS.out).mono ?_
        rintro e w5 ⟨v5, rfl, hS, hU⟩
        have U5 := Lib.hid (U4.out.trans hU)
        have S4' := Lib.hid (S4.out.still hU)
        have S5 := Lib.hid hS
        obtain ⟨A5, c5, hsh⟩ := hS.shape
        subst hsh
        clear hS hU
        go_wp2_with fail
        refine (windowsP _ _ _ _ _ gs S4'.out S5.out (by omega)).mono ?_
        rintro e w6 ⟨rfl, k6, rfl⟩
        go_wp2_with fail
        refine (knowsP _).mono ?_
        rintro e w7 ⟨rfl, hU⟩
        have U7 := Lib.hid ((U5.out.drewN _).trans hU)
        clear hU
        go_wp2_with fail
        go_returns
        exact ⟨by simp, U7.out⟩
  · have d0 : decide (60 < (ws.length : Int)) = true := decide_eq_true (by omega)
    have d0' : 60 < ws.length := by omega
    go_enter Try.func8, Try.ntmps8
    go_wp2_with fail
    refine (knowsP _).mono ?_
    rintro e w1 ⟨rfl, hU⟩
    have U1 := Lib.hid hU
    clear hU
    go_wp2_with fail
    go_returns
    exact ⟨rfl, U1.out⟩

theorem planLooks_any (w : World) (n : Int) (_ : (Lit.int .i64 n).wf = true) (A : Option Addr) (len cap : Nat) (xs : Nat → Nat → Int) (_ : ∀ k j, k < len → j < 3 → (Lit.int .i64 (xs k j)).wf = true) (hc : Row3 w A len xs)
    (p : Int) (_ : (Lit.int .i64 p).wf = true) :
    Calls Try.prog 8 #[.int .i64 n, .slice A len cap, .int .i64 p] w fun e w' => e = .returned (.bool true) ∧ Below w.heap.size w w' :=
  (looks_any w n _ _ (rdW_of hc) p).mono (fun _ _ ⟨h1, h2⟩ => ⟨h1, h2.below (Nat.le_refl _) (fun _ h => h.elim)⟩)
end Go.Proofs.Ytldbjoegfcmfkaa
