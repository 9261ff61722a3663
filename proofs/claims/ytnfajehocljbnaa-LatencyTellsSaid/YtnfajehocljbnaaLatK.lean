/-
  The walk of latency.Wait; LatencyTells.
-/
import Derived.Test.YtnfajehocljbnaaLatG
import Derived.Test.YtnfajehocljbnaaLatI
import Derived.Test.YtnfajehocljbnaaLatJ
namespace Go.Proofs.Ytnfajehocljbnaa
open Go.RowKit
attribute [local go_sem] max_ints min_ints

set_option maxRecDepth 100000 in
set_option maxHeartbeats 1600000 in
theorem waitL (w : World) (base g F : Nat) (M : Int) (ws : List W3) (h : TabS w base g F M ws) (p work : Int) (o : Int) (ho : cntO M ws p F = o) (m : Nat) (hm : min (max work 0) 1048576 = (m : Int)) :
    Calls Try.prog 29 #[.pointer (some ⟨g, 0, none⟩), .int .i64 p, .int .i64 work] w fun e w' => ∃ x b, e = .returned (.tuple #[.int .i64 x, .bool b]) ∧ (0 < o → b = true ∧ x = (wstN M ws p F m F).1) ∧ Upd (fun _ => False) w w' := by
  obtain ⟨hF1, hF2, _, _, _, hfit⟩ := h.right
  have H := Lib.hid h; have HO := Lib.hid ho; have HM := Lib.hid hm; have HFIT := Lib.hid hfit
  clear h ho hm hfit
  by_cases hp : 0 ≤ p ∧ p < 6
  · go_enter Try.func29, Try.ntmps29
    go_wp2_with fail
    refine (ofYes _ base g F M ws H.out p hp.1 hp.2).mono ?_
    rintro e w1 ⟨s, rfl, hS, hU⟩
    have S1 := Lib.hid hS
    have U1 := Lib.hid hU
    clear hS hU
    go_wp2_with fail
    refine (latCut _ work _ m HM.out).mono ?_
    rintro e w2 ⟨rfl, k2, rfl⟩
    go_wp2_with fail
    refine (waitS _ base g F M ws p s (S1.out.drewN k2) m).mono ?_
    rintro e w3 ⟨x, b, rfl, hW, hU⟩
    have U3 := Lib.hid ((U1.out.drewN k2).trans hU)
    have HW : Hid (0 < o → b = true ∧ x = (wstN M ws p F m F).1) := Lib.hid (fun hop => by
      obtain ⟨W, h1, h2, h3⟩ := wst_wait M ws p F hF1 (by rw [HO.out]; exact hop) m
      have hmb := HM.out
      rcases hW with ⟨g1, rfl, rfl⟩ | ⟨g1, g2, _, _⟩ | ⟨g1, g2, g3, rfl, k, rfl, g4, g5, g6⟩
      · refine ⟨rfl, ?_⟩
        rw [h1]
        rcases Nat.eq_zero_or_pos W with hW0 | hW0
        · rw [hW0]; rfl
        · have := h3 0 hW0
          rw [leN_zero] at this
          omega
      · rw [HO.out] at g2
        rcases g2 with g2 | g2 <;> omega
      · refine ⟨rfl, ?_⟩
        rw [h1]
        rcases Nat.lt_trichotomy k W with hl | hl | hl
        · have := h3 k hl; omega
        · rw [hl]
        · have := g6 W hl; omega)
    clear hW hU
    go_wp2_with fail
    go_returns
    exact ⟨x, b, rfl, HW.out, U3.out⟩
  · have ho0 : o = 0 := by
      have h1 := cntF_frame M ws p F hF1 0
      rw [cntF_part HFIT.out p hp, HO.out] at h1
      exact h1.symm
    go_enter Try.func29, Try.ntmps29
    go_wp2_with fail
    refine (ofOut _ base g F M ws H.out p hp).mono ?_
    rintro e w1 ⟨rfl, k1, rfl⟩
    go_wp2_with fail
    refine (latCut _ work _ m HM.out).mono ?_
    rintro e w2 ⟨rfl, k2, rfl⟩
    go_wp2_with fail
    refine (waitNo _ _ (.inl rfl) m).mono ?_
    rintro e w3 ⟨rfl, hU⟩
    have U3 := Lib.hid (((Upd.refl (fun _ => False) w).drewN _).trans hU)
    clear hU
    go_wp2_with fail
    go_returns
    exact ⟨0, false, rfl, fun h => by omega, U3.out⟩

set_option maxRecDepth 100000 in
set_option maxHeartbeats 6400000 in
theorem latencyTells_any1 (w : World) (n M : Int) (v : Value) (ws : List W3) (hv : RdW w v ws) (p from_ work : Int) :
    Calls Try.prog 8 #[.int .i64 n, .int .i64 M, v, .int .i64 p, .int .i64 from_, .int .i64 work] w fun e w' => e = .returned (.bool true) ∧ Upd (fun _ => False) w w' := by
  have HV := Lib.hid hv
  obtain ⟨A, cap, rfl, _⟩ := hv
  by_cases hr : rightB n M ws = true
  · have HR := Lib.hid hr
    have hn1 : 1 ≤ n := by
      have := hr
      unfold rightB at this
      simp only [Bool.and_eq_true, decide_eq_true_eq] at this
      omega
    obtain ⟨F, rfl⟩ : ∃ F : Nat, n = F := ⟨n.toNat, by omega⟩
    obtain ⟨hF1, hF2, hM, hM8, hl32, hfit⟩ := rightB_parts hr
    have d0 : decide (60 < (ws.length : Int)) = false := decide_eq_false (by omega)
    have d0' : ¬ 60 < ws.length := by omega
    clear hr hfit
    by_cases hw : work ≤ 3000
    · have d1 : decide (3000 < work) = false := decide_eq_false (by omega)
      obtain ⟨m, hm⟩ : ∃ m : Nat, min (max work 0) 1048576 = (m : Int) := ⟨(min (max work 0) 1048576).toNat, by omega⟩
      obtain ⟨f, hff⟩ : ∃ f, min (max from_ 0) 1152921504606846976 = f := ⟨_, rfl⟩
      obtain ⟨o, ho⟩ : ∃ o, cntO M ws p F = o := ⟨_, rfl⟩
      have ho1 := cntO_le M ws p F
      rw [ho] at ho1
      have hmb : m ≤ 1048576 := by omega
      have hF0 : 0 < F := by omega
      have HM := Lib.hid hm; have HFF := Lib.hid hff; have HO := Lib.hid ho
      clear hm hff ho
      by_cases h0 : o = 0
      · have HX0 := Lib.hid h0
        have hdl : ∀ (W : World) (base g : Nat), TabS W base g F M ws → Calls Try.prog 20 #[.pointer (some ⟨g, 0, none⟩), .int .i64 p, .int .i64 from_, .int .i64 work] W fun e w' => e = .returned (.tuple #[.int .i64 (0), .bool false]) ∧ Upd (fun _ => False) W w' := fun W base g h => by
          have := doneL W base g F M ws h p from_ work o HO.out f HFF.out m HM.out
          rw [if_pos h0, decide_eq_false (show ¬ 0 < o by omega)] at this
          exact this
        have hdr : ∀ (W : World) (g : Nat), RTb W g F M ws → Calls Try.prog 25 #[.pointer (some ⟨g, 0, none⟩), .int .i64 p, .int .i64 from_, .int .i64 work] W fun e w' => e = .returned (.tuple #[.int .i64 (0), .bool false]) ∧ Upd (fun _ => False) W w' := fun W g h => by
          have := doneR W g F M ws h p from_ work o HO.out f HFF.out m HM.out
          rw [if_pos h0, decide_eq_false (show ¬ 0 < o by omega)] at this
          exact this
        have hwl : ∀ (W : World) (base g : Nat), TabS W base g F M ws → Calls Try.prog 22 #[.pointer (some ⟨g, 0, none⟩), .int .i64 p, .int .i64 work] W fun e w' => e = .returned (.tuple #[.int .i64 (0), .int .i64 (0), .bool false]) ∧ Upd (fun _ => False) W w' := fun W base g h => worstL W base g F M ws h p work o HO.out m HM.out (0, 0, false) (by rw [if_pos h0]; rfl)
        have hwr : ∀ (W : World) (g : Nat), RTb W g F M ws → Calls Try.prog 26 #[.pointer (some ⟨g, 0, none⟩), .int .i64 p, .int .i64 work] W fun e w' => e = .returned (.tuple #[.int .i64 (0), .int .i64 (0), .bool false]) ∧ Upd (fun _ => False) W w' := fun W g h => by
          have := worstR W g F M ws h p work o HO.out m HM.out
          rw [if_pos h0, if_pos h0, decide_eq_false (show ¬ 0 < o by omega)] at this
          exact this
        have hjl : ∀ (W : World) (base g : Nat), TabS W base g F M ws → Calls Try.prog 27 #[.pointer (some ⟨g, 0, none⟩), .int .i64 p, .int .i64 work] W fun e w' => e = .returned (.tuple #[.int .i64 (0), .bool false]) ∧ Upd (fun _ => False) W w' := fun W base g h => jitterL W base g F M ws h p work o HO.out m HM.out (0, 0, false) (by rw [if_pos h0]; rfl) 0 (by decide)
        have hjr : ∀ (W : World) (g : Nat), RTb W g F M ws → Calls Try.prog 28 #[.pointer (some ⟨g, 0, none⟩), .int .i64 p, .int .i64 work] W fun e w' => e = .returned (.tuple #[.int .i64 (0), .bool false]) ∧ Upd (fun _ => False) W w' := fun W g h => by
          have := jitterR W g F M ws h p work o HO.out m HM.out
          rw [if_pos h0, decide_eq_false (show ¬ 0 < o by omega)] at this
          exact this
        have HDL := Lib.hid hdl; have HDR := Lib.hid hdr; have HWL := Lib.hid hwl; have HWR := Lib.hid hwr; have HJL := Lib.hid hjl; have HJR := Lib.hid hjr
        clear hdl hdr hwl hwr hjl hjr
        clear h0
        go_enter Try.func8, Try.ntmps8
        go_wp2_with fail
        refine (refYes _ F M _ ws HV.out HR.out).mono ?_
        rintro e w1 ⟨r, rfl, hRT, hU⟩
        have R1 := Lib.hid hRT
        have U1 := Lib.hid hU
        clear hU hRT
        go_wp2_with fail
        refine (knowsL _).mono ?_
        rintro e w2 ⟨rfl, hU⟩
        have R2 := Lib.hid (R1.out.still hU)
        have U2 := Lib.hid (U1.out.trans hU)
        clear hU
        go_wp2_with fail
        refine (ownYes _ F M _ ws (HV.out.still U2.out) HR.out).mono ?_
        rintro e w3 ⟨base, g, rfl, _, hT, hU⟩
        have T3 := Lib.hid hT
        have R3 := Lib.hid (R2.out.still hU)
        have U3 := Lib.hid (U2.out.trans hU)
        clear hU hT
        go_wp2_with fail
        refine (HDL.out _ base g T3.out).mono ?_
        rintro e w4 ⟨rfl, hU⟩
        have T4 := Lib.hid (T3.out.still hU)
        have R4 := Lib.hid (R3.out.still hU)
        have U4 := Lib.hid (U3.out.trans hU)
        clear hU
        go_wp2_with fail
        refine (HDR.out _ r R4.out).mono ?_
        rintro e w5 ⟨rfl, hU⟩
        have T5 := Lib.hid (T4.out.still hU)
        have R5 := Lib.hid (R4.out.still hU)
        have U5 := Lib.hid (U4.out.trans hU)
        clear hU
        go_wp2_with fail
        refine (HWL.out _ base g T5.out).mono ?_
        rintro e w6 ⟨rfl, hU⟩
        have T6 := Lib.hid (T5.out.still hU)
        have R6 := Lib.hid (R5.out.still hU)
        have U6 := Lib.hid (U5.out.trans hU)
        clear hU
        go_wp2_with fail
        refine (HWR.out _ r R6.out).mono ?_
        rintro e w7 ⟨rfl, hU⟩
        have T7 := Lib.hid (T6.out.still hU)
        have R7 := Lib.hid (R6.out.still hU)
        have U7 := Lib.hid (U6.out.trans hU)
        clear hU
        go_wp2_with fail
        refine (HJL.out _ base g T7.out).mono ?_
        rintro e w8 ⟨rfl, hU⟩
        have T8 := Lib.hid (T7.out.still hU)
        have R8 := Lib.hid (R7.out.still hU)
        have U8 := Lib.hid (U7.out.trans hU)
        clear hU
        go_wp2_with fail
        refine (HJR.out _ r R8.out).mono ?_
        rintro e w9 ⟨rfl, hU⟩
        have T9 := Lib.hid (T8.out.still hU)
        have R9 := Lib.hid (R8.out.still hU)
        have U9 := Lib.hid (U8.out.trans hU)
        clear hU
        go_wp2_with fail
        refine (waitL _ base g F M ws T9.out p work o HO.out m HM.out).mono ?_
        rintro e w10 ⟨x, b, rfl, hx, hU⟩
        have U10 := Lib.hid (U9.out.trans hU)
        clear hU

        clear hx
        go_wp2_with fail
        go_returns
        exact ⟨rfl, U10.out⟩
      · have hop : 0 < cntO M ws p F := by rw [HO.out]; omega
        have hdb : ∀ q : Nat, (doneN M ws p F q m : Int) ≤ 2305843009213693952 := fun q => by
          have h1 := doneN_le (M := M) (ws := ws) (p := p) hF0 hop (q : Int) m
          have h2 : m * F ≤ 1048576 * 256 := Nat.mul_le_mul hmb hF2
          omega
        have hmx : 0 ≤ maxD M ws p F m F ∧ maxD M ws p F m F ≤ 2305843009213693952 := by
          rw [maxD_wst M ws p F m F hF0]
          obtain ⟨j, hj, e⟩ := wstN_at M ws p F m F hF0
          rw [e]
          have := hdb j
          dsimp only
          omega
        have hmn := minD_le M ws p F m F
        have hwj := wrap_in (maxD M ws p F m F - minD M ws p F m F) (by omega) (by omega)
        have hdl : ∀ (W : World) (base g : Nat), TabS W base g F M ws → Calls Try.prog 20 #[.pointer (some ⟨g, 0, none⟩), .int .i64 p, .int .i64 from_, .int .i64 work] W fun e w' => e = .returned (.tuple #[.int .i64 (f + doneN M ws p F f m), .bool true]) ∧ Upd (fun _ => False) W w' := fun W base g h => by
          have := doneL W base g F M ws h p from_ work o HO.out f HFF.out m HM.out
          rw [if_neg h0, decide_eq_true (show 0 < o by omega)] at this
          exact this
        have hdr : ∀ (W : World) (g : Nat), RTb W g F M ws → Calls Try.prog 25 #[.pointer (some ⟨g, 0, none⟩), .int .i64 p, .int .i64 from_, .int .i64 work] W fun e w' => e = .returned (.tuple #[.int .i64 (f + doneN M ws p F f m), .bool true]) ∧ Upd (fun _ => False) W w' := fun W g h => by
          have := doneR W g F M ws h p from_ work o HO.out f HFF.out m HM.out
          rw [if_neg h0, decide_eq_true (show 0 < o by omega)] at this
          exact this
        have hwl : ∀ (W : World) (base g : Nat), TabS W base g F M ws → Calls Try.prog 22 #[.pointer (some ⟨g, 0, none⟩), .int .i64 p, .int .i64 work] W fun e w' => e = .returned (.tuple #[.int .i64 ((wstN M ws p F m F).1), .int .i64 ((wstN M ws p F m F).2), .bool true]) ∧ Upd (fun _ => False) W w' := fun W base g h => worstL W base g F M ws h p work o HO.out m HM.out ((wstN M ws p F m F).1, (wstN M ws p F m F).2, true) (by rw [if_neg h0]; exact wsF_up M ws p F m F hF0)
        have hwr : ∀ (W : World) (g : Nat), RTb W g F M ws → Calls Try.prog 26 #[.pointer (some ⟨g, 0, none⟩), .int .i64 p, .int .i64 work] W fun e w' => e = .returned (.tuple #[.int .i64 ((wstN M ws p F m F).1), .int .i64 ((wstN M ws p F m F).2), .bool true]) ∧ Upd (fun _ => False) W w' := fun W g h => by
          have := worstR W g F M ws h p work o HO.out m HM.out
          rw [if_neg h0, if_neg h0, decide_eq_true (show 0 < o by omega)] at this
          exact this
        have hjl : ∀ (W : World) (base g : Nat), TabS W base g F M ws → Calls Try.prog 27 #[.pointer (some ⟨g, 0, none⟩), .int .i64 p, .int .i64 work] W fun e w' => e = .returned (.tuple #[.int .i64 (maxD M ws p F m F - minD M ws p F m F), .bool true]) ∧ Upd (fun _ => False) W w' := fun W base g h => jitterL W base g F M ws h p work o HO.out m HM.out (maxD M ws p F m F, minD M ws p F m F, true) (by rw [if_neg h0]; exact jtF_up hdb F hF0) _ hwj
        have hjr : ∀ (W : World) (g : Nat), RTb W g F M ws → Calls Try.prog 28 #[.pointer (some ⟨g, 0, none⟩), .int .i64 p, .int .i64 work] W fun e w' => e = .returned (.tuple #[.int .i64 (maxD M ws p F m F - minD M ws p F m F), .bool true]) ∧ Upd (fun _ => False) W w' := fun W g h => by
          have := jitterR W g F M ws h p work o HO.out m HM.out
          rw [if_neg h0, decide_eq_true (show 0 < o by omega)] at this
          exact this
        have HDL := Lib.hid hdl; have HDR := Lib.hid hdr; have HWL := Lib.hid hwl; have HWR := Lib.hid hwr; have HJL := Lib.hid hjl; have HJR := Lib.hid hjr
        clear hdl hdr hwl hwr hjl hjr
        obtain ⟨q1, hq1⟩ : ∃ q, (wstN M ws p F m F).1 = q := ⟨_, rfl⟩
        obtain ⟨q2, hq2⟩ : ∃ q, (wstN M ws p F m F).2 = q := ⟨_, rfl⟩
        obtain ⟨q3, hq3⟩ : ∃ q, maxD M ws p F m F - minD M ws p F m F = q := ⟨_, rfl⟩
        obtain ⟨q4, hq4⟩ : ∃ q, f + (doneN M ws p F f m : Int) = q := ⟨_, rfl⟩
        rw [hq1, hq2] at HWL HWR
        rw [hq3] at HJL HJR
        rw [hq4] at HDL HDR
        have HQ1 := Lib.hid hq1
        have ho0 : 0 < o := by omega
        clear hdb hmx hmn hwj hq1 hq2 hq3 hq4 hop
        go_enter Try.func8, Try.ntmps8
        go_wp2_with fail
        refine (refYes _ F M _ ws HV.out HR.out).mono ?_
        rintro e w1 ⟨r, rfl, hRT, hU⟩
        have R1 := Lib.hid hRT
        have U1 := Lib.hid hU
        clear hU hRT
        go_wp2_with fail
        refine (knowsL _).mono ?_
        rintro e w2 ⟨rfl, hU⟩
        have R2 := Lib.hid (R1.out.still hU)
        have U2 := Lib.hid (U1.out.trans hU)
        clear hU
        go_wp2_with fail
        refine (ownYes _ F M _ ws (HV.out.still U2.out) HR.out).mono ?_
        rintro e w3 ⟨base, g, rfl, _, hT, hU⟩
        have T3 := Lib.hid hT
        have R3 := Lib.hid (R2.out.still hU)
        have U3 := Lib.hid (U2.out.trans hU)
        clear hU hT
        go_wp2_with fail
        refine (HDL.out _ base g T3.out).mono ?_
        rintro e w4 ⟨rfl, hU⟩
        have T4 := Lib.hid (T3.out.still hU)
        have R4 := Lib.hid (R3.out.still hU)
        have U4 := Lib.hid (U3.out.trans hU)
        clear hU
        go_wp2_with fail
        refine (HDR.out _ r R4.out).mono ?_
        rintro e w5 ⟨rfl, hU⟩
        have T5 := Lib.hid (T4.out.still hU)
        have R5 := Lib.hid (R4.out.still hU)
        have U5 := Lib.hid (U4.out.trans hU)
        clear hU
        go_wp2_with fail
        refine (HWL.out _ base g T5.out).mono ?_
        rintro e w6 ⟨rfl, hU⟩
        have T6 := Lib.hid (T5.out.still hU)
        have R6 := Lib.hid (R5.out.still hU)
        have U6 := Lib.hid (U5.out.trans hU)
        clear hU
        go_wp2_with fail
        refine (HWR.out _ r R6.out).mono ?_
        rintro e w7 ⟨rfl, hU⟩
        have T7 := Lib.hid (T6.out.still hU)
        have R7 := Lib.hid (R6.out.still hU)
        have U7 := Lib.hid (U6.out.trans hU)
        clear hU
        go_wp2_with fail
        refine (HJL.out _ base g T7.out).mono ?_
        rintro e w8 ⟨rfl, hU⟩
        have T8 := Lib.hid (T7.out.still hU)
        have R8 := Lib.hid (R7.out.still hU)
        have U8 := Lib.hid (U7.out.trans hU)
        clear hU
        go_wp2_with fail
        refine (HJR.out _ r R8.out).mono ?_
        rintro e w9 ⟨rfl, hU⟩
        have T9 := Lib.hid (T8.out.still hU)
        have R9 := Lib.hid (R8.out.still hU)
        have U9 := Lib.hid (U8.out.trans hU)
        clear hU
        go_wp2_with fail
        refine (waitL _ base g F M ws T9.out p work o HO.out m HM.out).mono ?_
        rintro e w10 ⟨x, b, rfl, hx, hU⟩
        have U10 := Lib.hid (U9.out.trans hU)
        clear hU

        obtain ⟨rfl, hxq⟩ := hx ho0
        rw [HQ1.out] at hxq
        subst hxq
        clear hx
        go_wp2_with fail
        go_returns
        exact ⟨by simp, U10.out⟩
    · have d1 : decide (3000 < work) = true := decide_eq_true (by omega)
      go_enter Try.func8, Try.ntmps8
      go_wp2_with fail
      refine (refYes _ F M _ ws HV.out HR.out).mono ?_
      rintro e w1 ⟨r, rfl, hRT, hU⟩
      have R1 := Lib.hid hRT
      have U1 := Lib.hid hU
      clear hU hRT
      go_wp2_with fail
      refine (knowsL _).mono ?_
      rintro e w2 ⟨rfl, hU⟩
      have R2 := Lib.hid (R1.out.still hU)
      have U2 := Lib.hid (U1.out.trans hU)
      clear hU
      go_wp2_with fail
      go_returns
      exact ⟨rfl, U2.out⟩
  · have HR := Lib.hid (Bool.eq_false_iff.2 hr)
    clear hr
    by_cases hl : ws.length ≤ 60
    · have d0 : decide (60 < (ws.length : Int)) = false := decide_eq_false (by omega)
      have d0' : ¬ 60 < ws.length := by omega
      go_enter Try.func8, Try.ntmps8
      go_wp2_with fail
      refine (refNo _ n M _ ws HV.out HR.out).mono ?_
      rintro e w1 ⟨rfl, hU⟩
      have U1 := Lib.hid hU
      clear hU
      go_wp2_with fail
      refine (knowsL _).mono ?_
      rintro e w2 ⟨rfl, hU⟩
      have U2 := Lib.hid (U1.out.trans hU)
      clear hU
      go_wp2_with fail
      go_returns
      exact ⟨rfl, U2.out⟩
    · have d0 : decide (60 < (ws.length : Int)) = true := decide_eq_true (by omega)
      have d0' : 60 < ws.length := by omega
      go_enter Try.func8, Try.ntmps8
      go_wp2_with fail
      refine (refNo _ n M _ ws HV.out HR.out).mono ?_
      rintro e w1 ⟨rfl, hU⟩
      have U1 := Lib.hid hU
      clear hU
      go_wp2_with fail
      refine (knowsL _).mono ?_
      rintro e w2 ⟨rfl, hU⟩
      have U2 := Lib.hid (U1.out.trans hU)
      clear hU
      go_wp2_with fail
      go_returns
      exact ⟨rfl, U2.out⟩

theorem latencyTells_any (w : World) (n : Int) (_ : (Lit.int .i64 n).wf = true) (M : Int) (_ : (Lit.int .i64 M).wf = true) (A : Option Addr) (len cap : Nat) (xs : Nat → Nat → Int) (_ : ∀ k j, k < len → j < 3 → (Lit.int .i64 (xs k j)).wf = true) (hc : Row3 w A len xs)
    (p : Int) (_ : (Lit.int .i64 p).wf = true) (from_ : Int) (_ : (Lit.int .i64 from_).wf = true) (work : Int) (_ : (Lit.int .i64 work).wf = true) :
    Calls Try.prog 8 #[.int .i64 n, .int .i64 M, .slice A len cap, .int .i64 p, .int .i64 from_, .int .i64 work] w fun e w' => e = .returned (.bool true) ∧ Below w.heap.size w w' :=
  (latencyTells_any1 w n M _ _ (rdW_of hc) p from_ work).mono (fun _ _ ⟨h1, h2⟩ => ⟨h1, h2.below (Nat.le_refl _) (fun _ h => h.elim)⟩)
end Go.Proofs.Ytnfajehocljbnaa
