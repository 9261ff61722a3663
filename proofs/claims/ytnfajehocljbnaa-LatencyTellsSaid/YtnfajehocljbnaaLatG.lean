/-
  LatencyOne.
-/
import Derived.Test.YtnfajehocljbnaaLatF
import Derived.Test.YtnfajehocljbnaaSupF
namespace Go.Proofs.Ytnfajehocljbnaa
open Go.RowKit
attribute [local go_sem] max_ints min_ints

theorem kl1 : doneN 1 [((2, 4, 0) : W3)] 0 10 6 2 = 9 := by decide
theorem kl2 : dkN 1 [((2, 4, 0) : W3)] 0 10 10 = [(6, 13)] := by decide

set_option maxRecDepth 100000 in
set_option maxHeartbeats 1600000 in
theorem knowsL (w : World) : Calls Try.prog 19 #[] w fun e w' => e = .returned (.bool true) ∧ Upd (fun _ => False) w w' := by
  go_enter Try.func19, Try.ntmps19
  go_wp2_with fail
  refine (newYes _ w.heap.size 10 1 _ [(2, 4, 0)] (slW1 w (2, 4, 0)) ks1).mono ?_
  rintro e w1 ⟨g, rfl, hg, hT, hU⟩
  obtain ⟨base, hbase⟩ : ∃ base, TabS w1 base g 10 1 [(2, 4, 0)] := ⟨_, hT⟩
  have T1 := Lib.hid hbase
  have U1 := Lib.hid (((Upd.refl (fun _ => False) w).alloc _).trans hU)
  clear hg hT hU hbase
  go_wp2_with fail
  refine (doneL _ base g 10 1 _ T1.out 0 6 2 3 ks6 6 (by decide) 2 (by decide)).mono ?_
  rw [kl1]
  rintro e w2 ⟨rfl, hU⟩
  have T2 := Lib.hid (T1.out.still hU)
  have U2 := Lib.hid (U1.out.trans hU)
  clear hU
  go_wp2_with fail
  refine (darkL _ base g 10 1 _ T2.out 0 3 ks6).mono ?_
  rw [if_neg (by decide), kl2]
  rintro e w3 ⟨v, rfl, hS, hU⟩
  have U3 := Lib.hid (U2.out.trans hU)
  obtain ⟨b, o, c, rfl, _, hb, _, _⟩ := SlR.form hS (by decide)
  obtain ⟨_, _, e, _, hcell⟩ := SlR.rd encS_len hS 0 (6, 13) rfl
  injection e with e
  injection e with e1 e2
  subst e1 e2
  have x0 := hcell 0 _ rfl
  have x1 := hcell 1 _ rfl
  simp only [Nat.zero_mul, Nat.add_zero] at x0 x1
  clear hS hU hcell
  go_wp2_with fail
  go_returns
  exact ⟨rfl, U3.out⟩

set_option maxRecDepth 100000 in
set_option maxHeartbeats 6400000 in
theorem latencyOne_any1 (w : World) (n M : Int) (v : Value) (ws : List W3) (hv : RdW w v ws) (p from_ work : Int) :
    Calls Try.prog 7 #[.int .i64 n, .int .i64 M, v, .int .i64 p, .int .i64 from_, .int .i64 work] w fun e w' => e = .returned (.bool true) ∧ Upd (fun _ => False) w w' := by
  have HV := Lib.hid hv
  obtain ⟨A, cap, rfl, _⟩ := hv
  by_cases hl : ws.length ≤ 60
  · have d0 : decide (60 < (ws.length : Int)) = false := decide_eq_false (by omega)
    have d0' : ¬ 60 < ws.length := by omega
    by_cases hr : rightB n M ws = true
    · have HR := Lib.hid hr
      have hn1 : 1 ≤ n := by
        have := hr
        unfold rightB at this
        simp only [Bool.and_eq_true, decide_eq_true_eq] at this
        omega
      obtain ⟨F, rfl⟩ : ∃ F : Nat, n = F := ⟨n.toNat, by omega⟩
      obtain ⟨hF1, hF2, hM, hM8, hl32, hfit⟩ := rightB_parts hr
      clear hr hfit
      by_cases gw1 : 1 ≤ work
      · have tw1 : decide (work < 1) = false := decide_eq_false (by omega)
        by_cases gw2 : work ≤ 500
        · have tw2 : decide (500 < work) = false := decide_eq_false (by omega)
          by_cases gf0 : 0 ≤ from_
          · have tf0 : decide (from_ < 0) = false := decide_eq_false (by omega)
            by_cases gf1 : from_ ≤ 1099511627776
            · have tf1 : decide (1099511627776 < from_) = false := decide_eq_false (by omega)
              go_enter Try.func7, Try.ntmps7
              go_wp2_with fail
              refine (rightR _ F M _ ws HV.out).mono ?_
              rintro e w1 ⟨rfl, hU⟩
              rw [HR.out]
              have U1 := Lib.hid hU
              clear hU
              go_wp2_with fail
              refine (knowsL _).mono ?_
              rintro e w2 ⟨rfl, hU⟩
              have U2 := Lib.hid (U1.out.trans hU)
              clear hU
              obtain ⟨m, hm⟩ : ∃ m : Nat, work = m := ⟨work.toNat, by omega⟩
              subst hm
              obtain ⟨o, ho⟩ : ∃ o, cntO M ws p F = o := ⟨_, rfl⟩
              have ho1 := cntO_le M ws p F
              rw [ho] at ho1
              have HO := Lib.hid ho
              have hfm : min (max from_ 0) 1152921504606846976 = from_ := by omega
              have hmm : min (max (m : Int) 0) 1048576 = (m : Int) := by omega
              have HFM := Lib.hid hfm; have HMM := Lib.hid hmm
              clear ho hfm hmm
              go_wp2_with fail
              refine (ownYes _ F M _ ws (HV.out.still U2.out) HR.out).mono ?_
              rintro e w3 ⟨base, g, rfl, _, hT, hU⟩
              have T3 := Lib.hid hT
              have U3 := Lib.hid (U2.out.trans hU)
              clear hU hT
              by_cases h0 : o = 0
              · subst h0
                have hdl := fun W hW => doneL W base g F M ws hW p from_ m 0 HO.out from_ HFM.out m HMM.out
                rw [if_pos rfl] at hdl
                have HDL := Lib.hid hdl
                clear hdl
                go_wp2_with fail
                refine (HDL.out _ T3.out).mono ?_
                rintro e w4 ⟨rfl, hU⟩
                have T4 := Lib.hid (T3.out.still hU)
                have U4 := Lib.hid (U3.out.trans hU)
                clear hU
                go_wp2_with fail
                refine (doneNil _ p from_ m).mono ?_
                rintro e w5 ⟨rfl, hU⟩
                have T5 := Lib.hid (T4.out.still hU)
                have U5 := Lib.hid (U4.out.trans hU)
                clear hU
                go_wp2_with fail
                refine (offeredTc _ base g F M ws T5.out p 0 HO.out).mono ?_
                rintro e w6 ⟨rfl, k6, rfl⟩
                go_wp2_with fail
                refine (darkL _ base g F M ws (T5.out.drewN _) p 0 HO.out).mono ?_
                rw [if_pos rfl]
                rintro e w7 ⟨v, rfl, hS, hU⟩
                have U7 := Lib.hid ((U5.out.drewN _).trans hU)
                obtain ⟨A7, c7, rfl⟩ := hS.shape
                clear hS hU
                go_wp2_with fail
                go_returns
                exact ⟨rfl, U7.out⟩
              · have hop : 0 < cntO M ws p F := by rw [HO.out]; omega
                have hF0 : 0 < F := by omega
                have d0 : decide (0 < o) = true := decide_eq_true (by omega)
                obtain ⟨D, hD⟩ : ∃ D, doneN M ws p F from_ m = D := ⟨_, rfl⟩
                have hDis := doneN_is hF0 hop from_ m
                rw [hD] at hDis
                have hDle := doneN_le hF0 hop from_ m
                rw [hD] at hDle
                have hDle2 : D ≤ 500 * 256 := Nat.le_trans hDle (Nat.mul_le_mul (by omega) hF2)
                have hcnt := hDis.cnt
                have hpre := hDis.pred (by omega)
                obtain ⟨j, hj, hw⟩ := wstN_at M ws p F m F hF0
                obtain ⟨W, hW⟩ : ∃ W, doneN M ws p F (j : Int) m = W := ⟨_, rfl⟩
                rw [hW] at hw
                have hWle := doneN_le hF0 hop (j : Int) m
                rw [hW] at hWle
                have hWle2 : W ≤ 500 * 256 := Nat.le_trans hWle (Nat.mul_le_mul (by omega) hF2)
                have hDW : (D : Int) ≤ W := by
                  obtain ⟨a, ha⟩ : ∃ a : Nat, from_ % (F : Int) = a := ⟨(from_ % (F : Int)).toNat, by have := Int.emod_nonneg from_ (show (F : Int) ≠ 0 by omega); omega⟩
                  have haF : a < F := by have := Int.emod_lt_of_pos from_ (show (0 : Int) < (F : Int) by omega); omega
                  have h1 := wstN_le M ws p F m F a haF
                  have h2 := hDis.mod
                  rw [ha] at h2
                  rw [(doneN_is hF0 hop (a : Int) m).eq h2, hw] at h1
                  exact h1
                have hs1 := wsF_up M ws p F m F hF0
                rw [hw] at hs1
                obtain ⟨j1, hj1, hw1⟩ := wstN_at M ws p F 1 F hF0
                obtain ⟨W1, hW1⟩ : ∃ W1, doneN M ws p F (j1 : Int) 1 = W1 := ⟨_, rfl⟩
                rw [hW1] at hw1
                have hs2 := wsF_up M ws p F 1 F hF0
                rw [hw1] at hs2
                have hdw := dark_worst (M := M) (ws := ws) (p := p) hF0 hop
                rw [hw1] at hdw
                obtain ⟨dk, hdk⟩ : ∃ dk, dkN M ws p F F = dk := ⟨_, rfl⟩
                have hdkl := dkN_len M ws p F F
                have hdkm : ∀ s ∈ dk, 0 ≤ s.1 ∧ s.1 ≤ 1000000 ∧ 0 ≤ s.2 ∧ s.2 ≤ 1000000 := by
                  intro s hs
                  rw [← hdk] at hs
                  obtain ⟨i, hi, rfl⟩ := dkN_mem M ws p F F s hs
                  have h1 := doneN_le hF0 hop (i : Int) 1
                  have h2 := doneN_one (hF := hF0) (ho := hop) (M := M) (ws := ws) (p := p) (F := F) (i : Int)
                  dsimp only
                  omega
                rw [hdk] at hdw hdkl
                obtain ⟨lg, hlg⟩ : ∃ lg, lgN dk = lg := ⟨_, rfl⟩
                rw [hlg] at hdw
                have hlgm : dk ≠ [] → 0 ≤ lg.1 ∧ lg.1 ≤ 1000000 ∧ 0 ≤ lg.2 ∧ lg.2 ≤ 1000000 := fun hne => by rw [← hlg]; exact hdkm _ (lgN_mem hne).1
                have hjF : min (max (j : Int) 0) 1152921504606846976 = (j : Int) := by omega
                have hd1 : ∀ W0 : World, TabS W0 base g F M ws → Calls Try.prog 20 #[.pointer (some ⟨g, 0, none⟩), .int .i64 p, .int .i64 from_, .int .i64 m] W0 fun e w' => e = .returned (.tuple #[.int .i64 (from_ + D), .bool true]) ∧ Upd (fun _ => False) W0 w' := fun W0 h => by
                  have := doneL W0 base g F M ws h p from_ m o HO.out from_ HFM.out m HMM.out
                  rw [if_neg h0, hD, d0] at this
                  exact this
                have hd2 : ∀ W0 : World, TabS W0 base g F M ws → Calls Try.prog 20 #[.pointer (some ⟨g, 0, none⟩), .int .i64 p, .int .i64 j, .int .i64 m] W0 fun e w' => e = .returned (.tuple #[.int .i64 ((j : Int) + W), .bool true]) ∧ Upd (fun _ => False) W0 w' := fun W0 h => by
                  have := doneL W0 base g F M ws h p j m o HO.out j hjF m HMM.out
                  rw [if_neg h0, hW, d0] at this
                  exact this
                have hq1 : wsF (if o = 0 then [] else upA M ws p F m F) = ((W : Int), (j : Int), true) := by rw [if_neg h0]; exact hs1
                have hq2 : wsF (if o = 0 then [] else upA M ws p F 1 F) = ((W1 : Int), (j1 : Int), true) := by rw [if_neg h0]; exact hs2
                have HD1 := Lib.hid hd1; have HD2 := Lib.hid hd2; have HQ1 := Lib.hid hq1; have HQ2 := Lib.hid hq2; have HDK := Lib.hid hdk; have HDKM := Lib.hid hdkm; have HLG := Lib.hid hlg; have HDW := Lib.hid hdw; have HLGM := Lib.hid hlgm
                have HCNT := Lib.hid hcnt; have HPRE := Lib.hid hpre.2
                have hD0 := hpre.1
                clear hD hDis hDle hcnt hpre hw hW hWle hs1 hw1 hW1 hs2 hdw hdk hdkm hlg hlgm hjF hd1 hd2 hq1 hq2 hop
                go_wp2_with fail
                refine (HD1.out _ T3.out).mono ?_
                rintro e w4 ⟨rfl, hU⟩
                have T4 := Lib.hid (T3.out.still hU)
                have U4 := Lib.hid (U3.out.trans hU)
                clear hU
                go_wp2_with fail
                refine (doneNil _ p from_ m).mono ?_
                rintro e w5 ⟨rfl, hU⟩
                have T5 := Lib.hid (T4.out.still hU)
                have U5 := Lib.hid (U4.out.trans hU)
                clear hU
                go_wp2_with fail
                refine (offeredTc _ base g F M ws T5.out p o HO.out).mono ?_
                rintro e w6 ⟨rfl, k6, rfl⟩
                go_wp2_with fail
                refine (worstL _ base g F M ws (T5.out.drewN _) p m o HO.out m HMM.out _ HQ1.out).mono ?_
                rintro e w7 ⟨rfl, hU⟩
                have T7 := Lib.hid ((T5.out.drewN _).still hU)
                have U7 := Lib.hid ((U5.out.drewN _).trans hU)
                clear hU
                go_wp2_with fail
                refine (worstL _ base g F M ws T7.out p 1 o HO.out 1 (by decide) _ HQ2.out).mono ?_
                rintro e w8 ⟨rfl, hU⟩
                have T8 := Lib.hid (T7.out.still hU)
                have U8 := Lib.hid (U7.out.trans hU)
                clear hU
                go_wp2_with fail
                refine (darkL _ base g F M ws T8.out p o HO.out).mono ?_
                rw [if_neg h0, HDK.out]
                rintro e w9 ⟨v, rfl, hS, hU⟩
                have T9 := Lib.hid (T8.out.still hU)
                have U9 := Lib.hid (U8.out.trans hU)
                have S9 := Lib.hid hS
                obtain ⟨A9, c9, rfl⟩ := hS.shape
                clear hS hU
                go_wp2_with fail
                refine (longestL _ _ _ dk S9.out (by omega) HDKM.out).mono ?_
                rw [HLG.out]
                rintro e w10 ⟨rfl, hU⟩
                have T10 := Lib.hid (T9.out.still hU)
                have U10 := Lib.hid (U9.out.trans hU)
                clear hU
                have s1 := wrap_in (from_ + D - from_) (by omega) (by omega)
                have s1' : from_ + D - from_ = (D : Int) := by omega
                have s2 := wrap_in ((D : Int) - 1) (by omega) (by omega)
                have s3 := wrap_in ((j : Int) + W - j) (by omega) (by omega)
                have s3' : (j : Int) + W - j = (W : Int) := by omega
                have s4 := wrap_in ((m : Int) - 1) (by omega) (by omega)
                have e1 : min (max (D : Int) 0) 4611686018427387904 = (D : Int) := by omega
                have e2 : min (max ((D : Int) - 1) 0) 4611686018427387904 = ((D - 1 : Nat) : Int) := by omega
                have E1 := Lib.hid e1; have E2 := Lib.hid e2
                have t1 : decide ((D : Int) ≤ W) = true := decide_eq_true hDW
                clear e1 e2
                by_cases hnil : dk = []
                · have dn : decide (dk ≠ []) = false := decide_eq_false (fun h => h hnil)
                  rw [dn]
                  have hg : (W1 : Int) = 1 := by have := HDW.out; rw [if_pos hnil] at this; exact this
                  rw [hg]
                  clear hnil dn hg
                  go_wp2_with fail
                  refine (HD2.out _ (T10.out.still ((Upd.refl _ w10).alloc _))).mono ?_
                  rintro e w11 ⟨rfl, hU⟩
                  have T11 := Lib.hid ((T10.out.still ((Upd.refl _ w10).alloc _)).still hU)
                  have U11 := Lib.hid ((U10.out.alloc _).trans hU)
                  clear hU
                  go_wp2_with fail
                  refine (countT _ base g F M ws T11.out p from_ D D E1.out).mono ?_
                  rw [HCNT.out]
                  rintro e w12 ⟨rfl, k12, rfl⟩
                  go_wp2_with fail
                  refine (countT _ base g F M ws (T11.out.drewN _) p from_ _ (D - 1) E2.out).mono ?_
                  rw [HPRE.out]
                  rintro e w13 ⟨rfl, k13, rfl⟩
                  go_wp2_with fail
                  go_returns
                  exact ⟨by simp, U11.out.drewN _⟩
                · have dn : decide (dk ≠ []) = true := decide_eq_true hnil
                  rw [dn]
                  have hg : (W1 : Int) = lg.2 - lg.1 + 1 := by have := HDW.out; rw [if_neg hnil] at this; exact this
                  have hb := HLGM.out hnil
                  obtain ⟨g0, g1⟩ := lg
                  dsimp only at *
                  have s5 := wrap_in (g1 - g0) (by omega) (by omega)
                  have s6 := wrap_in (g1 - g0 + 1) (by omega) (by omega)
                  rw [hg]
                  clear hnil dn hg
                  go_wp2_with fail
                  refine (HD2.out _ (T10.out.still ((Upd.refl _ w10).alloc _))).mono ?_
                  rintro e w11 ⟨rfl, hU⟩
                  have T11 := Lib.hid ((T10.out.still ((Upd.refl _ w10).alloc _)).still hU)
                  have U11 := Lib.hid ((U10.out.alloc _).trans hU)
                  clear hU
                  go_wp2_with fail
                  refine (countT _ base g F M ws T11.out p from_ D D E1.out).mono ?_
                  rw [HCNT.out]
                  rintro e w12 ⟨rfl, k12, rfl⟩
                  go_wp2_with fail
                  refine (countT _ base g F M ws (T11.out.drewN _) p from_ _ (D - 1) E2.out).mono ?_
                  rw [HPRE.out]
                  rintro e w13 ⟨rfl, k13, rfl⟩
                  go_wp2_with fail
                  go_returns
                  exact ⟨by simp, U11.out.drewN _⟩
            · have tf1 : decide (1099511627776 < from_) = true := decide_eq_true (by omega)
              go_enter Try.func7, Try.ntmps7
              go_wp2_with fail
              refine (rightR _ F M _ ws HV.out).mono ?_
              rintro e w1 ⟨rfl, hU⟩
              rw [HR.out]
              have U1 := Lib.hid hU
              clear hU
              go_wp2_with fail
              refine (knowsL _).mono ?_
              rintro e w2 ⟨rfl, hU⟩
              have U2 := Lib.hid (U1.out.trans hU)
              clear hU
              go_wp2_with fail
              go_returns
              exact ⟨rfl, U2.out⟩
          · have tf0 : decide (from_ < 0) = true := decide_eq_true (by omega)
            go_enter Try.func7, Try.ntmps7
            go_wp2_with fail
            refine (rightR _ F M _ ws HV.out).mono ?_
            rintro e w1 ⟨rfl, hU⟩
            rw [HR.out]
            have U1 := Lib.hid hU
            clear hU
            go_wp2_with fail
            refine (knowsL _).mono ?_
            rintro e w2 ⟨rfl, hU⟩
            have U2 := Lib.hid (U1.out.trans hU)
            clear hU
            go_wp2_with fail
            go_returns
            exact ⟨rfl, U2.out⟩
        · have tw2 : decide (500 < work) = true := decide_eq_true (by omega)
          go_enter Try.func7, Try.ntmps7
          go_wp2_with fail
          refine (rightR _ F M _ ws HV.out).mono ?_
          rintro e w1 ⟨rfl, hU⟩
          rw [HR.out]
          have U1 := Lib.hid hU
          clear hU
          go_wp2_with fail
          refine (knowsL _).mono ?_
          rintro e w2 ⟨rfl, hU⟩
          have U2 := Lib.hid (U1.out.trans hU)
          clear hU
          go_wp2_with fail
          go_returns
          exact ⟨rfl, U2.out⟩
      · have tw1 : decide (work < 1) = true := decide_eq_true (by omega)
        go_enter Try.func7, Try.ntmps7
        go_wp2_with fail
        refine (rightR _ F M _ ws HV.out).mono ?_
        rintro e w1 ⟨rfl, hU⟩
        rw [HR.out]
        have U1 := Lib.hid hU
        clear hU
        go_wp2_with fail
        refine (knowsL _).mono ?_
        rintro e w2 ⟨rfl, hU⟩
        have U2 := Lib.hid (U1.out.trans hU)
        clear hU
        go_wp2_with fail
        go_returns
        exact ⟨rfl, U2.out⟩
    · have HR := Lib.hid (Bool.eq_false_iff.2 hr)
      clear hr
      go_enter Try.func7, Try.ntmps7
      go_wp2_with fail
      refine (rightR _ n M _ ws HV.out).mono ?_
      rintro e w1 ⟨rfl, hU⟩
      rw [HR.out]
      have U1 := Lib.hid hU
      clear hU
      go_wp2_with fail
      refine (knowsL _).mono ?_
      rintro e w2 ⟨rfl, hU⟩
      have U2 := Lib.hid (U1.out.trans hU)
      clear hU
      go_wp2_with fail
      go_returns
      exact ⟨rfl, U2.out⟩
  · have d0 : decide (60 < (ws.length : Int)) = true := decide_eq_true (by omega)
    have d0' : 60 < ws.length := by omega
    go_enter Try.func7, Try.ntmps7
    go_wp2_with fail
    refine (knowsL _).mono ?_
    rintro e w2 ⟨rfl, hU⟩
    have U2 := Lib.hid (hU)
    clear hU
    go_wp2_with fail
    go_returns
    exact ⟨rfl, U2.out⟩

theorem latencyOne_any (w : World) (n : Int) (_ : (Lit.int .i64 n).wf = true) (M : Int) (_ : (Lit.int .i64 M).wf = true) (A : Option Addr) (len cap : Nat) (xs : Nat → Nat → Int) (_ : ∀ k j, k < len → j < 3 → (Lit.int .i64 (xs k j)).wf = true) (hc : Row3 w A len xs)
    (p : Int) (_ : (Lit.int .i64 p).wf = true) (from_ : Int) (_ : (Lit.int .i64 from_).wf = true) (work : Int) (_ : (Lit.int .i64 work).wf = true) :
    Calls Try.prog 7 #[.int .i64 n, .int .i64 M, .slice A len cap, .int .i64 p, .int .i64 from_, .int .i64 work] w fun e w' => e = .returned (.bool true) ∧ Below w.heap.size w w' :=
  (latencyOne_any1 w n M _ _ (rdW_of hc) p from_ work).mono (fun _ _ ⟨h1, h2⟩ => ⟨h1, h2.below (Nat.le_refl _) (fun _ h => h.elim)⟩)
end Go.Proofs.Ytnfajehocljbnaa
