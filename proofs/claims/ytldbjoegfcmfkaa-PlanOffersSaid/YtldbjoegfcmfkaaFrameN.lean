/-
  The walk of the statement FrameRound.
-/
import Derived.Test.YtldbjoegfcmfkaaFrameM
namespace Go.Proofs.Ytldbjoegfcmfkaa
open Go.RowKit
attribute [local go_sem] max_ints min_ints

theorem cntF_zero (M : Int) (ws : List W3) (p F f : Int) (n : Nat) (h : ∀ i : Nat, i < n → isO M ws p ((f + i) % F) = false) : cntF M ws p F f n = 0 := by
  have h1 := cntF_le M ws p F f n
  by_cases h2 : 0 < cntF M ws p F f n
  · obtain ⟨i, hi, h3⟩ := (cntF_pos M ws p F f n).1 h2
    rw [h i hi] at h3
    cases h3
  · omega
theorem NextIs.some {M : Int} {ws : List W3} {p : Int} {F : Nat} {f x : Int} {b : Bool} (h : NextIs M ws p F f x b) (hF : 0 < F) : (b = false ∧ cntO M ws p F = 0) ∨ (b = true ∧ 0 < cntO M ws p F ∧ ∃ k : Nat, k < F ∧ x = f + k ∧ cntF M ws p F f k = 0 ∧ cntF M ws p F x 1 = 1) := by
  have hfr := cntF_frame M ws p F hF f
  rcases h with ⟨k, h1, h2, h3, rfl, rfl⟩ | ⟨h1, rfl, rfl⟩
  · refine .inr ⟨rfl, ?_, k, h1, rfl, cntF_zero M ws p F f k h3, ?_⟩
    · rw [← hfr]
      exact (cntF_pos M ws p F f F).2 ⟨k, h1, h2⟩
    · simp [cntF, h2]
  · exact .inl ⟨rfl, by rw [← hfr]; exact cntF_zero M ws p F f F h1⟩
theorem isO_own {M : Int} {ws : List W3} {p pl o1 o2 : Int} (h : ownR M pl ws = (o1, o2)) : isO M ws p pl = (decide (o1 = p) && decide (o2 = 2)) := by
  unfold isO
  rw [h, Bool.eq_iff_iff]
  simp

set_option maxRecDepth 100000 in
set_option maxHeartbeats 3200000 in
theorem round_any (w : World) (n M : Int) (v : Value) (ws : List W3) (hv : RdW w v ws) (p tick many : Int) :
    Calls Try.prog 7 #[.int .i64 n, .int .i64 M, v, .int .i64 p, .int .i64 tick, .int .i64 many] w fun e w' => e = .returned (.bool true) ∧ Upd (fun _ => False) w w' := by
  have HV := Lib.hid hv
  obtain ⟨A, cap, hsh, _⟩ := hv
  subst hsh
  by_cases hl : ws.length ≤ 60
  · have d0 : decide (60 < (ws.length : Int)) = false := decide_eq_false (by omega)
    have d0' : ¬ 60 < ws.length := by omega
    by_cases hr : rightB n M ws = true
    · have HR := Lib.hid hr
      by_cases g1 : -2305843009213693952 ≤ tick
      · have d1 : decide (tick < -2305843009213693952) = false := decide_eq_false (by omega)
        by_cases g2 : tick ≤ 2305843009213693952
        · have d2 : decide (2305843009213693952 < tick) = false := decide_eq_false (by omega)
          by_cases g3 : 0 ≤ many
          · have d3 : decide (many < 0) = false := decide_eq_false (by omega)
            by_cases g4 : many ≤ 600
            · have d4 : decide (600 < many) = false := decide_eq_false (by omega)
              have hn1 : 1 ≤ n := by
                have := hr
                unfold rightB at this
                simp only [Bool.and_eq_true, decide_eq_true_eq] at this
                omega
              obtain ⟨F, rfl⟩ : ∃ F : Nat, n = F := ⟨n.toNat, by omega⟩
              obtain ⟨mn, rfl⟩ : ∃ mn : Nat, many = mn := ⟨many.toNat, by omega⟩
              obtain ⟨hF1, hF2, hM, hM8, hl32, hfit⟩ := rightB_parts hr
              have d4' : mn ≤ 600 := by omega
              clear hr hfit
              go_enter Try.func7, Try.ntmps7
              go_wp2_with fail
              refine (rightR _ F M _ ws HV.out).mono ?_
              rintro e w1 ⟨rfl, hU⟩
              rw [HR.out]
              have U1 := Lib.hid hU
              clear hU
              go_wp2_with fail
              refine (knowsF _).mono ?_
              rintro e w2 ⟨rfl, hU⟩
              have U2 := Lib.hid (U1.out.trans hU)
              clear hU
              go_wp2_with fail
              refine (ownYes _ F M _ ws (HV.out.still U2.out) HR.out).mono ?_
              rintro e w3 ⟨base, g, rfl, hg, hT, hU⟩
              have T3 := Lib.hid hT
              have U3 := Lib.hid (U2.out.trans hU)
              clear hU hT hg
              obtain ⟨⟨o1, o2⟩, ho⟩ : ∃ o, ownR M (tick % (F : Int)) ws = o := ⟨_, rfl⟩
              have HO := Lib.hid ho
              have HO' : Hid (ownR M ((tick + (F : Int)) % (F : Int)) ws = (o1, o2)) := Lib.hid (by rw [Int.add_emod_right]; exact ho)
              clear ho
              go_wp2_with fail
              refine (ownerT _ base g F M ws T3.out tick).mono ?_
              rintro e w4 ⟨rfl, hU⟩
              rw [HO.out]
              have T4 := Lib.hid (T3.out.still hU)
              have U4 := Lib.hid (U3.out.trans hU)
              clear hU
              go_wp2_with fail
              refine (ownerT _ base g F M ws T4.out (tick + F)).mono ?_
              rintro e w5 ⟨rfl, hU⟩
              rw [HO'.out]
              have T5 := Lib.hid (T4.out.still hU)
              have U5 := Lib.hid (U4.out.trans hU)
              clear hU
              obtain ⟨c, hc⟩ : ∃ c, cntO M ws p F = c := ⟨_, rfl⟩
              have HC := Lib.hid hc
              have HCF : Hid (cntF M ws p F tick F = c) := Lib.hid (by rw [cntF_frame M ws p F (by omega)]; exact hc)
              clear hc
              go_wp2_with fail
              refine (countT _ base g F M ws T5.out p tick F F (by omega)).mono ?_
              rintro e w6 ⟨rfl, k6, rfl⟩
              rw [HCF.out]
              have T6 := Lib.hid (T5.out.drewN k6)
              go_wp2_with fail
              refine (offeredTc _ base g F M ws T6.out p c HC.out).mono ?_
              rintro e w7 ⟨rfl, k7, rfl⟩
              go_wp2_with fail
              have T7 := Lib.hid (T5.out.drewN (k6 + k7))
              have U7 := Lib.hid (U5.out.drewN (k6 + k7))
              generalize w5.drewN (k6 + k7) = W at *
              go_loopw [18, 19] (fun vs vi wr => ∃ i : Nat, i ≤ mn ∧ vi = .int .i64 i ∧ vs = .int .i64 (cntF M ws p F tick i) ∧ Upd (fun _ => False) W wr) (fun _ vi _ => mn - (intOf vi).toNat)
              case atStart => exact ⟨0, Nat.zero_le _, rfl, rfl, Upd.refl _ W⟩
              case round =>
                obtain ⟨i, hi, rfl, rfl, hU⟩ := hrel
                have HU := Lib.hid hU
                clear hU
                have hci := cntF_le M ws p F tick i
                obtain ⟨c1, hc1⟩ : ∃ c, cntF M ws p F tick i = c := ⟨_, rfl⟩
                rw [hc1] at hci ⊢
                have HC1 := Lib.hid hc1
                clear hc1
                by_cases hlt : i < mn
                · obtain ⟨⟨q1, q2⟩, hq⟩ : ∃ o, ownR M ((tick + (i : Int)) % (F : Int)) ws = o := ⟨_, rfl⟩
                  have HQ := Lib.hid hq
                  have HI := Lib.hid (isO_own (p := p) hq)
                  clear hq
                  go_wp2_with fail
                  refine (ownerT _ base g F M ws (T7.out.still HU.out) (tick + (i : Int))).mono ?_
                  rintro e w8 ⟨rfl, hU⟩
                  rw [HQ.out]
                  have U8 := Lib.hid (HU.out.trans hU)
                  clear hU
                  by_cases h1 : q1 = p
                  · have e1 : (q1 == p) = true := beq_iff_eq.2 h1
                    by_cases h2 : q2 = 2
                    · have e2 : (q2 == 2) = true := beq_iff_eq.2 h2
                      have HB : Hid (isO M ws p ((tick + (i : Int)) % (F : Int)) = true) := Lib.hid (by rw [HI.out, decide_eq_true h1, decide_eq_true h2]; rfl)
                      clear h1 h2
                      go_wp2_with fail
                      go_roundw
                      case rel => exact ⟨i + 1, by omega, by go_num, by rw [cntF, HC1.out, HB.out]; simp, U8.out⟩
                      case measure => simp [intOf]; omega
                    · have e2 : (q2 == 2) = false := beq_eq_false_iff_ne.2 h2
                      have HB : Hid (isO M ws p ((tick + (i : Int)) % (F : Int)) = false) := Lib.hid (by rw [HI.out, decide_eq_false h2]; simp)
                      clear h1 h2
                      go_wp2_with fail
                      go_roundw
                      case rel => exact ⟨i + 1, by omega, by go_num, by rw [cntF, HC1.out, HB.out]; simp, U8.out⟩
                      case measure => simp [intOf]; omega
                  · have e1 : (q1 == p) = false := beq_eq_false_iff_ne.2 h1
                    have HB : Hid (isO M ws p ((tick + (i : Int)) % (F : Int)) = false) := Lib.hid (by rw [HI.out, decide_eq_false h1]; rfl)
                    clear h1
                    go_wp2_with fail
                    go_roundw
                    case rel => exact ⟨i + 1, by omega, by go_num, by rw [cntF, HC1.out, HB.out]; simp, U8.out⟩
                    case measure => simp [intOf]; omega
                · have hie : i = mn := by omega
                  subst hie
                  go_wp2_with fail
                  refine (nextT _ base g F M ws (T7.out.still HU.out) p tick tick (by omega) (by omega)).mono ?_
                  rintro e w8 ⟨x, b, rfl, hN, hU⟩
                  have U8 := Lib.hid (HU.out.trans hU)
                  have hS := hN.some (by omega)
                  rw [HC.out] at hS
                  clear hU hN
                  go_wp2_with fail
                  refine (offeredTc _ base g F M ws (T7.out.still U8.out) p c HC.out).mono ?_
                  rintro e w9 ⟨rfl, k9, rfl⟩
                  have U9 := Lib.hid (U8.out.drewN k9)
                  rcases hS with ⟨rfl, hc0⟩ | ⟨rfl, hc0, k, hkF, rfl, hz, ho⟩
                  · have e0 : decide (0 < c) = false := decide_eq_false (by omega)
                    go_wp2_with fail
                    refine (countT _ base g F M ws (T7.out.still U9.out) p tick i i (by omega)).mono ?_
                    rintro e w10 ⟨rfl, k10, rfl⟩
                    rw [HC1.out]
                    go_wp2_with fail
                    go_returns
                    exact ⟨by simp, U7.out.trans (U8.out.drewN _)⟩
                  · have e0 : decide (0 < c) = true := decide_eq_true hc0
                    have e1 : decide (tick + (k : Int) < tick) = false := decide_eq_false (by omega)
                    have e2 : ¬ (tick + (k : Int) < tick) := by omega
                    have HZ := Lib.hid hz; have HOne := Lib.hid ho
                    have w1 : IntKind.i64.wrap (tick + (k : Int) - tick) = (k : Int) := by rw [wrap_in _ (by omega) (by omega)]; omega
                    clear hz ho
                    go_wp2_with fail
                    refine (countT _ base g F M ws (T7.out.still U9.out) p tick k k (by omega)).mono ?_
                    rintro e w10 ⟨rfl, k10, rfl⟩
                    rw [HZ.out]
                    have U10 := Lib.hid (U8.out.drewN (k9 + k10))
                    go_wp2_with fail
                    refine (countT _ base g F M ws (T7.out.still U10.out) p (tick + (k : Int)) 1 1 (by decide)).mono ?_
                    rintro e w11 ⟨rfl, k11, rfl⟩
                    rw [HOne.out]
                    have U11 := Lib.hid (U8.out.drewN (k9 + k10 + k11))
                    go_wp2_with fail
                    refine (countT _ base g F M ws (T7.out.still U11.out) p tick i i (by omega)).mono ?_
                    rintro e w12 ⟨rfl, k12, rfl⟩
                    rw [HC1.out]
                    go_wp2_with fail
                    go_returns
                    exact ⟨by simp, U7.out.trans (U8.out.drewN _)⟩
            · have d4 : decide (600 < many) = true := decide_eq_true (by omega)
              go_enter Try.func7, Try.ntmps7
              go_wp2_with fail
              refine (rightR _ n M _ ws HV.out).mono ?_
              rintro e w1 ⟨rfl, hU⟩
              rw [HR.out]
              have U1 := Lib.hid hU
              clear hU
              go_wp2_with fail
              refine (knowsF _).mono ?_
              rintro e w2 ⟨rfl, hU⟩
              have U2 := Lib.hid (U1.out.trans hU)
              clear hU
              go_wp2_with fail
              go_returns
              exact ⟨rfl, U2.out⟩
          · have d3 : decide (many < 0) = true := decide_eq_true (by omega)
            go_enter Try.func7, Try.ntmps7
            go_wp2_with fail
            refine (rightR _ n M _ ws HV.out).mono ?_
            rintro e w1 ⟨rfl, hU⟩
            rw [HR.out]
            have U1 := Lib.hid hU
            clear hU
            go_wp2_with fail
            refine (knowsF _).mono ?_
            rintro e w2 ⟨rfl, hU⟩
            have U2 := Lib.hid (U1.out.trans hU)
            clear hU
            go_wp2_with fail
            go_returns
            exact ⟨rfl, U2.out⟩
        · have d2 : decide (2305843009213693952 < tick) = true := decide_eq_true (by omega)
          go_enter Try.func7, Try.ntmps7
          go_wp2_with fail
          refine (rightR _ n M _ ws HV.out).mono ?_
          rintro e w1 ⟨rfl, hU⟩
          rw [HR.out]
          have U1 := Lib.hid hU
          clear hU
          go_wp2_with fail
          refine (knowsF _).mono ?_
          rintro e w2 ⟨rfl, hU⟩
          have U2 := Lib.hid (U1.out.trans hU)
          clear hU
          go_wp2_with fail
          go_returns
          exact ⟨rfl, U2.out⟩
      · have d1 : decide (tick < -2305843009213693952) = true := decide_eq_true (by omega)
        go_enter Try.func7, Try.ntmps7
        go_wp2_with fail
        refine (rightR _ n M _ ws HV.out).mono ?_
        rintro e w1 ⟨rfl, hU⟩
        rw [HR.out]
        have U1 := Lib.hid hU
        clear hU
        go_wp2_with fail
        refine (knowsF _).mono ?_
        rintro e w2 ⟨rfl, hU⟩
        have U2 := Lib.hid (U1.out.trans hU)
        clear hU
        go_wp2_with fail
        go_returns
        exact ⟨rfl, U2.out⟩
    · have HR := Lib.hid (Bool.eq_false_iff.2 hr)
      go_enter Try.func7, Try.ntmps7
      go_wp2_with fail
      refine (rightR _ n M _ ws HV.out).mono ?_
      rintro e w1 ⟨rfl, hU⟩
      rw [HR.out]
      have U1 := Lib.hid hU
      clear hU
      go_wp2_with fail
      refine (knowsF _).mono ?_
      rintro e w2 ⟨rfl, hU⟩
      have U2 := Lib.hid (U1.out.trans hU)
      clear hU
      go_wp2_with fail
      go_returns
      exact ⟨rfl, U2.out⟩
  · have d0 : decide (60 < (ws.length : Int)) = true := decide_eq_true (by omega)
    have d0' : 60 < ws.length := by omega
    go_enter Try.func7, Try.ntmps7
    go_wp2_with fail
    refine (knowsF _).mono ?_
    rintro e w1 ⟨rfl, hU⟩
    have HU := Lib.hid hU
    clear hU
    go_wp2_with fail
    go_returns
    exact ⟨rfl, HU.out⟩

theorem rdW_of {W : World} {A : Option Addr} {len cap : Nat} {xs : Nat → Nat → Int} (hc : Row3 W A len xs) : RdW W (.slice A len cap) ((List.range len).map (fun k => (xs k 0, xs k 1, xs k 2))) := by
  refine ⟨A, cap, by simp, fun i x hx => ?_⟩
  simp only [List.getElem?_map, Option.map_eq_some_iff] at hx
  obtain ⟨k, hk, rfl⟩ := hx
  obtain ⟨hi, rfl⟩ := List.getElem?_eq_some_iff.1 hk
  simp only [List.getElem_range] at *
  obtain ⟨b, o, h1, h2, h3, h4, h5⟩ := hc i (by simpa using hi)
  exact ⟨b, o, h1, h2, h3, h4, h5⟩

theorem frameRound_any (w : World) (n : Int) (_ : (Lit.int .i64 n).wf = true) (M : Int) (_ : (Lit.int .i64 M).wf = true) (A : Option Addr) (len cap : Nat) (xs : Nat → Nat → Int) (_ : ∀ k j, k < len → j < 3 → (Lit.int .i64 (xs k j)).wf = true) (hc : Row3 w A len xs)
    (p : Int) (_ : (Lit.int .i64 p).wf = true) (tick : Int) (_ : (Lit.int .i64 tick).wf = true) (many : Int) (_ : (Lit.int .i64 many).wf = true) :
    Calls Try.prog 7 #[.int .i64 n, .int .i64 M, .slice A len cap, .int .i64 p, .int .i64 tick, .int .i64 many] w fun e w' => e = .returned (.bool true) ∧ Below w.heap.size w w' :=
  (round_any w n M _ _ (rdW_of hc) p tick many).mono (fun _ _ ⟨h1, h2⟩ => ⟨h1, h2.below (Nat.le_refl _) (fun _ h => h.elim)⟩)
end Go.Proofs.Ytldbjoegfcmfkaa
