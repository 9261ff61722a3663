/-
  SupplyLeast, SupplyGrows, SupplyWaits.
-/
import Derived.Test.YtnfajehocljbnaaSupF
namespace Go.Proofs.Ytnfajehocljbnaa
open Go.RowKit
attribute [local go_sem] max_ints min_ints


set_option maxRecDepth 100000 in
set_option maxHeartbeats 6400000 in
theorem supplyWaits_any1 (w : World) (n M : Int) (v : Value) (ws : List W3) (hv : RdW w v ws) (p work : Int) :
    Calls Try.prog 5 #[.int .i64 n, .int .i64 M, v, .int .i64 p, .int .i64 work] w fun e w' => e = .returned (.bool true) ∧ Upd (fun _ => False) w w' := by
  have HV := Lib.hid hv
  obtain ⟨A, cap, rfl, _⟩ := hv
  by_cases hl : ws.length ≤ 60
  · have d0 : decide (60 < (ws.length : Int)) = false := decide_eq_false (by omega)
    have d0' : ¬ 60 < ws.length := by omega
    by_cases hr : rightB n M ws = true
    · have HR := Lib.hid hr
      have hn1 : 1 ≤ n := by
        have := hr
        unfold rightB at this
        simp only [Bool.and_eq_true, decide_eq_true_eq] at this
        omega
      obtain ⟨F, rfl⟩ : ∃ F : Nat, n = F := ⟨n.toNat, by omega⟩
      obtain ⟨hF1, hF2, hM, hM8, hl32, hfit⟩ := rightB_parts hr
      clear hr hfit
      by_cases gp0 : 0 ≤ p
      · have tp0 : decide (p < 0) = false := decide_eq_false (by omega)
        by_cases gp5 : p ≤ 5
        · have tp5 : decide (5 < p) = false := decide_eq_false (by omega)
          by_cases gk1 : work ≤ 1073741824
          · have tk1 : decide (1073741824 < work) = false := decide_eq_false (by omega)
            go_enter Try.func5, Try.ntmps5
            go_wp2_with fail
            refine (rightR _ F M _ ws HV.out).mono ?_
            rintro e w1 ⟨rfl, hU⟩
            rw [HR.out]
            have U1 := Lib.hid hU
            clear hU
            go_wp2_with fail
            refine (knowsS _).mono ?_
            rintro e w2 ⟨rfl, hU⟩
            have U2 := Lib.hid (U1.out.trans hU)
            clear hU
            go_wp2_with fail
            refine (ownYes _ F M _ ws (HV.out.still U2.out) HR.out).mono ?_
            rintro e w3 ⟨base, g, rfl, _, hT, hU⟩
            have T3 := Lib.hid hT
            have U3 := Lib.hid (U2.out.trans hU)
            clear hU hT
            go_wp2_with fail
            refine (ofYes _ base g F M ws T3.out p gp0 (by omega)).mono ?_
            rintro e w4 ⟨s, rfl, hS, hU⟩
            have S4 := Lib.hid hS
            have U4 := Lib.hid (U3.out.trans hU)
            clear hU hS
            go_wp2_with fail
            refine (waitS _ base g F M ws p s S4.out work).mono ?_
            rintro e w5 ⟨x, b, rfl, hW, hU⟩
            have S5 := Lib.hid (S4.out.still hU)
            have U5 := Lib.hid (U4.out.trans hU)
            clear hU
            obtain ⟨o, ho⟩ : ∃ o, cntO M ws p F = o := ⟨_, rfl⟩
            have HO := Lib.hid ho
            rcases hW with ⟨h1, rfl, rfl⟩ | ⟨h1, h2, rfl, rfl⟩ | ⟨h1, h2, h3, rfl, k, rfl, hk, h4, h5⟩
            · have u1 : decide (work ≤ 0) = true := decide_eq_true h1
              go_wp2_with fail
              refine (leastS _ base g F M ws p s S5.out 0 0 (by decide) 0 (leN_zero ..)).mono ?_
              rintro e w6 ⟨rfl, k6, rfl⟩
              go_wp2_with fail
              go_returns
              exact ⟨rfl, U5.out.drewN _⟩
            · rw [ho] at h2
              have ho0 : o = 0 := h2.resolve_left (by omega)
              clear h2 ho
              subst ho0
              have u1 : decide (0 < work) = true := decide_eq_true h1
              go_wp2_with fail
              refine (offeredTc _ base g F M ws S5.out.tab p 0 HO.out).mono ?_
              rintro e w6 ⟨rfl, k6, rfl⟩
              go_wp2_with fail
              go_returns
              exact ⟨rfl, U5.out.drewN _⟩
            · obtain ⟨l, hl⟩ : ∃ l, leN M ws p F k = l := ⟨_, rfl⟩
              rw [hl] at h4
              have HL := Lib.hid hl
              have u1 : decide (work ≤ l) = true := decide_eq_true h4
              have hk0 : k ≠ 0 := fun e => by
                subst e
                rw [leN_zero] at hl
                omega
              obtain ⟨j, rfl⟩ : ∃ j, k = j + 1 := ⟨k - 1, by omega⟩
              obtain ⟨l', hl'⟩ : ∃ l', leN M ws p F j = l' := ⟨_, rfl⟩
              have h6 := h5 j (by omega)
              rw [hl'] at h6
              have HL' := Lib.hid hl'
              have u2 : decide (l' < work) = true := decide_eq_true h6
              have s1 : IntKind.i64.wrap (((j + 1 : Nat) : Int) - 1) = (j : Int) := by rw [wrap_in _ (by omega) (by omega)]; omega
              have u3 : (((j + 1 : Nat) : Int) == 0) = false := beq_eq_false_iff_ne.2 (by omega)
              clear hl hl' ho h5
              obtain ⟨j1, hj1⟩ : ∃ j1 : Nat, j + 1 = j1 := ⟨_, rfl⟩
              rw [hj1] at s1 u3 HL hk ⊢
              have hj2 : min (max (j : Int) 0) 1125899906842624 = (j : Int) := by omega
              have hj3 : min (max (j1 : Int) 0) 1125899906842624 = (j1 : Int) := by omega
              clear hj1 hk0
              go_wp2_with fail
              refine (leastS _ base g F M ws p s S5.out j1 j1 hj3 l HL.out).mono ?_
              rintro e w6 ⟨rfl, k6, rfl⟩
              go_wp2_with fail
              refine (leastS _ base g F M ws p s (S5.out.drewN _) j j hj2 l' HL'.out).mono ?_
              rintro e w7 ⟨rfl, k7, rfl⟩
              go_wp2_with fail
              go_returns
              exact ⟨rfl, U5.out.drewN _⟩
          · have tk1 : decide (1073741824 < work) = true := decide_eq_true (by omega)
            go_enter Try.func5, Try.ntmps5
            go_wp2_with fail
            refine (rightR _ F M _ ws HV.out).mono ?_
            rintro e w1 ⟨rfl, hU⟩
            rw [HR.out]
            have U1 := Lib.hid hU
            clear hU
            go_wp2_with fail
            refine (knowsS _).mono ?_
            rintro e w2 ⟨rfl, hU⟩
            have U2 := Lib.hid (U1.out.trans hU)
            clear hU
            go_wp2_with fail
            go_returns
            exact ⟨rfl, U2.out⟩
        · have tp5 : decide (5 < p) = true := decide_eq_true (by omega)
          go_enter Try.func5, Try.ntmps5
          go_wp2_with fail
          refine (rightR _ F M _ ws HV.out).mono ?_
          rintro e w1 ⟨rfl, hU⟩
          rw [HR.out]
          have U1 := Lib.hid hU
          clear hU
          go_wp2_with fail
          refine (knowsS _).mono ?_
          rintro e w2 ⟨rfl, hU⟩
          have U2 := Lib.hid (U1.out.trans hU)
          clear hU
          go_wp2_with fail
          go_returns
          exact ⟨rfl, U2.out⟩
      · have tp0 : decide (p < 0) = true := decide_eq_true (by omega)
        go_enter Try.func5, Try.ntmps5
        go_wp2_with fail
        refine (rightR _ F M _ ws HV.out).mono ?_
        rintro e w1 ⟨rfl, hU⟩
        rw [HR.out]
        have U1 := Lib.hid hU
        clear hU
        go_wp2_with fail
        refine (knowsS _).mono ?_
        rintro e w2 ⟨rfl, hU⟩
        have U2 := Lib.hid (U1.out.trans hU)
        clear hU
        go_wp2_with fail
        go_returns
        exact ⟨rfl, U2.out⟩
    · have HR := Lib.hid (Bool.eq_false_iff.2 hr)
      clear hr
      go_enter Try.func5, Try.ntmps5
      go_wp2_with fail
      refine (rightR _ n M _ ws HV.out).mono ?_
      rintro e w1 ⟨rfl, hU⟩
      rw [HR.out]
      have U1 := Lib.hid hU
      clear hU
      go_wp2_with fail
      refine (knowsS _).mono ?_
      rintro e w2 ⟨rfl, hU⟩
      have U2 := Lib.hid (U1.out.trans hU)
      clear hU
      go_wp2_with fail
      go_returns
      exact ⟨rfl, U2.out⟩
  · have d0 : decide (60 < (ws.length : Int)) = true := decide_eq_true (by omega)
    have d0' : 60 < ws.length := by omega
    go_enter Try.func5, Try.ntmps5
    go_wp2_with fail
    refine (knowsS _).mono ?_
    rintro e w2 ⟨rfl, hU⟩
    have U2 := Lib.hid (hU)
    clear hU
    go_wp2_with fail
    go_returns
    exact ⟨rfl, U2.out⟩

theorem supplyWaits_any (w : World) (n : Int) (_ : (Lit.int .i64 n).wf = true) (M : Int) (_ : (Lit.int .i64 M).wf = true) (A : Option Addr) (len cap : Nat) (xs : Nat → Nat → Int) (_ : ∀ k j, k < len → j < 3 → (Lit.int .i64 (xs k j)).wf = true) (hc : Row3 w A len xs)
    (p : Int) (_ : (Lit.int .i64 p).wf = true) (work : Int) (_ : (Lit.int .i64 work).wf = true) :
    Calls Try.prog 5 #[.int .i64 n, .int .i64 M, .slice A len cap, .int .i64 p, .int .i64 work] w fun e w' => e = .returned (.bool true) ∧ Below w.heap.size w w' :=
  (supplyWaits_any1 w n M _ _ (rdW_of hc) p work).mono (fun _ _ ⟨h1, h2⟩ => ⟨h1, h2.below (Nat.le_refl _) (fun _ h => h.elim)⟩)
end Go.Proofs.Ytnfajehocljbnaa
