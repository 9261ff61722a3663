/-
  SupplyLeast, SupplyGrows, SupplyWaits.
-/
import Derived.Test.YtnfajehocljbnaaSupF
namespace Go.Proofs.Ytnfajehocljbnaa
open Go.RowKit
attribute [local go_sem] max_ints min_ints


set_option maxRecDepth 100000 in
set_option maxHeartbeats 6400000 in
theorem supplyGrows_any1 (w : World) (n M : Int) (v : Value) (ws : List W3) (hv : RdW w v ws) (p a b : Int) :
    Calls Try.prog 4 #[.int .i64 n, .int .i64 M, v, .int .i64 p, .int .i64 a, .int .i64 b] w fun e w' => e = .returned (.bool true) ∧ Upd (fun _ => False) w w' := by
  have HV := Lib.hid hv
  obtain ⟨A, cap, rfl, _⟩ := hv
  by_cases hl : ws.length ≤ 60
  · have d0 : decide (60 < (ws.length : Int)) = false := decide_eq_false (by omega)
    have d0' : ¬ 60 < ws.length := by omega
    by_cases hr : rightB n M ws = true
    · have HR := Lib.hid hr
      have hn1 : 1 ≤ n := by
        have := hr
        unfold rightB at this
        simp only [Bool.and_eq_true, decide_eq_true_eq] at this
        omega
      obtain ⟨F, rfl⟩ : ∃ F : Nat, n = F := ⟨n.toNat, by omega⟩
      obtain ⟨hF1, hF2, hM, hM8, hl32, hfit⟩ := rightB_parts hr
      clear hr hfit
      by_cases gp0 : 0 ≤ p
      · have tp0 : decide (p < 0) = false := decide_eq_false (by omega)
        by_cases gp5 : p ≤ 5
        · have tp5 : decide (5 < p) = false := decide_eq_false (by omega)
          by_cases ga0 : 0 ≤ a
          · have ta0 : decide (a < 0) = false := decide_eq_false (by omega)
            by_cases gb0 : 0 ≤ b
            · have tb0 : decide (b < 0) = false := decide_eq_false (by omega)
              by_cases ga1 : a ≤ 1099511627776
              · have ta1 : decide (1099511627776 < a) = false := decide_eq_false (by omega)
                by_cases gb1 : b ≤ 1099511627776
                · have tb1 : decide (1099511627776 < b) = false := decide_eq_false (by omega)
                  go_enter Try.func4, Try.ntmps4
                  go_wp2_with fail
                  refine (rightR _ F M _ ws HV.out).mono ?_
                  rintro e w1 ⟨rfl, hU⟩
                  rw [HR.out]
                  have U1 := Lib.hid hU
                  clear hU
                  go_wp2_with fail
                  refine (knowsS _).mono ?_
                  rintro e w2 ⟨rfl, hU⟩
                  have U2 := Lib.hid (U1.out.trans hU)
                  clear hU
                  obtain ⟨x, hx⟩ : ∃ x : Nat, a = x := ⟨a.toNat, by omega⟩
                  subst hx
                  obtain ⟨y, hy⟩ : ∃ y : Nat, b = y := ⟨b.toNat, by omega⟩
                  subst hy
                  obtain ⟨l, hl⟩ : ∃ l, leN M ws p F x = l := ⟨_, rfl⟩
                  obtain ⟨l1, hl1⟩ : ∃ l1, leN M ws p F (x + 1) = l1 := ⟨_, rfl⟩
                  obtain ⟨l2, hl2⟩ : ∃ l2, leN M ws p F y = l2 := ⟨_, rfl⟩
                  obtain ⟨l3, hl3⟩ : ∃ l3, leN M ws p F (x + y) = l3 := ⟨_, rfl⟩
                  obtain ⟨o, ho⟩ : ∃ o, cntO M ws p F = o := ⟨_, rfl⟩
                  have h1 := leN_step M ws p F (by omega) x
                  have h2 := leN_add M ws p F (by omega) x y
                  have h3 := leN_split M ws p F (by omega) 1 x
                  have h4 := leN_nn M ws p F x
                  have h5 := leN_nn M ws p F y
                  have h6 := leN_nn M ws p F (x + y)
                  have ho1 := cntO_le M ws p F
                  rw [ho] at h3 ho1
                  rw [hl, hl1] at h1
                  rw [hl, hl2, hl3] at h2
                  rw [hl] at h3 h4
                  rw [hl2] at h5
                  rw [hl3] at h6
                  have h3' : leN M ws p F (x + F) = l + o := by rw [show x + F = 1 * F + x by omega, h3]; omega
                  have HL := Lib.hid hl; have HL1 := Lib.hid hl1; have HL2 := Lib.hid hl2; have HL3 := Lib.hid hl3; have HO := Lib.hid ho; have H3 := Lib.hid h3'
                  obtain ⟨z1, hz1⟩ : ∃ z1 : Nat, x + 1 = z1 := ⟨_, rfl⟩
                  obtain ⟨z2, hz2⟩ : ∃ z2 : Nat, x + F = z2 := ⟨_, rfl⟩
                  obtain ⟨z3, hz3⟩ : ∃ z3 : Nat, x + y = z3 := ⟨_, rfl⟩
                  rw [hz1] at HL1
                  rw [hz2] at H3
                  rw [hz3] at HL3
                  have b1 : min (max (x : Int) 0) 1125899906842624 = (x : Int) := by omega
                  have b2 : min (max (y : Int) 0) 1125899906842624 = (y : Int) := by omega
                  have b3 : min (max (z1 : Int) 0) 1125899906842624 = (z1 : Int) := by omega
                  have b4 : min (max (z2 : Int) 0) 1125899906842624 = (z2 : Int) := by omega
                  have b5 : min (max (z3 : Int) 0) 1125899906842624 = (z3 : Int) := by omega
                  have B1 := Lib.hid b1; have B2 := Lib.hid b2; have B3 := Lib.hid b3; have B4 := Lib.hid b4; have B5 := Lib.hid b5
                  have s1 : IntKind.i64.wrap ((x : Int) + 1) = (z1 : Int) := by rw [wrap_in _ (by omega) (by omega)]; omega
                  have s2 := wrap_in (l1 - l) (by omega) (by omega)
                  have s3 : IntKind.i64.wrap ((x : Int) + (F : Int)) = (z2 : Int) := by rw [wrap_in _ (by omega) (by omega)]; omega
                  have s4 := wrap_in (l + o) (by omega) (by omega)
                  have s5 : IntKind.i64.wrap ((x : Int) + (y : Int)) = (z3 : Int) := by rw [wrap_in _ (by omega) (by omega)]; omega
                  have s6 := wrap_in (l + l2) (by omega) (by omega)
                  have u1 : decide (0 ≤ l1 - l) = true := decide_eq_true (by omega)
                  have u2 : decide (l1 - l ≤ 1) = true := decide_eq_true (by omega)
                  have u3 : decide (l + l2 ≤ l3) = true := decide_eq_true (by omega)
                  clear hl hl1 hl2 hl3 ho h3 h3' hz1 hz2 hz3 b1 b2 b3 b4 b5
                  go_wp2_with fail
                  refine (ownYes _ F M _ ws (HV.out.still U2.out) HR.out).mono ?_
                  rintro e w3 ⟨base, g, rfl, _, hT, hU⟩
                  have T3 := Lib.hid hT
                  have U3 := Lib.hid (U2.out.trans hU)
                  clear hU hT
                  go_wp2_with fail
                  refine (ofYes _ base g F M ws T3.out p gp0 (by omega)).mono ?_
                  rintro e w4 ⟨s, rfl, hS, hU⟩
                  have S4 := Lib.hid hS
                  have U4 := Lib.hid (U3.out.trans hU)
                  clear hU hS
                  go_wp2_with fail
                  refine (leastS _ base g F M ws p s S4.out x x B1.out l HL.out).mono ?_
                  rintro e w5 ⟨rfl, k5, rfl⟩
                  go_wp2_with fail
                  refine (leastS _ base g F M ws p s (S4.out.drewN _) _ z1 B3.out l1 HL1.out).mono ?_
                  rintro e w6 ⟨rfl, k6, rfl⟩
                  go_wp2_with fail
                  refine (leastS _ base g F M ws p s (S4.out.drewN _) 0 0 (by decide) 0 (leN_zero ..)).mono ?_
                  rintro e w7 ⟨rfl, k7, rfl⟩
                  go_wp2_with fail
                  refine (leastS _ base g F M ws p s (S4.out.drewN _) _ z2 B4.out (l + o) H3.out).mono ?_
                  rintro e w8 ⟨rfl, k8, rfl⟩
                  go_wp2_with fail
                  refine (offeredTc _ base g F M ws (S4.out.tab.drewN _) p o HO.out).mono ?_
                  rintro e w9 ⟨rfl, k9, rfl⟩
                  go_wp2_with fail
                  refine (leastS _ base g F M ws p s (S4.out.drewN _) _ z3 B5.out l3 HL3.out).mono ?_
                  rintro e w10 ⟨rfl, k10, rfl⟩
                  go_wp2_with fail
                  refine (leastS _ base g F M ws p s (S4.out.drewN _) y y B2.out l2 HL2.out).mono ?_
                  rintro e w11 ⟨rfl, k11, rfl⟩
                  go_wp2_with fail
                  go_returns
                  exact ⟨rfl, U4.out.drewN _⟩
                · have tb1 : decide (1099511627776 < b) = true := decide_eq_true (by omega)
                  go_enter Try.func4, Try.ntmps4
                  go_wp2_with fail
                  refine (rightR _ F M _ ws HV.out).mono ?_
                  rintro e w1 ⟨rfl, hU⟩
                  rw [HR.out]
                  have U1 := Lib.hid hU
                  clear hU
                  go_wp2_with fail
                  refine (knowsS _).mono ?_
                  rintro e w2 ⟨rfl, hU⟩
                  have U2 := Lib.hid (U1.out.trans hU)
                  clear hU
                  go_wp2_with fail
                  go_returns
                  exact ⟨rfl, U2.out⟩
              · have ta1 : decide (1099511627776 < a) = true := decide_eq_true (by omega)
                go_enter Try.func4, Try.ntmps4
                go_wp2_with fail
                refine (rightR _ F M _ ws HV.out).mono ?_
                rintro e w1 ⟨rfl, hU⟩
                rw [HR.out]
                have U1 := Lib.hid hU
                clear hU
                go_wp2_with fail
                refine (knowsS _).mono ?_
                rintro e w2 ⟨rfl, hU⟩
                have U2 := Lib.hid (U1.out.trans hU)
                clear hU
                go_wp2_with fail
                go_returns
                exact ⟨rfl, U2.out⟩
            · have tb0 : decide (b < 0) = true := decide_eq_true (by omega)
              go_enter Try.func4, Try.ntmps4
              go_wp2_with fail
              refine (rightR _ F M _ ws HV.out).mono ?_
              rintro e w1 ⟨rfl, hU⟩
              rw [HR.out]
              have U1 := Lib.hid hU
              clear hU
              go_wp2_with fail
              refine (knowsS _).mono ?_
              rintro e w2 ⟨rfl, hU⟩
              have U2 := Lib.hid (U1.out.trans hU)
              clear hU
              go_wp2_with fail
              go_returns
              exact ⟨rfl, U2.out⟩
          · have ta0 : decide (a < 0) = true := decide_eq_true (by omega)
            go_enter Try.func4, Try.ntmps4
            go_wp2_with fail
            refine (rightR _ F M _ ws HV.out).mono ?_
            rintro e w1 ⟨rfl, hU⟩
            rw [HR.out]
            have U1 := Lib.hid hU
            clear hU
            go_wp2_with fail
            refine (knowsS _).mono ?_
            rintro e w2 ⟨rfl, hU⟩
            have U2 := Lib.hid (U1.out.trans hU)
            clear hU
            go_wp2_with fail
            go_returns
            exact ⟨rfl, U2.out⟩
        · have tp5 : decide (5 < p) = true := decide_eq_true (by omega)
          go_enter Try.func4, Try.ntmps4
          go_wp2_with fail
          refine (rightR _ F M _ ws HV.out).mono ?_
          rintro e w1 ⟨rfl, hU⟩
          rw [HR.out]
          have U1 := Lib.hid hU
          clear hU
          go_wp2_with fail
          refine (knowsS _).mono ?_
          rintro e w2 ⟨rfl, hU⟩
          have U2 := Lib.hid (U1.out.trans hU)
          clear hU
          go_wp2_with fail
          go_returns
          exact ⟨rfl, U2.out⟩
      · have tp0 : decide (p < 0) = true := decide_eq_true (by omega)
        go_enter Try.func4, Try.ntmps4
        go_wp2_with fail
        refine (rightR _ F M _ ws HV.out).mono ?_
        rintro e w1 ⟨rfl, hU⟩
        rw [HR.out]
        have U1 := Lib.hid hU
        clear hU
        go_wp2_with fail
        refine (knowsS _).mono ?_
        rintro e w2 ⟨rfl, hU⟩
        have U2 := Lib.hid (U1.out.trans hU)
        clear hU
        go_wp2_with fail
        go_returns
        exact ⟨rfl, U2.out⟩
    · have HR := Lib.hid (Bool.eq_false_iff.2 hr)
      clear hr
      go_enter Try.func4, Try.ntmps4
      go_wp2_with fail
      refine (rightR _ n M _ ws HV.out).mono ?_
      rintro e w1 ⟨rfl, hU⟩
      rw [HR.out]
      have U1 := Lib.hid hU
      clear hU
      go_wp2_with fail
      refine (knowsS _).mono ?_
      rintro e w2 ⟨rfl, hU⟩
      have U2 := Lib.hid (U1.out.trans hU)
      clear hU
      go_wp2_with fail
      go_returns
      exact ⟨rfl, U2.out⟩
  · have d0 : decide (60 < (ws.length : Int)) = true := decide_eq_true (by omega)
    have d0' : 60 < ws.length := by omega
    go_enter Try.func4, Try.ntmps4
    go_wp2_with fail
    refine (knowsS _).mono ?_
    rintro e w2 ⟨rfl, hU⟩
    have U2 := Lib.hid (hU)
    clear hU
    go_wp2_with fail
    go_returns
    exact ⟨rfl, U2.out⟩

theorem supplyGrows_any (w : World) (n : Int) (_ : (Lit.int .i64 n).wf = true) (M : Int) (_ : (Lit.int .i64 M).wf = true) (A : Option Addr) (len cap : Nat) (xs : Nat → Nat → Int) (_ : ∀ k j, k < len → j < 3 → (Lit.int .i64 (xs k j)).wf = true) (hc : Row3 w A len xs)
    (p : Int) (_ : (Lit.int .i64 p).wf = true) (a : Int) (_ : (Lit.int .i64 a).wf = true) (b : Int) (_ : (Lit.int .i64 b).wf = true) :
    Calls Try.prog 4 #[.int .i64 n, .int .i64 M, .slice A len cap, .int .i64 p, .int .i64 a, .int .i64 b] w fun e w' => e = .returned (.bool true) ∧ Below w.heap.size w w' :=
  (supplyGrows_any1 w n M _ _ (rdW_of hc) p a b).mono (fun _ _ ⟨h1, h2⟩ => ⟨h1, h2.below (Nat.le_refl _) (fun _ h => h.elim)⟩)
end Go.Proofs.Ytnfajehocljbnaa
