/-
  SupplyLeast, SupplyGrows, SupplyWaits.
-/
import Derived.Test.YtnfajehocljbnaaSupE
import Derived.Test.YtnfajehocljbnaaRefNew
namespace Go.Proofs.Ytnfajehocljbnaa
open Go.RowKit
attribute [local go_sem] max_ints min_ints

theorem rdW_of {W : World} {A : Option Addr} {len cap : Nat} {xs : Nat → Nat → Int} (hc : Row3 W A len xs) : RdW W (.slice A len cap) ((List.range len).map (fun k => (xs k 0, xs k 1, xs k 2))) := by
  refine ⟨A, cap, by simp, fun i x hx => ?_⟩
  simp only [List.getElem?_map, Option.map_eq_some_iff] at hx
  obtain ⟨k, hk, rfl⟩ := hx
  obtain ⟨hi, rfl⟩ := List.getElem?_eq_some_iff.1 hk
  simp only [List.getElem_range] at *
  obtain ⟨b, o, h1, h2, h3, h4, h5⟩ := hc i (by simpa using hi)
  exact ⟨b, o, h1, h2, h3, h4, h5⟩

set_option maxRecDepth 100000 in
set_option maxHeartbeats 6400000 in
theorem supplyLeast_any1 (w : World) (n M : Int) (v : Value) (ws : List W3) (hv : RdW w v ws) (p from_ ticks : Int) :
    Calls Try.prog 3 #[.int .i64 n, .int .i64 M, v, .int .i64 p, .int .i64 from_, .int .i64 ticks] w fun e w' => e = .returned (.bool true) ∧ Upd (fun _ => False) w w' := by
  have HV := Lib.hid hv
  obtain ⟨A, cap, rfl, _⟩ := hv
  by_cases hl : ws.length ≤ 60
  · have d0 : decide (60 < (ws.length : Int)) = false := decide_eq_false (by omega)
    have d0' : ¬ 60 < ws.length := by omega
    by_cases hr : rightB n M ws = true
    · have HR := Lib.hid hr
      have hn1 : 1 ≤ n := by
        have := hr
        unfold rightB at this
        simp only [Bool.and_eq_true, decide_eq_true_eq] at this
        omega
      obtain ⟨F, rfl⟩ : ∃ F : Nat, n = F := ⟨n.toNat, by omega⟩
      obtain ⟨hF1, hF2, hM, hM8, hl32, hfit⟩ := rightB_parts hr
      clear hr hfit
      by_cases gp0 : 0 ≤ p
      · have tp0 : decide (p < 0) = false := decide_eq_false (by omega)
        by_cases gp5 : p ≤ 5
        · have tp5 : decide (5 < p) = false := decide_eq_false (by omega)
          by_cases gk0 : 0 ≤ ticks
          · have tk0 : decide (ticks < 0) = false := decide_eq_false (by omega)
            by_cases gk1 : ticks ≤ 2000
            · have tk1 : decide (2000 < ticks) = false := decide_eq_false (by omega)
              go_enter Try.func3, Try.ntmps3
              go_wp2_with fail
              refine (rightR _ F M _ ws HV.out).mono ?_
              rintro e w1 ⟨rfl, hU⟩
              rw [HR.out]
              have U1 := Lib.hid hU
              clear hU
              go_wp2_with fail
              refine (knowsS _).mono ?_
              rintro e w2 ⟨rfl, hU⟩
              have U2 := Lib.hid (U1.out.trans hU)
              clear hU
              obtain ⟨m, hm⟩ : ∃ m : Nat, ticks = m := ⟨ticks.toNat, by omega⟩
              subst hm
              obtain ⟨l, hl⟩ : ∃ l, leN M ws p F m = l := ⟨_, rfl⟩
              obtain ⟨a, ha⟩ : ∃ a, atN M ws p F m = a := ⟨_, rfl⟩
              have h1 := leN_le M ws p F (by omega) m from_
              have h2 := leN_at M ws p F m
              obtain ⟨c, hc⟩ : ∃ c, cntF M ws p F from_ m = c := ⟨_, rfl⟩
              rw [hl, hc] at h1
              rw [hl, ha] at h2
              have HL := Lib.hid hl; have HA := Lib.hid ha; have HC := Lib.hid hc; have H2 := Lib.hid h2
              have t1 : decide (l ≤ c) = true := decide_eq_true h1
              clear hl ha hc h2
              go_wp2_with fail
              refine (ownYes _ F M _ ws (HV.out.still U2.out) HR.out).mono ?_
              rintro e w3 ⟨base, g, rfl, _, hT, hU⟩
              have T3 := Lib.hid hT
              have U3 := Lib.hid (U2.out.trans hU)
              clear hU hT
              go_wp2_with fail
              refine (ofYes _ base g F M ws T3.out p gp0 (by omega)).mono ?_
              rintro e w4 ⟨s, rfl, hS, hU⟩
              have S4 := Lib.hid hS
              have U4 := Lib.hid (U3.out.trans hU)
              clear hU hS
              go_wp2_with fail
              refine (leastS _ base g F M ws p s S4.out m m (by omega) l HL.out).mono ?_
              rintro e w5 ⟨rfl, k5, rfl⟩
              go_wp2_with fail
              refine (countT _ base g F M ws (S4.out.tab.drewN _) p from_ m m (by omega)).mono ?_
              rw [HC.out]
              rintro e w6 ⟨rfl, k6, rfl⟩
              go_wp2_with fail
              refine (worstS _ base g F M ws p s (S4.out.drewN _) m m (by omega)).mono ?_
              rw [HA.out]
              rintro e w7 ⟨rfl, hU⟩
              have S7 := Lib.hid ((S4.out.drewN _).still hU)
              have U7 := Lib.hid ((U4.out.drewN _).trans hU)
              clear hU
              go_wp2_with fail
              refine (countT _ base g F M ws S7.out.tab p a m m (by omega)).mono ?_
              rw [← H2.out]
              rintro e w8 ⟨rfl, k8, rfl⟩
              go_wp2_with fail
              go_returns
              exact ⟨rfl, U7.out.drewN _⟩
            · have tk1 : decide (2000 < ticks) = true := decide_eq_true (by omega)
              go_enter Try.func3, Try.ntmps3
              go_wp2_with fail
              refine (rightR _ F M _ ws HV.out).mono ?_
              rintro e w1 ⟨rfl, hU⟩
              rw [HR.out]
              have U1 := Lib.hid hU
              clear hU
              go_wp2_with fail
              refine (knowsS _).mono ?_
              rintro e w2 ⟨rfl, hU⟩
              have U2 := Lib.hid (U1.out.trans hU)
              clear hU
              go_wp2_with fail
              go_returns
              exact ⟨rfl, U2.out⟩
          · have tk0 : decide (ticks < 0) = true := decide_eq_true (by omega)
            go_enter Try.func3, Try.ntmps3
            go_wp2_with fail
            refine (rightR _ F M _ ws HV.out).mono ?_
            rintro e w1 ⟨rfl, hU⟩
            rw [HR.out]
            have U1 := Lib.hid hU
            clear hU
            go_wp2_with fail
            refine (knowsS _).mono ?_
            rintro e w2 ⟨rfl, hU⟩
            have U2 := Lib.hid (U1.out.trans hU)
            clear hU
            go_wp2_with fail
            go_returns
            exact ⟨rfl, U2.out⟩
        · have tp5 : decide (5 < p) = true := decide_eq_true (by omega)
          go_enter Try.func3, Try.ntmps3
          go_wp2_with fail
          refine (rightR _ F M _ ws HV.out).mono ?_
          rintro e w1 ⟨rfl, hU⟩
          rw [HR.out]
          have U1 := Lib.hid hU
          clear hU
          go_wp2_with fail
          refine (knowsS _).mono ?_
          rintro e w2 ⟨rfl, hU⟩
          have U2 := Lib.hid (U1.out.trans hU)
          clear hU
          go_wp2_with fail
          go_returns
          exact ⟨rfl, U2.out⟩
      · have tp0 : decide (p < 0) = true := decide_eq_true (by omega)
        go_enter Try.func3, Try.ntmps3
        go_wp2_with fail
        refine (rightR _ F M _ ws HV.out).mono ?_
        rintro e w1 ⟨rfl, hU⟩
        rw [HR.out]
        have U1 := Lib.hid hU
        clear hU
        go_wp2_with fail
        refine (knowsS _).mono ?_
        rintro e w2 ⟨rfl, hU⟩
        have U2 := Lib.hid (U1.out.trans hU)
        clear hU
        go_wp2_with fail
        go_returns
        exact ⟨rfl, U2.out⟩
    · have HR := Lib.hid (Bool.eq_false_iff.2 hr)
      clear hr
      go_enter Try.func3, Try.ntmps3
      go_wp2_with fail
      refine (rightR _ n M _ ws HV.out).mono ?_
      rintro e w1 ⟨rfl, hU⟩
      rw [HR.out]
      have U1 := Lib.hid hU
      clear hU
      go_wp2_with fail
      refine (knowsS _).mono ?_
      rintro e w2 ⟨rfl, hU⟩
      have U2 := Lib.hid (U1.out.trans hU)
      clear hU
      go_wp2_with fail
      go_returns
      exact ⟨rfl, U2.out⟩
  · have d0 : decide (60 < (ws.length : Int)) = true := decide_eq_true (by omega)
    have d0' : 60 < ws.length := by omega
    go_enter Try.func3, Try.ntmps3
    go_wp2_with fail
    refine (knowsS _).mono ?_
    rintro e w2 ⟨rfl, hU⟩
    have U2 := Lib.hid (hU)
    clear hU
    go_wp2_with fail
    go_returns
    exact ⟨rfl, U2.out⟩

theorem supplyLeast_any (w : World) (n : Int) (_ : (Lit.int .i64 n).wf = true) (M : Int) (_ : (Lit.int .i64 M).wf = true) (A : Option Addr) (len cap : Nat) (xs : Nat → Nat → Int) (_ : ∀ k j, k < len → j < 3 → (Lit.int .i64 (xs k j)).wf = true) (hc : Row3 w A len xs)
    (p : Int) (_ : (Lit.int .i64 p).wf = true) (from_ : Int) (_ : (Lit.int .i64 from_).wf = true) (ticks : Int) (_ : (Lit.int .i64 ticks).wf = true) :
    Calls Try.prog 3 #[.int .i64 n, .int .i64 M, .slice A len cap, .int .i64 p, .int .i64 from_, .int .i64 ticks] w fun e w' => e = .returned (.bool true) ∧ Below w.heap.size w w' :=
  (supplyLeast_any1 w n M _ _ (rdW_of hc) p from_ ticks).mono (fun _ _ ⟨h1, h2⟩ => ⟨h1, h2.below (Nat.le_refl _) (fun _ h => h.elim)⟩)
end Go.Proofs.Ytnfajehocljbnaa
