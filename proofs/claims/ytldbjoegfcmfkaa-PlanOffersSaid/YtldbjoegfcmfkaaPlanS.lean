/-
  PlanOffers.
-/
import Derived.Test.YtldbjoegfcmfkaaPlanR
import Derived.Test.YtldbjoegfcmfkaaPlanN
namespace Go.Proofs.Ytldbjoegfcmfkaa
open Go.RowKit
attribute [local go_sem] max_ints min_ints

set_option maxRecDepth 100000 in
set_option maxHeartbeats 6400000 in
theorem offers_any (w : World) (F M T : Int) (A : Option Addr) (cap : Nat) (ns : List Int) (h : RdI w (.slice A ns.length cap) ns) (hw : ∀ x ∈ ns, x ≤ 9223372036854775807) (hcap : ns.length ≤ cap) :
    Calls Try.prog 5 #[.int .i64 F, .int .i64 M, .int .i64 T, .slice A ns.length cap] w fun e w' => e = .returned (.bool true) ∧ Upd (fun _ => False) w w' := by
  have HR := Lib.hid h; have HW := Lib.hid hw
  clear h hw
  by_cases g0 : 1 ≤ ns.length
  · have d0 : decide ((ns.length : Int) < 1) = false := decide_eq_false (by omega)
    have d0' : ¬ ns.length < 1 := by omega
    by_cases g1 : ns.length ≤ 6
    · have d1 : decide (6 < (ns.length : Int)) = false := decide_eq_false (by omega)
      have d1' : ¬ 6 < ns.length := by omega
      by_cases g2 : 1 ≤ T
      · have d2 : decide (T < 1) = false := decide_eq_false (by omega)
        by_cases g3 : T ≤ 32
        · have d3 : decide (32 < T) = false := decide_eq_false (by omega)
          by_cases g4 : 1 ≤ F
          · have d4 : decide (F < 1) = false := decide_eq_false (by omega)
            by_cases g5 : F ≤ 256
            · have d5 : decide (256 < F) = false := decide_eq_false (by omega)
              by_cases g6 : 0 ≤ M
              · have d6 : decide (M < 0) = false := decide_eq_false (by omega)
                by_cases g7 : M ≤ 8
                · have d7 : decide (8 < M) = false := decide_eq_false (by omega)
                  obtain ⟨f, rfl⟩ : ∃ f : Nat, F = f := ⟨F.toNat, by omega⟩
                  obtain ⟨t, rfl⟩ : ∃ t : Nat, T = t := ⟨T.toNat, by omega⟩
                  go_enter Try.func5, Try.ntmps5
                  go_wp2_with fail
                  refine (knowsP _).mono ?_
                  rintro e w1 ⟨rfl, hU⟩
                  have U1 := Lib.hid hU
                  clear hU
                  go_wp2_with fail
                  go_loopw [9, 10] (fun vm vi wr => ∃ i : Nat, i ≤ ns.length ∧ vi = .int .i64 i ∧ vm = .int .i64 (manyN t ns i) ∧ 0 ≤ manyN t ns i ∧ manyN t ns i ≤ 256 * i ∧ (∀ x ∈ ns.take i, 0 ≤ x ∧ x ≤ 256) ∧ Upd (fun _ => False) w wr) (fun _ vi _ => ns.length - (intOf vi).toNat)
                  case atStart => exact ⟨0, Nat.zero_le _, rfl, rfl, Int.le_refl _, Int.le_refl _, (fun x hx => by simp at hx), U1.out⟩
                  case round =>
                    obtain ⟨i, hi, rfl, rfl, hm0, hm1, hall, hU⟩ := hrel
                    obtain ⟨m, hm⟩ : ∃ m, manyN t ns i = m := ⟨_, rfl⟩
                    rw [hm] at hm0 hm1 ⊢
                    have HM := Lib.hid hm; have HALL := Lib.hid hall; have HU := Lib.hid hU
                    clear hm hall hU
                    by_cases hlt : i < ns.length
                    · obtain ⟨x, hx⟩ : ∃ x, ns[i]? = some x := ⟨_, List.getElem?_eq_getElem hlt⟩
                      obtain ⟨A', cap', e, hcell⟩ := HR.out.still HU.out
                      injection e with e1 e2 e3
                      subst e1 e3
                      obtain ⟨b, o, rfl, hbx, q0⟩ := hcell i x hx
                      have HX := Lib.hid (take_one hx)
                      have HN : Hid (manyN t ns (i + 1) = m + min x t) := Lib.hid (by rw [manyN, sumTo, List.getD_eq_getElem?_getD, hx]; exact congrArg (· + min x (t : Int)) HM.out)
                      clear hcell hx
                      by_cases hx0 : 0 ≤ x
                      · have t1 : decide (x < 0) = false := decide_eq_false (by omega)
                        by_cases hx1 : x ≤ 256
                        · have t2 : decide (256 < x) = false := decide_eq_false (by omega)
                          have w1' := wrap_in (m + min x t) (by omega) (by omega)
                          go_wp2_with fail
                          go_roundw
                          case rel =>
                            refine ⟨i + 1, by omega, by go_num, by rw [HN.out], by rw [HN.out]; omega, by rw [HN.out]; omega, fun y hy => ?_, HU.out⟩
                            rw [HX.out] at hy
                            rcases List.mem_append.1 hy with hy | hy
                            · exact HALL.out y hy
                            · rw [List.mem_singleton] at hy
                              subst hy
                              exact ⟨hx0, hx1⟩
                          case measure => simp [intOf]; omega
                        · have t2 : decide (256 < x) = true := decide_eq_true (by omega)
                          go_wp2_with fail
                          go_returns
                          exact ⟨rfl, HU.out⟩
                      · have t1 : decide (x < 0) = true := decide_eq_true (by omega)
                        go_wp2_with fail
                        go_returns
                        exact ⟨rfl, HU.out⟩
                    · have hie : i = ns.length := by omega
                      subst hie
                      rw [List.take_length] at HALL
                      obtain ⟨c, hc⟩ : ∃ c, costN M t ns ns.length = c := ⟨_, rfl⟩
                      have hlaw := spread_law (F := f) (M := M) (T := t) (ns := ns) (by omega) (by omega) (by omega) (by omega) (by omega) (by omega) g0 g1 HALL.out
                      rw [hc, HM.out] at hlaw
                      have HC : Hid (costN M t ns (min ns.length 6) = c) := Lib.hid (by rw [show min ns.length 6 = ns.length by omega]; exact hc)
                      clear hc
                      rcases hlaw with ⟨ws, hsp, hr, hlen, hcnt⟩ | ⟨hsp, hor⟩
                      · have HSP := Lib.hid hsp; have HRB := Lib.hid hr; have HLEN := Lib.hid hlen; have HCNT := Lib.hid hcnt
                        obtain ⟨_, _, _, _, hwl, hfit⟩ := rightB_parts hr
                        have HFIT := Lib.hid hfit
                        clear hsp hr hlen hcnt hfit
                        go_wp2_with fail
                        refine (spreadP _ f M t _ ns (HR.out.still HU.out) HW.out).mono ?_
                        rw [HSP.out]
                        rintro e w2 ⟨v2, rfl, hS, hU⟩
                        have S2 := Lib.hid hS
                        have U2 := Lib.hid (HU.out.trans hU)
                        obtain ⟨A2, c2, hsh⟩ := hS.shape
                        subst hsh
                        obtain ⟨wx, rfl⟩ : ∃ wx, wx = wr := ⟨wr, rfl⟩
                        clear hS hU
                        go_wp2_with fail
                        refine (costP _ M t A cap ns (HR.out.still U2.out) hcap M t (by omega) (by omega)).mono ?_
                        rw [HC.out]
                        rintro e w3 ⟨rfl, k3, rfl⟩
                        go_wp2_with fail
                        refine (numP _ 0).mono ?_
                        rintro e w4 ⟨rfl, k4, rfl⟩
                        go_wp2_with fail
                        refine (newYes _ wx.heap.size f M _ ws (S2.out.drewN _) HRB.out).mono ?_
                        rintro e w5 ⟨g, rfl, _, hT, hU⟩
                        have T5 := Lib.hid hT
                        have S5 := Lib.hid ((S2.out.drewN _).still hU)
                        have U5 := Lib.hid ((U2.out.drewN _).trans hU)
                        obtain ⟨base, hbase⟩ : ∃ base, (w2.drewN (k3 + k4)).heap.size = base := ⟨_, rfl⟩
                        rw [hbase] at T5
                        clear hU hT hbase
                        go_wp2_with fail
                        go_loopw [15, 16] (fun vs vi wr => ∃ i : Nat, i ≤ ws.length ∧ vi = .int .i64 i ∧ vs = .int .i64 (lenW (ws.take i)) ∧ 0 ≤ lenW (ws.take i) ∧ lenW (ws.take i) ≤ 256 * i ∧ wr = w5) (fun _ vi _ => ws.length - (intOf vi).toNat)
                        case atStart => exact ⟨0, Nat.zero_le _, rfl, rfl, Int.le_refl _, Int.le_refl _, by first | rfl | trivial⟩
                        case round =>
                          obtain ⟨i, hi, rfl, rfl, hs0, hs1, rfl⟩ := hrel
                          obtain ⟨s, hs⟩ : ∃ s, lenW (ws.take i) = s := ⟨_, rfl⟩
                          rw [hs] at hs0 hs1 ⊢
                          have HS := Lib.hid hs
                          clear hs
                          by_cases hlt2 : i < ws.length
                          · obtain ⟨x, hx⟩ : ∃ x, ws[i]? = some x := ⟨_, List.getElem?_eq_getElem hlt2⟩
                            have hxm := fitsB_mem HFIT.out x (List.mem_of_getElem? hx)
                            obtain ⟨A', cap', e, hcell⟩ := RdW.of S5.out
                            injection e with e1 e2 e3
                            subst e1 e3
                            obtain ⟨b, o, rfl, hbb, q0, q1, q2⟩ := hcell i x hx
                            have HX : Hid (lenW (ws.take (i + 1)) = s + x.2.1) := Lib.hid (by rw [take_one hx, lenW_snoc, HS.out])
                            clear hcell hx
                            obtain ⟨x0, x1, x2⟩ := x
                            dsimp only at *
                            have w1' := wrap_in (s + x1) (by omega) (by omega)
                            go_wp2_with fail
                            go_roundw
                            case rel => exact ⟨i + 1, by omega, by go_num, by rw [HX.out], by rw [HX.out]; omega, by rw [HX.out]; omega, by first | rfl | trivial⟩
                            case measure => simp [intOf]; omega
                          · have hie : i = ws.length := by omega
                            subst hie
                            rw [List.take_length, HLEN.out] at HS
                            have hcs := HS.out
                            subst hcs
                            go_wp2_with fail
                            go_loopw [17] (fun vi wq => ∃ i : Nat, i ≤ ns.length ∧ vi = .int .i64 i ∧ ∃ q, wq = wr.drewN q) (fun vi _ => ns.length - (intOf vi).toNat)
                            case atStart => exact ⟨0, Nat.zero_le _, rfl, 0, rfl⟩
                            case round =>
                              obtain ⟨i, hi, rfl, q, rfl⟩ := hrel
                              by_cases hlt3 : i < ns.length
                              · obtain ⟨x, hx⟩ : ∃ x, ns[i]? = some x := ⟨_, List.getElem?_eq_getElem hlt3⟩
                                obtain ⟨A', cap', e, hcell⟩ := HR.out.still (U5.out.drewN q)
                                injection e with e1 e2 e3
                                subst e1 e3
                                obtain ⟨b, o, rfl, hbx, q0⟩ := hcell i x hx
                                have HN : Hid (cntO M ws i f = x) := Lib.hid (by rw [HCNT.out i hlt3 f rfl, List.getD_eq_getElem?_getD, hx]; rfl)
                                clear hcell hx
                                have T6 := Lib.hid (T5.out.drewN q)
                                have HW6 : Hid (∀ k, ∃ q', (wr.drewN q).drewN k = wr.drewN q') := Lib.hid (fun k => ⟨q + k, by rw [World.drewN_drewN]⟩)
                                obtain ⟨W, hW⟩ : ∃ W, wr.drewN q = W := ⟨_, rfl⟩
                                rw [hW] at T6 HW6 q0 ⊢
                                go_wp2_with fail
                                go_quiet ((go_at_call 20; exact Calls.quiet_of (offeredTc _ base g f M ws (T6.out.drewN _) i x HN.out)))
                                go_wp2_with fail
                                go_roundw
                                case rel => exact ⟨i + 1, by omega, by go_num, HW6.out _⟩
                                case measure => simp [intOf]; omega
                              · go_wp2_with fail
                                go_returns
                                exact ⟨rfl, U5.out.drewN q⟩
                      · have HSP := Lib.hid hsp
                        have HOR : Hid ((f : Int) < c ∨ 32 < m) := Lib.hid hor
                        clear hsp hor
                        go_wp2_with fail
                        refine (spreadP _ f M t _ ns (HR.out.still HU.out) HW.out).mono ?_
                        rw [HSP.out]
                        rintro e w2 ⟨v2, rfl, hS, hU⟩
                        have U2 := Lib.hid (HU.out.trans hU)
                        obtain ⟨A2, c2, hsh⟩ := hS.shape
                        subst hsh
                        clear hS hU
                        go_wp2_with fail
                        refine (costP _ M t A cap ns (HR.out.still U2.out) hcap M t (by omega) (by omega)).mono ?_
                        rw [HC.out]
                        rintro e w3 ⟨rfl, k3, rfl⟩
                        go_wp2_with fail
                        refine (numP _ 5).mono ?_
                        rintro e w4 ⟨rfl, k4, rfl⟩
                        by_cases hc1 : (f : Int) < c
                        · have t1 : decide ((f : Int) < c) = true := decide_eq_true hc1
                          go_wp2_with fail
                          go_returns
                          exact ⟨rfl, U2.out.drewN _⟩
                        · have t1 : decide ((f : Int) < c) = false := decide_eq_false hc1
                          have t2 : decide (32 < m) = true := decide_eq_true (HOR.out.resolve_left hc1)
                          go_wp2_with fail
                          go_returns
                          exact ⟨rfl, U2.out.drewN _⟩
                · have d7 : decide (8 < M) = true := decide_eq_true (by omega)
                  go_enter Try.func5, Try.ntmps5
                  go_wp2_with fail
                  refine (knowsP _).mono ?_
                  rintro e w1 ⟨rfl, hU⟩
                  have U1 := Lib.hid hU
                  clear hU
                  go_wp2_with fail
                  go_returns
                  exact ⟨rfl, U1.out⟩
              · have d6 : decide (M < 0) = true := decide_eq_true (by omega)
                go_enter Try.func5, Try.ntmps5
                go_wp2_with fail
                refine (knowsP _).mono ?_
                rintro e w1 ⟨rfl, hU⟩
                have U1 := Lib.hid hU
                clear hU
                go_wp2_with fail
                go_returns
                exact ⟨rfl, U1.out⟩
            · have d5 : decide (256 < F) = true := decide_eq_true (by omega)
              go_enter Try.func5, Try.ntmps5
              go_wp2_with fail
              refine (knowsP _).mono ?_
              rintro e w1 ⟨rfl, hU⟩
              have U1 := Lib.hid hU
              clear hU
              go_wp2_with fail
              go_returns
              exact ⟨rfl, U1.out⟩
          · have d4 : decide (F < 1) = true := decide_eq_true (by omega)
            go_enter Try.func5, Try.ntmps5
            go_wp2_with fail
            refine (knowsP _).mono ?_
            rintro e w1 ⟨rfl, hU⟩
            have U1 := Lib.hid hU
            clear hU
            go_wp2_with fail
            go_returns
            exact ⟨rfl, U1.out⟩
        · have d3 : decide (32 < T) = true := decide_eq_true (by omega)
          go_enter Try.func5, Try.ntmps5
          go_wp2_with fail
          refine (knowsP _).mono ?_
          rintro e w1 ⟨rfl, hU⟩
          have U1 := Lib.hid hU
          clear hU
          go_wp2_with fail
          go_returns
          exact ⟨rfl, U1.out⟩
      · have d2 : decide (T < 1) = true := decide_eq_true (by omega)
        go_enter Try.func5, Try.ntmps5
        go_wp2_with fail
        refine (knowsP _).mono ?_
        rintro e w1 ⟨rfl, hU⟩
        have U1 := Lib.hid hU
        clear hU
        go_wp2_with fail
        go_returns
        exact ⟨rfl, U1.out⟩
    · have d1 : decide (6 < (ns.length : Int)) = true := decide_eq_true (by omega)
      have d1' : 6 < ns.length := by omega
      go_enter Try.func5, Try.ntmps5
      go_wp2_with fail
      refine (knowsP _).mono ?_
      rintro e w1 ⟨rfl, hU⟩
      have U1 := Lib.hid hU
      clear hU
      go_wp2_with fail
      go_returns
      exact ⟨rfl, U1.out⟩
  · have d0 : decide ((ns.length : Int) < 1) = true := decide_eq_true (by omega)
    have d0' : ns.length < 1 := by omega
    have d0'' : ns.length = 0 := by omega
    go_enter Try.func5, Try.ntmps5
    go_wp2_with fail
    refine (knowsP _).mono ?_
    rintro e w1 ⟨rfl, hU⟩
    have U1 := Lib.hid hU
    clear hU
    go_wp2_with fail
    go_returns
    exact ⟨rfl, U1.out⟩

theorem planOffers_any (w : World) (n : Int) (_ : (Lit.int .i64 n).wf = true) (M : Int) (_ : (Lit.int .i64 M).wf = true) (T : Int) (_ : (Lit.int .i64 T).wf = true) (A : Option Addr) (len cap : Nat) (hl : len ≤ cap) (X : Nat → Int) (hf : ∀ k, k < len → (Lit.int .i64 (X k)).wf = true) (hc : Row w A len fun k => .int .i64 (X k)) :
    Calls Try.prog 5 #[.int .i64 n, .int .i64 M, .int .i64 T, .slice A len cap] w fun e w' => e = .returned (.bool true) ∧ Below w.heap.size w w' := by
  obtain ⟨h1, h2⟩ := rdI_of (cap := cap) hf hc
  have e1 : ((List.range len).map X).length = len := by simp
  have := offers_any w n M T A cap _ h1 h2 (by rw [e1]; exact hl)
  rw [e1] at this
  exact this.mono (fun _ _ ⟨h1, h2⟩ => ⟨h1, h2.below (Nat.le_refl _) (fun _ h => h.elim)⟩)
end Go.Proofs.Ytldbjoegfcmfkaa
