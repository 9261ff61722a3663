/-
  The walk of the document's Spread.
-/
import Derived.Test.YtldbjoegfcmfkaaPlanE
namespace Go.Proofs.Ytldbjoegfcmfkaa
open Go.RowKit
attribute [local go_sem] max_ints min_ints

theorem infoVp : (Try.prog.info? 40).map (fun i => (i.zero, i.size, i.bytes)) = some (some (.agg #[.int .i64 0, .int .i64 0, .int .i64 0]), 3, 24) := by kernel_rfl
theorem spread_20 {F M T : Int} {ns : List Int} (h : ¬ (1 ≤ F ∧ F ≤ 256 ∧ 0 ≤ M ∧ M ≤ 8)) : spreadN F M T ns = ([], 20) := by unfold spreadN; rw [fineE_20 h]; rfl
theorem spread_1 {F M T : Int} {ns : List Int} (h : 1 ≤ F ∧ F ≤ 256 ∧ 0 ≤ M ∧ M ≤ 8) (h' : ¬ (1 ≤ ns.length ∧ ns.length ≤ 6 ∧ 1 ≤ T ∧ T ≤ 32 ∧ ∀ x ∈ ns, 0 ≤ x)) : spreadN F M T ns = ([], 1) := by unfold spreadN; rw [fineE_1 h h']; rfl
theorem spread_0 {F M : Int} {t : Nat} {ns : List Int} (h : 1 ≤ F ∧ F ≤ 256 ∧ 0 ≤ M ∧ M ≤ 8) (h' : 1 ≤ ns.length ∧ ns.length ≤ 6 ∧ 1 ≤ (t : Int) ∧ (t : Int) ≤ 32 ∧ ∀ x ∈ ns, 0 ≤ x) : spreadN F M t ns = match rowsTo F M t ns t with | none => ([], 5) | some st => (st.2, 0) := by unfold spreadN; rw [fineE_0 h h']; rfl

set_option maxRecDepth 100000 in
set_option maxHeartbeats 6400000 in
theorem spreadR (w : World) (F M T : Int) (v : Value) (ns : List Int) (h : RdI w v ns) (hw : ∀ x ∈ ns, x ≤ 9223372036854775807) :
    Calls Try.prog 11 #[.int .i64 F, .int .i64 M, .int .i64 T, v] w fun e w' => ∃ v', e = .returned (.tuple #[v', .int .i64 (spreadN F M T ns).2]) ∧ SlR encW w' w.heap.size 40 3 v' (spreadN F M T ns).1 ∧ Upd (fun _ => False) w w' := by
  have HR := Lib.hid h; have HW := Lib.hid hw
  obtain ⟨A, cap, rfl, _⟩ := h
  obtain ⟨i0, hi0, hz0, hz1, hz2⟩ := info_parts infoVp
  clear hw
  by_cases g1 : 1 ≤ F
  · have d1 : decide (F < 1) = false := decide_eq_false (by omega)
    by_cases g2 : F ≤ 256
    · have d2 : decide (256 < F) = false := decide_eq_false (by omega)
      by_cases g3 : 0 ≤ M
      · have d3 : decide (M < 0) = false := decide_eq_false (by omega)
        by_cases g4 : M ≤ 8
        · have d4 : decide (8 < M) = false := decide_eq_false (by omega)
          have hA : 1 ≤ F ∧ F ≤ 256 ∧ 0 ≤ M ∧ M ≤ 8 := ⟨g1, g2, g3, g4⟩
          by_cases g5 : 1 ≤ ns.length
          · have d5 : decide ((ns.length : Int) < 1) = false := decide_eq_false (by omega)
            have d5' : ¬ ns.length = 0 := by omega
            by_cases g6 : ns.length ≤ 6
            · have d6 : decide (6 < (ns.length : Int)) = false := decide_eq_false (by omega)
              have d6' : ¬ 6 < ns.length := by omega
              by_cases g7 : 1 ≤ T
              · have d7 : decide (T < 1) = false := decide_eq_false (by omega)
                by_cases g8 : T ≤ 32
                · have d8 : decide (32 < T) = false := decide_eq_false (by omega)
                  obtain ⟨t, rfl⟩ : ∃ t : Nat, T = t := ⟨T.toNat, by omega⟩
                  go_enter Try.func11, Try.ntmps11
                  go_wp2_with fail
                  go_loopw [10] (fun vi wr => ∃ i : Nat, i ≤ ns.length ∧ vi = .int .i64 i ∧ (∀ x ∈ ns.take i, 0 ≤ x) ∧ Upd (fun _ => False) w wr) (fun vi _ => ns.length - (intOf vi).toNat)
                  case atStart => exact ⟨0, Nat.zero_le _, rfl, (fun x hx => by simp at hx), Upd.refl _ _⟩
                  case round =>
                    obtain ⟨i, hi, rfl, hpos, hU⟩ := hrel
                    have HPOS := Lib.hid hpos; have HU := Lib.hid hU
                    clear hpos hU
                    by_cases hlt : i < ns.length
                    · obtain ⟨x, hx⟩ : ∃ x, ns[i]? = some x := ⟨_, List.getElem?_eq_getElem hlt⟩
                      obtain ⟨A', cap', e, hcell⟩ := HR.out.still HU.out
                      injection e with e1 e2 e3
                      subst e1 e3
                      obtain ⟨b, o, rfl, hbx, q0⟩ := hcell i x hx
                      have HX := Lib.hid hx
                      clear hcell hx
                      by_cases hx0 : 0 ≤ x
                      · have d9 : decide (x < 0) = false := decide_eq_false (by omega)
                        go_wp2_with fail
                        go_roundw
                        case rel =>
                          refine ⟨i + 1, by omega, by go_num, fun y hy => ?_, HU.out⟩
                          rw [List.take_add_one, HX.out] at hy
                          simp only [List.mem_append, Option.toList, List.mem_singleton] at hy
                          rcases hy with hy | hy
                          · exact HPOS.out y hy
                          · omega
                        case measure => simp [intOf]; omega
                      · have d9 : decide (x < 0) = true := decide_eq_true (by omega)
                        have HZ := Lib.hid (spread_1 (T := t) (ns := ns) hA (fun h => hx0 (h.2.2.2.2 x (List.mem_of_getElem? HX.out))))
                        go_wp2_with fail
                        go_returns
                        rw [HZ.out]
                        exact ⟨_, rfl, SlR.nil, HU.out⟩
                    · have hie : i = ns.length := by omega
                      subst hie
                      rw [List.take_length] at HPOS
                      have HSP := Lib.hid (spread_0 (t := t) (ns := ns) hA ⟨g5, g6, g7, g8, HPOS.out⟩)
                      go_wp2_with fail
                      go_loopw [11, 12, 13] (fun vx va vi wr => ∃ (i : Nat) (st : Int × List W3), i ≤ t ∧ vi = .int .i64 i ∧ va = .int .i64 st.1 ∧ rowsTo F M t ns i = some st ∧ 0 ≤ st.1 ∧ st.1 ≤ F ∧ st.2.length ≤ 32 ∧ SlR encW wr w.heap.size 40 3 vx st.2 ∧ Upd (fun _ => False) w wr) (fun _ _ vi _ => t - (intOf vi).toNat)
                      case atStart => exact ⟨0, (0, []), Nat.zero_le _, rfl, rfl, rfl, by decide, by show (0 : Int) ≤ F; omega, by decide, SlR.nil, HU.out⟩
                      case round =>
                        obtain ⟨i, st0, hi, rfl, rfl, hrow, hs0, hs1, hs2, hS, hU⟩ := hrel
                        have HROW := Lib.hid hrow; have HS := Lib.hid hS; have HU1 := Lib.hid hU
                        obtain ⟨Ax, cx, hsh⟩ := hS.shape
                        subst hsh
                        clear hrow hS hU
                        by_cases hlt : i < t
                        · go_wp2_with fail
                          go_loopw [11, 12, 14] (fun vx va vp wr => ∃ (p : Nat) (st : Int × List W3), p ≤ ns.length ∧ vp = .int .i64 p ∧ va = .int .i64 st.1 ∧ rowTo F M t ns i st0 p = some st ∧ 0 ≤ st.1 ∧ st.1 ≤ F ∧ st.2.length ≤ 32 ∧ SlR encW wr w.heap.size 40 3 vx st.2 ∧ Upd (fun _ => False) w wr) (fun _ _ vp _ => ns.length - (intOf vp).toNat)
                          case atStart => exact ⟨0, st0, Nat.zero_le _, rfl, rfl, rfl, hs0, hs1, hs2, HS.out, HU1.out⟩
                          case round =>
                            obtain ⟨p, st, hp, rfl, rfl, hrow, hs0', hs1', hs2', hS, hU⟩ := hrel
                            have HROW2 := Lib.hid hrow; have HS2 := Lib.hid hS; have HU2 := Lib.hid hU
                            obtain ⟨Ay, cy, hsh⟩ := hS.shape
                            subst hsh
                            clear hrow hS hU
                            by_cases hlp : p < ns.length
                            · obtain ⟨x, hx⟩ : ∃ x, ns[p]? = some x := ⟨_, List.getElem?_eq_getElem hlp⟩
                              obtain ⟨A', cap', e, hcell⟩ := HR.out.still HU2.out
                              injection e with e1 e2 e3
                              subst e1 e3
                              obtain ⟨b, o, rfl, hbx, q0⟩ := hcell p x hx
                              have hx0 := HPOS.out x (List.mem_of_getElem? hx)
                              have hx1 := HW.out x (List.mem_of_getElem? hx)
                              have HX := Lib.hid hx
                              clear hcell hx
                              obtain ⟨n, hn⟩ : ∃ n, shareN x t i = n := ⟨_, rfl⟩
                              have hn0' : 0 ≤ n ∧ n ≤ x := by
                                have := shareN_le x t i hx0 g7 (by omega)
                                rw [← hn]
                                unfold shareN
                                refine ⟨?_, this.2⟩
                                split <;> omega
                              have HN := Lib.hid hn
                              have HST : Hid (rowTo F M t ns i st0 (p + 1) = layS F M st p n) := Lib.hid (by rw [rowTo_step HROW2.out HX.out, hn])
                              clear hn
                              obtain ⟨at_, xs⟩ := st
                              dsimp only at *
                              go_wp2_with fail
                              refine (shareR _ x t i hx0 hx1 g7 (by omega) n HN.out).mono ?_
                              rintro e w5 ⟨rfl, k5, rfl⟩
                              have S5 := Lib.hid (HS2.out.drewN k5)
                              have U5 := Lib.hid (HU2.out.drewN k5)
                              by_cases hn0 : n = 0
                              · subst hn0
                                have HL : Hid (rowTo F M t ns i st0 (p + 1) = some (at_, xs)) := Lib.hid (by rw [HST.out]; unfold layS; rw [if_pos rfl])
                                go_wp2_with fail
                                go_roundw
                                case rel => exact ⟨p + 1, (at_, xs), by omega, by go_num, rfl, HL.out, hs0', hs1', hs2', S5.out, U5.out⟩
                                case measure => simp [intOf]; omega
                              · have en : (n == 0) = false := beq_eq_false_iff_ne.2 hn0
                                by_cases r1 : n ≤ F
                                · have f1 : decide (F < n) = false := decide_eq_false (by omega)
                                  have w1 := wrap_in (F - M) (by omega) (by omega)
                                  have w2 := wrap_in (F - M - n) (by omega) (by omega)
                                  by_cases r2 : at_ ≤ F - M - n
                                  · have f2 : decide (F - M - n < at_) = false := decide_eq_false (by omega)
                                    by_cases r3 : xs.length < 32
                                    · have f3 : decide (32 ≤ (xs.length : Int)) = false := decide_eq_false (by omega)
                                      have f3' : ¬ 32 ≤ xs.length := by omega
                                      have HL : Hid (rowTo F M t ns i st0 (p + 1) = some (at_ + (M + n), xs ++ [(at_, M + n, (p : Int))])) := Lib.hid (by rw [HST.out]; unfold layS; rw [if_neg hn0, if_neg (by simp; omega)])
                                      have w3 := wrap_in (M + n) (by omega) (by omega)
                                      have w4 := wrap_in (at_ + M) (by omega) (by omega)
                                      have w5 := wrap_in (at_ + M + n) (by omega) (by omega)
                                      have hsz := HU2.out.size
                                      go_wp2_with (
                                        at_builtin
                                        refine wpList_append_sl rfl (.tmp 94) (.tmp 101) 28 rfl w.heap.size 40 i0 _ 3 24 Try.underlying28 hi0 hz0 hz1 hz2 rfl (by decide) _ xs.length (rws encW xs) rfl (Sl.alloc S5.out (.cells #[.int .i64 at_, .int .i64 (M + n), .int .i64 p] 40)) ⟨_, 0, none⟩ 1 [.int .i64 at_, .int .i64 (M + n), .int .i64 p] rfl rfl (fun j u hu => by rw [add_at]; refine Eq.trans ((Blk.new (wr.drewN k5) 40 #[.int .i64 at_, .int .i64 (M + n), .int .i64 p]).cell j) ?_; simpa using hu) (by simp [Value.oneCell']) (by unfold maxLen; omega) (by omega) (by simp; omega) ?_
                                        intro v' w6 hs6 hu6 hv6
                                        obtain ⟨bq, oq, cq, rfl, _, _, _, _⟩ := hs6.form (by omega)
                                        have FS6 := Lib.hid hs6
                                        have U6 := Lib.hid hu6
                                        clear hs6 hu6 hv6)
                                      go_roundw
                                      case rel =>
                                        refine ⟨p + 1, (at_ + (M + n), xs ++ [(at_, M + n, (p : Int))]), by omega, by go_num, by simp only [Int.add_assoc], HL.out, by show (0 : Int) ≤ at_ + (M + n); omega, by show at_ + (M + n) ≤ F; omega, by simp; omega, ?_, ?_⟩
                                        · unfold SlR
                                          rw [List.length_append, rws_append]
                                          exact FS6.out
                                        · have h1 := (U5.out.alloc (.cells #[.int .i64 at_, .int .i64 (M + n), .int .i64 p] 40)).mono (S' := fun k => w.heap.size ≤ k) (fun _ _ h => h.elim)
                                          exact (h1.trans (U6.out.mono (fun k _ hk => (Sl.blk S5.out k hk).1))).mono (fun k hk h => absurd h (by omega))
                                      case measure => simp [intOf]; omega
                                    · have f3 : decide (32 ≤ (xs.length : Int)) = true := decide_eq_true (by omega)
                                      have f3' : 32 ≤ xs.length := by omega
                                      have HZ : Hid (spreadN F M t ns = ([], 5)) := Lib.hid (by
                                        have h2 : layS F M (at_, xs) p (shareN (ns.getD p 0) t i) = none := by
                                          rw [List.getD_eq_getElem?_getD, HX.out]
                                          show layS F M (at_, xs) p (shareN x t i) = none
                                          rw [HN.out]
                                          unfold layS
                                          rw [if_neg hn0, if_pos (by simp; omega)]
                                        rw [HSP.out, rows_fail HROW.out HROW2.out h2 hlp hlt])
                                      go_wp2_with fail
                                      go_returns
                                      rw [HZ.out]
                                      exact ⟨_, rfl, SlR.nil, U5.out⟩
                                  · have f2 : decide (F - M - n < at_) = true := decide_eq_true (by omega)
                                    have HZ : Hid (spreadN F M t ns = ([], 5)) := Lib.hid (by
                                      have h2 : layS F M (at_, xs) p (shareN (ns.getD p 0) t i) = none := by
                                        rw [List.getD_eq_getElem?_getD, HX.out]
                                        show layS F M (at_, xs) p (shareN x t i) = none
                                        rw [HN.out]
                                        unfold layS
                                        rw [if_neg hn0, if_pos (by simp; omega)]
                                      rw [HSP.out, rows_fail HROW.out HROW2.out h2 hlp hlt])
                                    go_wp2_with fail
                                    go_returns
                                    rw [HZ.out]
                                    exact ⟨_, rfl, SlR.nil, U5.out⟩
                                · have f1 : decide (F < n) = true := decide_eq_true (by omega)
                                  have HZ : Hid (spreadN F M t ns = ([], 5)) := Lib.hid (by
                                    have h2 : layS F M (at_, xs) p (shareN (ns.getD p 0) t i) = none := by
                                      rw [List.getD_eq_getElem?_getD, HX.out]
                                      show layS F M (at_, xs) p (shareN x t i) = none
                                      rw [HN.out]
                                      unfold layS
                                      rw [if_neg hn0, if_pos (by simp; omega)]
                                    rw [HSP.out, rows_fail HROW.out HROW2.out h2 hlp hlt])
                                  go_wp2_with fail
                                  go_returns
                                  rw [HZ.out]
                                  exact ⟨_, rfl, SlR.nil, U5.out⟩
                            · have hpe : p = ns.length := by omega
                              subst hpe
                              have HNX : Hid (rowsTo F M t ns (i + 1) = some st) := Lib.hid (by rw [rowsTo, HROW.out]; exact HROW2.out)
                              go_wp2_with fail
                              go_roundw
                              case rel => exact ⟨i + 1, st, by omega, by go_num, rfl, HNX.out, hs0', hs1', hs2', HS2.out, HU2.out⟩
                              case measure => simp [intOf]; omega
                        · have hie : i = t := by omega
                          subst hie
                          have HZ : Hid (spreadN F M i ns = (st0.2, 0)) := Lib.hid (by rw [HSP.out, HROW.out])
                          go_wp2_with fail
                          go_returns
                          rw [HZ.out]
                          exact ⟨_, rfl, HS.out, HU1.out⟩
                · have d8 : decide (32 < T) = true := decide_eq_true (by omega)
                  have HZ := Lib.hid (spread_1 (T := T) (ns := ns) hA (by omega))
                  go_enter Try.func11, Try.ntmps11
                  go_wp2_with fail
                  go_returns
                  rw [HZ.out]
                  exact ⟨_, rfl, SlR.nil, Upd.refl _ _⟩
              · have d7 : decide (T < 1) = true := decide_eq_true (by omega)
                have HZ := Lib.hid (spread_1 (T := T) (ns := ns) hA (by omega))
                go_enter Try.func11, Try.ntmps11
                go_wp2_with fail
                go_returns
                rw [HZ.out]
                exact ⟨_, rfl, SlR.nil, Upd.refl _ _⟩
            · have d6 : decide (6 < (ns.length : Int)) = true := decide_eq_true (by omega)
              have d6' : 6 < ns.length := by omega
              have HZ := Lib.hid (spread_1 (T := T) (ns := ns) hA (by omega))
              go_enter Try.func11, Try.ntmps11
              go_wp2_with fail
              go_returns
              rw [HZ.out]
              exact ⟨_, rfl, SlR.nil, Upd.refl _ _⟩
          · have d5 : decide ((ns.length : Int) < 1) = true := decide_eq_true (by omega)
            have d5' : ns.length = 0 := by omega
            have HZ := Lib.hid (spread_1 (T := T) (ns := ns) hA (by omega))
            go_enter Try.func11, Try.ntmps11
            go_wp2_with fail
            go_returns
            rw [HZ.out]
            exact ⟨_, rfl, SlR.nil, Upd.refl _ _⟩
        · have d4 : decide (8 < M) = true := decide_eq_true (by omega)
          have HZ := Lib.hid (spread_20 (F := F) (M := M) (T := T) (ns := ns) (by omega))
          go_enter Try.func11, Try.ntmps11
          go_wp2_with fail
          go_returns
          rw [HZ.out]
          exact ⟨_, rfl, SlR.nil, Upd.refl _ _⟩
      · have d3 : decide (M < 0) = true := decide_eq_true (by omega)
        have HZ := Lib.hid (spread_20 (F := F) (M := M) (T := T) (ns := ns) (by omega))
        go_enter Try.func11, Try.ntmps11
        go_wp2_with fail
        go_returns
        rw [HZ.out]
        exact ⟨_, rfl, SlR.nil, Upd.refl _ _⟩
    · have d2 : decide (256 < F) = true := decide_eq_true (by omega)
      have HZ := Lib.hid (spread_20 (F := F) (M := M) (T := T) (ns := ns) (by omega))
      go_enter Try.func11, Try.ntmps11
      go_wp2_with fail
      go_returns
      rw [HZ.out]
      exact ⟨_, rfl, SlR.nil, Upd.refl _ _⟩
  · have d1 : decide (F < 1) = true := decide_eq_true (by omega)
    have HZ := Lib.hid (spread_20 (F := F) (M := M) (T := T) (ns := ns) (by omega))
    go_enter Try.func11, Try.ntmps11
    go_wp2_with fail
    go_returns
    rw [HZ.out]
    exact ⟨_, rfl, SlR.nil, Upd.refl _ _⟩
end Go.Proofs.Ytldbjoegfcmfkaa
