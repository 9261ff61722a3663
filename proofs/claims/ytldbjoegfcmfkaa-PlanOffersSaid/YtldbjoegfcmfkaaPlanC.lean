/-
  The walks of plan.layer and plan.Spread.
-/
import Derived.Test.YtldbjoegfcmfkaaPlanB
namespace Go.Proofs.Ytldbjoegfcmfkaa
open Go.RowKit
attribute [local go_sem] max_ints min_ints

set_option maxRecDepth 100000 in
set_option maxHeartbeats 800000 in
theorem layerP (w : World) (F M : Int) (lb : Nat) :
    Calls Try.prog 35 #[.int .i64 F, .int .i64 M, .pointer (some ⟨lb, 0, none⟩)] w fun e w' => ∃ cF cM cA cL : Nat, e = .returned (.func (.func 55) #[] #[.pointer (some ⟨cF, 0, none⟩), .pointer (some ⟨cM, 0, none⟩), .pointer (some ⟨cA, 0, none⟩), .pointer (some ⟨cL, 0, none⟩)]) ∧
      w.heap.size ≤ cA ∧ cA ≠ cF ∧ cA ≠ cM ∧ Blk w' cF 3 #[.int .i64 F] ∧ Blk w' cM 3 #[.int .i64 M] ∧ Blk w' cA 3 #[.int .i64 0] ∧ Blk w' cL 63 #[.pointer (some ⟨lb, 0, none⟩)] ∧ Upd (fun _ => False) w w' := by
  have hmf : ∀ (fn : Fn) (first cap : Array Value) (w : World), (Instr.makeFunc fn first cap).run Try.prog w = .ok (.func fn first cap) w := fun _ _ _ _ => rfl
  go_enter Try.func35, Try.ntmps35
  go_wp2_with fail
  go_returns
  have hs1 : (w.alloc (.cells #[.int .i64 F] 3)).heap.size = w.heap.size + 1 := by simp
  have hs2 : ((w.alloc (.cells #[.int .i64 F] 3)).alloc (.cells #[.int .i64 M] 3)).heap.size = w.heap.size + 1 + 1 := by simp
  have hs3 : (((w.alloc (.cells #[.int .i64 F] 3)).alloc (.cells #[.int .i64 M] 3)).alloc (.cells #[.pointer (some ⟨lb, 0, none⟩)] 63)).heap.size = w.heap.size + 1 + 1 + 1 := by simp
  refine ⟨w.heap.size, w.heap.size + 1, w.heap.size + 1 + 1 + 1, w.heap.size + 1 + 1, rfl, by omega, by omega, by omega, ?_, ?_, ?_, ?_, ((((Upd.refl _ w).alloc _).alloc _).alloc _).alloc _⟩
  · exact (((Blk.new w _ _).alloc _).alloc _).alloc _
  · have := ((Blk.new (w.alloc (.cells #[.int .i64 F] 3)) 3 #[.int .i64 M]).alloc (.cells #[.pointer (some ⟨lb, 0, none⟩)] 63)).alloc (.cells #[.int .i64 0] 3)
    rw [hs1] at this
    exact this
  · have := Blk.new (((w.alloc (.cells #[.int .i64 F] 3)).alloc (.cells #[.int .i64 M] 3)).alloc (.cells #[.pointer (some ⟨lb, 0, none⟩)] 63)) 3 #[.int .i64 0]
    rw [hs3] at this
    exact this
  · have := (Blk.new ((w.alloc (.cells #[.int .i64 F] 3)).alloc (.cells #[.int .i64 M] 3)) 63 #[.pointer (some ⟨lb, 0, none⟩)]).alloc (.cells #[.int .i64 0] 3)
    rw [hs2] at this
    exact this

theorem rowTo_step {F M T : Int} {ns : List Int} {i : Int} {st0 st : Int × List W3} {p : Nat} {x : Int} (h : rowTo F M T ns i st0 p = some st) (hx : ns[p]? = some x) : rowTo F M T ns i st0 (p + 1) = layS F M st p (shareN x T i) := by
  rw [rowTo, h]
  show layS F M st p (shareN (ns.getD p 0) T i) = _
  rw [List.getD_eq_getElem?_getD, hx]
  rfl

set_option maxRecDepth 100000 in
set_option maxHeartbeats 3200000 in
theorem spreadP (w : World) (F M T : Int) (v : Value) (ns : List Int) (h : RdI w v ns) (hw : ∀ x ∈ ns, x ≤ 9223372036854775807) :
    Calls Try.prog 10 #[.int .i64 F, .int .i64 M, .int .i64 T, v] w fun e w' => ∃ v', e = .returned (.tuple #[v', .int .i64 (spreadN F M T ns).2]) ∧ SlR encW w' w.heap.size 39 3 v' (spreadN F M T ns).1 ∧ Upd (fun _ => False) w w' := by
  have HR := Lib.hid h; have HW := Lib.hid hw
  obtain ⟨A, cap, rfl, _⟩ := h
  clear hw
  by_cases hf : fineE F M T ns = 0
  · have hfF : 1 ≤ F ∧ F ≤ 256 ∧ 0 ≤ M ∧ M ≤ 8 := by
      by_cases h : 1 ≤ F ∧ F ≤ 256 ∧ 0 ≤ M ∧ M ≤ 8
      · exact h
      · rw [fineE_20 h] at hf; cases hf
    have hfT : 1 ≤ ns.length ∧ ns.length ≤ 6 ∧ 1 ≤ T ∧ T ≤ 32 ∧ ∀ x ∈ ns, 0 ≤ x := by
      by_cases h : 1 ≤ ns.length ∧ ns.length ≤ 6 ∧ 1 ≤ T ∧ T ≤ 32 ∧ ∀ x ∈ ns, 0 ≤ x
      · exact h
      · rw [fineE_1 hfF h] at hf; cases hf
    obtain ⟨hF1, hF2, hM1, hM2⟩ := hfF
    obtain ⟨hn1, hn2, hT1, hT2, hpos⟩ := hfT
    have HPOS := Lib.hid hpos
    obtain ⟨t, rfl⟩ : ∃ t : Nat, T = t := ⟨T.toNat, by omega⟩
    have HSP : Hid (spreadN F M t ns = match rowsTo F M t ns t with | none => ([], 5) | some st => (st.2, 0)) := Lib.hid (by unfold spreadN; rw [if_neg (by rw [hf]; decide)]; rfl)
    have HF := Lib.hid hf
    clear hf hpos
    go_enter Try.func10, Try.ntmps10
    go_wp2_with fail
    refine (fineP _ F M t _ ns HR.out).mono ?_
    rintro e w1 ⟨rfl, k1, rfl⟩
    rw [HF.out]
    go_wp2_with fail
    refine (layerP _ F M w.heap.size).mono ?_
    rintro e w2 ⟨cF, cM, cA, cL, rfl, hA, hne1, hne2, bF, bM, bA, bL, hU⟩
    have hbase : w.heap.size ≤ ((w.drewN k1).alloc (.cells #[.slice none 0 0] 24)).heap.size := by simp
    have LY0 : Hid (Ly w2 w.heap.size cF cM cA cL w.heap.size F M (.slice none 0 0) (0, [])) := Lib.hid
      ⟨bF, bM, bA, bL, (show Blk ((w.drewN k1).alloc (.cells #[.slice none 0 0] 24)) w.heap.size 24 #[.slice none 0 0] from Blk.new (w.drewN k1) 24 #[.slice none 0 0]).upd hU (fun h => h), SlR.nil, hne1, hne2, Nat.le_trans hbase hA, Nat.le_refl _⟩
    have U2 : Hid (Upd (fun k => w.heap.size ≤ k) w w2) := Lib.hid (((((Upd.refl (fun _ => False) w).drewN k1).alloc _).trans hU).mono (fun _ _ h => h.elim))
    clear hA hne1 hne2 bF bM bA bL hU hbase
    go_wp2_with fail
    go_loopw [28] (fun vi wr => ∃ (i : Nat) (st : Int × List W3) (vs : Value), i ≤ t ∧ vi = .int .i64 i ∧ rowsTo F M t ns i = some st ∧ 0 ≤ st.1 ∧ st.1 ≤ F ∧ st.2.length ≤ 32 ∧ Ly wr w.heap.size cF cM cA cL w.heap.size F M vs st ∧ Upd (fun k => w.heap.size ≤ k) w wr) (fun vi _ => t - (intOf vi).toNat)
    case atStart => exact ⟨0, (0, []), _, Nat.zero_le _, rfl, rfl, by decide, by show (0 : Int) ≤ F; omega, by decide, LY0.out, U2.out⟩
    case round =>
      obtain ⟨i, st0, vs0, hi, rfl, hrow, hs0, hs1, hs2, hly, hU⟩ := hrel
      have HROW := Lib.hid hrow; have HLY := Lib.hid hly; have HU := Lib.hid hU
      clear hrow hly hU
      by_cases hlt : i < t
      · go_wp2_with fail
        go_loopw [33] (fun vp wp => ∃ (p : Nat) (st : Int × List W3) (vs : Value), p ≤ ns.length ∧ vp = .int .i64 p ∧ rowTo F M t ns i st0 p = some st ∧ 0 ≤ st.1 ∧ st.1 ≤ F ∧ st.2.length ≤ 32 ∧ Ly wp w.heap.size cF cM cA cL w.heap.size F M vs st ∧ Upd (fun k => w.heap.size ≤ k) w wp) (fun vp _ => ns.length - (intOf vp).toNat)
        case atStart => exact ⟨0, st0, vs0, Nat.zero_le _, rfl, rfl, hs0, hs1, hs2, HLY.out, HU.out⟩
        case round =>
          obtain ⟨p, st, vs, hp, rfl, hrow, hs0', hs1', hs2', hly, hU⟩ := hrel
          have HROW2 := Lib.hid hrow; have HLY2 := Lib.hid hly; have HU2 := Lib.hid hU
          clear hrow hly hU
          by_cases hlp : p < ns.length
          · obtain ⟨x, hx⟩ : ∃ x, ns[p]? = some x := ⟨_, List.getElem?_eq_getElem hlp⟩
            obtain ⟨A', cap', e, hcell⟩ := HR.out.still (HU2.out.mono (S' := fun _ => False) (fun k hk h => absurd h (by omega)))
            injection e with e1 e2 e3
            subst e1 e3
            obtain ⟨b, o, rfl, hbx, q0⟩ := hcell p x hx
            have hx0 := HPOS.out x (List.mem_of_getElem? hx)
            have hx1 := HW.out x (List.mem_of_getElem? hx)
            have HX := Lib.hid hx
            clear hcell hx
            obtain ⟨n, hn⟩ : ∃ n, shareN x t i = n := ⟨_, rfl⟩
            have hn0 : 0 ≤ n := by
              have := (shareN_le x t i hx0 hT1 (by omega)).1
              rw [← hn]
              unfold shareN
              split <;> omega
            have HN := Lib.hid hn
            have HST : Hid (rowTo F M t ns i st0 (p + 1) = layS F M st p n) := Lib.hid (by rw [rowTo_step HROW2.out HX.out, hn])
            clear hn
            go_wp2_with fail
            refine (shareP _ x t i hx0 hx1 hT1 (by omega) n HN.out).mono ?_
            rintro e w5 ⟨rfl, k5, rfl⟩
            have L5 := Lib.hid (HLY2.out.still ((Upd.refl _ _).drewN k5))
            have U5 := Lib.hid (HU2.out.drewN k5)
            go_wp2_with fail
            refine (layP _ w.heap.size cF cM cA cL w.heap.size F M vs st L5.out U5.out.size p n (by omega) hF2 hM1 hM2 hs0' hs1' hs2' hn0).mono ?_
            obtain ⟨r, hr⟩ : ∃ r, layS F M st p n = r := ⟨_, rfl⟩
            have HRR := Lib.hid hr
            rw [hr]
            clear hr
            rintro e w6 ⟨hres, hU6⟩
            have U6 := Lib.hid (U5.out.trans hU6)
            clear hU6
            cases r with
            | none =>
              dsimp only at hres
              subst hres
              have HZ : Hid (spreadN F M t ns = ([], 5)) := Lib.hid (by
                have h2 : layS F M st p (shareN (ns.getD p 0) t i) = none := by
                  rw [List.getD_eq_getElem?_getD, HX.out]
                  show layS F M st p (shareN x t i) = none
                  rw [HN.out]
                  exact HRR.out
                rw [HSP.out, rows_fail HROW.out HROW2.out h2 hlp hlt])
              go_wp2_with fail
              go_returns
              rw [HZ.out]
              exact ⟨_, rfl, SlR.nil, U6.out.mono (fun k hk h => absurd h (by omega))⟩
            | some st' =>
              obtain ⟨rfl, vs', hly'⟩ := hres
              have L6 := Lib.hid hly'
              have hb := layS_le hM1 hs1' hs0' hn0 HRR.out
              have HST2 : Hid (rowTo F M t ns i st0 (p + 1) = some st') := Lib.hid (by rw [HST.out]; exact HRR.out)
              clear hly'
              go_wp2_with fail
              go_roundw
              case rel => exact ⟨p + 1, st', vs', by omega, by go_num, HST2.out, hb.1, hb.2.1, hb.2.2.2 hs2', L6.out, U6.out⟩
              case measure => simp [intOf]; omega
          · have hpe : p = ns.length := by omega
            subst hpe
            have HNX : Hid (rowsTo F M t ns (i + 1) = some st) := Lib.hid (by rw [rowsTo, HROW.out]; exact HROW2.out)
            go_wp2_with fail
            go_roundw
            case rel => exact ⟨i + 1, st, vs, by omega, by go_num, HNX.out, hs0', hs1', hs2', HLY2.out, HU2.out⟩
            case measure => simp [intOf]; omega
      · have hie : i = t := by omega
        subst hie
        have HZ : Hid (spreadN F M i ns = (st0.2, 0)) := Lib.hid (by rw [HSP.out, HROW.out])
        have lc := HLY.out.b.cell 0
        obtain ⟨Ax, cx, hsh⟩ := HLY.out.s.shape
        subst hsh
        simp only [List.getElem?_toArray, List.getElem?_cons_zero] at lc
        go_wp2_with fail
        go_returns
        rw [HZ.out]
        exact ⟨_, rfl, HLY.out.s, HU.out.mono (fun k hk h => absurd h (by omega))⟩
  · have HF : Hid (spreadN F M T ns = ([], fineE F M T ns)) := Lib.hid (by unfold spreadN; rw [if_pos hf])
    obtain ⟨fe, hfe⟩ : ∃ fe, fineE F M T ns = fe := ⟨_, rfl⟩
    have HFE := Lib.hid hfe
    rw [hfe] at HF hf
    rw [HF.out]
    have ef : (fe == 0) = false := beq_eq_false_iff_ne.2 hf
    clear hf hfe
    go_enter Try.func10, Try.ntmps10
    go_wp2_with fail
    refine (fineP _ F M T _ ns HR.out).mono ?_
    rintro e w1 ⟨rfl, k1, rfl⟩
    rw [HFE.out]
    go_wp2_with fail
    go_returns
    exact ⟨_, rfl, SlR.nil, (Upd.refl _ w).drewN _⟩
end Go.Proofs.Ytldbjoegfcmfkaa
