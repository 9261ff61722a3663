/-
  RefillFull: the walk.
-/
import Derived.Test.YtlhiagbcmmmjpaaRefillF
import Derived.Test.YtlhiagbcmmmjpaaRefillK
import Derived.Test.YtlhiagbcmmmjpaaArgs2
namespace Go.Proofs.Ytlhiagbcmmmjpaa
open Go.RowKit

/-- Behind i acts. -/
def FullR (w wr : World) (g i : Nat) (C T now : Int) : Prop :=
  ∃ L p xs, Bud wr w.heap.size g L p xs ∧ Fine p xs C T i ∧ p.start = 0 ∧ p.now = now ∧ Below w.heap.size w wr

set_option maxRecDepth 100000 in
set_option maxHeartbeats 3200000 in
theorem refillFull_any (w : World) (s : Bool × Int × Int) (_ : (Lit.int .i64 s.2.1).wf = true ∧ (Lit.int .i64 s.2.2).wf = true) (A : Option Addr) (len cap : Nat) (ks : Nat → Nat → Int) (_ : ∀ k j, k < len → j < 2 → (Lit.int .i64 (ks k j)).wf = true) (hc : Row2 w A len ks) :
    Calls Try.prog 3 #[.agg #[.bool s.1, .int .i64 s.2.1, .int .i64 s.2.2], .slice A len cap] w fun e w' => e = .returned (.bool true) ∧ Below w.heap.size w w' := by
  have HC := Lib.hid hc; clear hc
  generalize s.1 = rf
  generalize s.2.1 = C at *
  generalize s.2.2 = T at *
  have hx := Blk.new w 23 #[.bool rf, .int .i64 C, .int .i64 T]
  have HX := Lib.hid hx; clear hx
  by_cases hl : 150 < len
  · have e0 : decide ((150 : Int) < (len : Int)) = true := decide_eq_true (by omega)
    obtain ⟨t, ht⟩ : ∃ t, okS C T = t := ⟨_, rfl⟩
    have HT := Lib.hid ht; clear ht
    cases t
    · go_enter Try.func3, Try.ntmps3
      go_wp2_with fail
      refine (newB_no _ rf C T 0 (.inl HT.out)).mono ?_
      rintro e w1 ⟨rfl, hU⟩
      have V1 := Lib.hid (Below.upd ((Below.refl w.heap.size w).alloc (Nat.le_refl _) _) hU (by simp) (fun _ h => h.elim))
      clear hU
      go_wp2_with fail
      refine (knows18 _).mono ?_
      rintro e w2 ⟨rfl, hB2⟩
      have V2 := Lib.hid (chn V1.out hB2); clear hB2
      go_wp2_with fail
      go_returns
      exact ⟨rfl, V2.out⟩
    · go_enter Try.func3, Try.ntmps3
      go_wp2_with fail
      refine (newB_yes _ w.heap.size rf C T 0 HT.out (by omega) (by omega)).mono ?_
      rintro e w1 ⟨g, rfl, hg, hb, hU⟩
      have V1 := Lib.hid (Below.upd ((Below.refl w.heap.size w).alloc (Nat.le_refl _) _) hU (by simp) (fun _ h => h.elim))
      clear hb hU
      go_wp2_with fail
      refine (knows18 _).mono ?_
      rintro e w2 ⟨rfl, hB2⟩
      have V2 := Lib.hid (chn V1.out hB2); clear hB2
      go_wp2_with fail
      go_returns
      exact ⟨rfl, V2.out⟩
  · have e0 : decide ((150 : Int) < (len : Int)) = false := decide_eq_false (by omega)
    obtain ⟨t, ht⟩ : ∃ t, okS C T = t := ⟨_, rfl⟩
    cases t
    · have HT := Lib.hid ht; clear ht
      go_enter Try.func3, Try.ntmps3
      go_wp2_with fail
      refine (newB_no _ rf C T 0 (.inl HT.out)).mono ?_
      rintro e w1 ⟨rfl, hU⟩
      have V1 := Lib.hid (Below.upd ((Below.refl w.heap.size w).alloc (Nat.le_refl _) _) hU (by simp) (fun _ h => h.elim))
      clear hU
      go_wp2_with fail
      refine (knows18 _).mono ?_
      rintro e w2 ⟨rfl, hB2⟩
      have V2 := Lib.hid (chn V1.out hB2); clear hB2
      go_wp2_with fail
      go_returns
      exact ⟨rfl, V2.out⟩
    · have HT := Lib.hid ht; clear ht
      go_enter Try.func3, Try.ntmps3
      go_wp2_with fail
      refine (newB_yes _ w.heap.size rf C T 0 HT.out (by omega) (by omega)).mono ?_
      rintro e w1 ⟨g, rfl, hg, hb, hU⟩
      simp at hg
      have X1 := Lib.hid (HX.out.upd hU (fun h => h))
      have V1 := Lib.hid (Below.upd ((Below.refl w.heap.size w).alloc (Nat.le_refl _) _) hU (by simp) (fun _ h => h.elim))
      have B1 := Lib.hid hb
      clear hb hU
      go_wp2_with fail
      refine (knows18 _).mono ?_
      rintro e w2 ⟨rfl, hB2⟩
      have X2 := Lib.hid (X1.out.below hB2 X1.out.lt)
      have V2 := Lib.hid (chn V1.out hB2)
      have B2 : Hid (Bud w2 w.heap.size g (.slice none 0 0) (Bp.new rf C T 0) []) := Lib.hid ⟨B1.out.b.below hB2 B1.out.b.lt, Sl.nil _ _ _ _⟩
      clear hB2
      go_wp2_with fail
      go_loopw [6, 7] (fun vn vi wr => ∃ (i : Nat) (nw : Nat), i ≤ len ∧ nw ≤ i ∧ vi = .int .i64 i ∧ vn = .int .i64 nw ∧ FullR w wr g i C T nw ∧ Blk wr w.heap.size 23 #[.bool rf, .int .i64 C, .int .i64 T]) (fun _ vi _ => len - (intOf vi).toNat)
      case atStart =>
        refine ⟨0, 0, by omega, by omega, rfl, rfl, ⟨_, _, [], B2.out, ?_, rfl, rfl, V2.out⟩, X2.out⟩
        have := of_decide_eq_true HT.out
        exact ⟨rfl, rfl, this.1, this.2.1, this.2.2, Int.le_refl _, Int.le_refl _, by show 0 ≤ C; omega, (fun _ h => by cases h), Nat.le_refl _, by show C + 0 ≤ C; omega⟩
      case round =>
        clear X2 B2 V2 X1 B1 V1
        obtain ⟨i, nw, hi, hni, rfl, rfl, ⟨L, p, xs, hB, hF, hst, hnow, hV⟩, hX⟩ := hrel
        have HB := Lib.hid hB; have HF := Lib.hid hF; have HV := Lib.hid hV; have HXr := Lib.hid hX
        have HS := Lib.hid hst; have HN := Lib.hid hnow
        clear hB hF hV hX hst hnow
        by_cases hlt : i < len
        · obtain ⟨b, o, rfl, hab, h0, _⟩ := HC.out i hlt
          have h0 := (HV.out.cell (p := ⟨b, o + i * 2, none⟩) hab).trans h0
          generalize ks i 0 = kind at *
          have HGQ : Hid (¬ (w.heap.size = g)) := Lib.hid (fun e => HXr.out.ne_ (e ▸ HB.out.b) (by decide) rfl)
          have HLQ : Hid (¬ (slBlk L = some w.heap.size)) := Lib.hid (fun e => by
            obtain ⟨_, _, cur, hcur⟩ := HB.out.s.blk _ e
            exact hcur.ne_ HXr.out (by decide) rfl)
          have hge : w.heap.size ≤ g := by omega
          by_cases hk0 : kind = 0
          · subst hk0
            go_wp2_with fail
            refine (goB _ _ g L p xs HB.out HV.out.size HF.out.fine (by have := HF.out.len; omega) (by rw [HF.out.eC]; exact HF.out.C1) (by have := HF.out.eC; have := HF.out.CT; have := HF.out.T1; omega) (by have := HF.out.eT; have := HF.out.CT; have := HF.out.C1; omega) (by rw [HF.out.eT]; exact HF.out.T1) HF.out.start HF.out.now _ (by have := HS.out; omega) (by omega) (by have := HN.out; omega) true).mono ?_
            rintro e w3 ⟨rfl, L', hb, hl', hU⟩
            have F3 := Lib.hid (HF.out.go ((nw : Int) + 1) (by have := HS.out; omega) true)
            have G3 := Lib.hid (goP_sum p xs ((nw : Int) + 1) true)
            have B3 := Lib.hid hb
            have V3 := Lib.hid (HB.out.below HV.out HV.out.size hge hU)
            have X3 := Lib.hid (HXr.out.upd hU (fun hk => hk.elim (fun e => HGQ.out e) (fun e => HLQ.out e)))
            clear hb hl' hU
            go_wp2_with fail
            refine (freeB _ _ g L' _ _ B3.out (by rw [F3.out.eC]; exact F3.out.C1)).mono ?_
            rintro e w4 ⟨rfl, k4, rfl⟩
            go_wp2_with fail
            refine (liveB _ _ g L' _ _ (B3.out.drewN _) (by rw [F3.out.eC]; exact F3.out.C1) (by have := F3.out.len; omega)).mono ?_
            rintro e w5 ⟨v, rfl, hs5, hU5⟩
            obtain ⟨Av, cv, rfl⟩ := hs5.shape
            have B5 := Lib.hid ((B3.out.drewN _).still' hU5)
            have V5 := Lib.hid (Below.upd (below_drewN V3.out _) hU5 V3.out.size (fun _ h => h.elim))
            have X5 := Lib.hid ((X3.out.drewN _).upd hU5 (fun h => h))
            have S5 := Lib.hid hs5
            have HST : Hid ((goP p xs ((nw : Int) + 1) true).1.start = 0 ∧ (goP p xs ((nw : Int) + 1) true).1.now = (nw : Int) + 1) := Lib.hid (by
              unfold goP
              split
              · exact ⟨HS.out, rfl⟩
              · exact ⟨HS.out, rfl⟩)
            have HFU : Hid (((nw : Int) + 1) % T = 0 → (goP p xs ((nw : Int) + 1) true).1.free + sumL (goP p xs ((nw : Int) + 1) true).2 = C) := Lib.hid (fun hm => by
              rw [G3.out]
              exact goFree_full HF.out HS.out nw HN.out hm)
            clear hs5 hU5 G3
            generalize (goP p xs ((nw : Int) + 1) true).2 = ys at *
            generalize (goP p xs ((nw : Int) + 1) true).1 = q at *
            have hbT := fun k => sumL_bound _ (fineL_take F3.out.fine k)
            have HBT := Lib.hid hbT; clear hbT
            go_wp2_with fail
            go_loopw [8, 10] (fun vn vk wq => ∃ k : Nat, k ≤ ys.length ∧ vk = .int .i64 k ∧ vn = .int .i64 (q.free + sumL (ys.take k)) ∧ Upd (fun _ => False) w5 wq) (fun _ vk _ => ys.length - (intOf vk).toNat)
            case atStart => exact ⟨0, Nat.zero_le _, rfl, by simp [sumL], Upd.refl _ _⟩
            case round =>
              obtain ⟨k, hk, rfl, rfl, hUq⟩ := hrel
              by_cases hky : k < ys.length
              · obtain ⟨x, hx⟩ : ∃ x, ys[k]? = some x := ⟨_, List.getElem?_eq_getElem hky⟩
                have hS := S5.out.upd hUq (fun _ _ h => h)
                obtain ⟨bq, off, cq, e, _, _, _⟩ := hS.form (by omega)
                injection e with e1 e2 e3
                subst e1 e3
                have h1 := hS.cell _ _ (chk_at ys k x hx).2
                rw [← Nat.add_assoc] at h1
                have hb := HBT.out k
                have hx2 := F3.out.fine x (List.mem_of_getElem? hx)
                have hlen : (ys.take k).length = k := by rw [List.length_take]; omega
                rw [hlen] at hb
                have hb1 := hb.1
                have hb2 := hb.2
                have hq0 := F3.out.free
                have hq1 : q.free ≤ 1000 := by have := F3.out.sum; have := F3.out.pos; have := F3.out.CT; have := F3.out.T1; omega
                have hyl : ys.length ≤ 151 := by have := F3.out.len; omega
                have HX9 := Lib.hid hx; clear hx hS hb hlen
                have HUq := Lib.hid hUq; clear hUq
                generalize hsum : sumL (ys.take k) = sm at *
                have HSM := Lib.hid hsum; clear hsum
                go_wp2_with fail
                go_roundw
                case rel =>
                  refine ⟨k + 1, by omega, by go_num, ?_, HUq.out⟩
                  rw [sumL_take ys k x HX9.out, HSM.out, Int.add_assoc]
                case measure => simp [intOf]; omega
              · have hk' : k = ys.length := by omega
                subst hk'
                rw [List.take_length]
                have X6 := Lib.hid (X5.out.upd hUq (fun h => h))
                have B6 := Lib.hid (B5.out.still' hUq)
                have V6 := Lib.hid (Below.upd V5.out hUq V5.out.size (fun _ h => h.elim))
                have x1 := X6.out.cell 1
                have x2 := X6.out.cell 2
                simp at x1 x2
                clear hUq
                have eT : ¬ (T = 0) := by have := HF.out.C1; have := HF.out.CT; omega
                have tm : ((nw : Int) + 1).tmod T = ((nw : Int) + 1) % T := Int.tmod_eq_emod_of_nonneg (by omega)
                obtain ⟨bm, hbm⟩ : ∃ bm, (((nw : Int) + 1) % T == 0) = bm := ⟨_, rfl⟩
                have HBM := Lib.hid hbm
                cases bm
                · go_wp2_with fail
                  go_roundw
                  case rel => exact ⟨i + 1, nw + 1, by omega, by omega, by go_num, by go_num, ⟨L', q, ys, B6.out, F3.out, HST.out.1, by rw [HST.out.2]; omega, V6.out⟩, X6.out⟩
                  case measure => simp [intOf]; omega
                · have hC9 : q.free + sumL ys = C := HFU.out (beq_iff_eq.1 HBM.out)
                  rw [hC9]
                  clear hC9
                  go_wp2_with fail
                  go_roundw
                  case rel => exact ⟨i + 1, nw + 1, by omega, by omega, by go_num, by go_num, ⟨L', q, ys, B6.out, F3.out, HST.out.1, by rw [HST.out.2]; omega, V6.out⟩, X6.out⟩
                  case measure => simp [intOf]; omega
          by_cases hk1 : kind = 1
          · subst hk1
            go_wp2_with fail
            refine (goB _ _ g L p xs HB.out HV.out.size HF.out.fine (by have := HF.out.len; omega) (by rw [HF.out.eC]; exact HF.out.C1) (by have := HF.out.eC; have := HF.out.CT; have := HF.out.T1; omega) (by have := HF.out.eT; have := HF.out.CT; have := HF.out.C1; omega) (by rw [HF.out.eT]; exact HF.out.T1) HF.out.start HF.out.now _ (by have := HS.out; omega) (by omega) (by have := HN.out; omega) true).mono ?_
            rintro e w3 ⟨rfl, L', hb, hl', hU⟩
            have F3 := Lib.hid (HF.out.go ((nw : Int) + 1) (by have := HS.out; omega) true)
            have G3 := Lib.hid (goP_sum p xs ((nw : Int) + 1) true)
            have B3 := Lib.hid hb
            have V3 := Lib.hid (HB.out.below HV.out HV.out.size hge hU)
            have X3 := Lib.hid (HXr.out.upd hU (fun hk => hk.elim (fun e => HGQ.out e) (fun e => HLQ.out e)))
            clear hb hl' hU
            go_wp2_with fail
            refine (freeB _ _ g L' _ _ B3.out (by rw [F3.out.eC]; exact F3.out.C1)).mono ?_
            rintro e w4 ⟨rfl, k4, rfl⟩
            go_wp2_with fail
            refine (liveB _ _ g L' _ _ (B3.out.drewN _) (by rw [F3.out.eC]; exact F3.out.C1) (by have := F3.out.len; omega)).mono ?_
            rintro e w5 ⟨v, rfl, hs5, hU5⟩
            obtain ⟨Av, cv, rfl⟩ := hs5.shape
            have B5 := Lib.hid ((B3.out.drewN _).still' hU5)
            have V5 := Lib.hid (Below.upd (below_drewN V3.out _) hU5 V3.out.size (fun _ h => h.elim))
            have X5 := Lib.hid ((X3.out.drewN _).upd hU5 (fun h => h))
            have S5 := Lib.hid hs5
            have HST : Hid ((goP p xs ((nw : Int) + 1) true).1.start = 0 ∧ (goP p xs ((nw : Int) + 1) true).1.now = (nw : Int) + 1) := Lib.hid (by
              unfold goP
              split
              · exact ⟨HS.out, rfl⟩
              · exact ⟨HS.out, rfl⟩)
            have HFU : Hid (((nw : Int) + 1) % T = 0 → (goP p xs ((nw : Int) + 1) true).1.free + sumL (goP p xs ((nw : Int) + 1) true).2 = C) := Lib.hid (fun hm => by
              rw [G3.out]
              exact goFree_full HF.out HS.out nw HN.out hm)
            clear hs5 hU5 G3
            generalize (goP p xs ((nw : Int) + 1) true).2 = ys at *
            generalize (goP p xs ((nw : Int) + 1) true).1 = q at *
            have hbT := fun k => sumL_bound _ (fineL_take F3.out.fine k)
            have HBT := Lib.hid hbT; clear hbT
            go_wp2_with fail
            go_loopw [8, 10] (fun vn vk wq => ∃ k : Nat, k ≤ ys.length ∧ vk = .int .i64 k ∧ vn = .int .i64 (q.free + sumL (ys.take k)) ∧ Upd (fun _ => False) w5 wq) (fun _ vk _ => ys.length - (intOf vk).toNat)
            case atStart => exact ⟨0, Nat.zero_le _, rfl, by simp [sumL], Upd.refl _ _⟩
            case round =>
              obtain ⟨k, hk, rfl, rfl, hUq⟩ := hrel
              by_cases hky : k < ys.length
              · obtain ⟨x, hx⟩ : ∃ x, ys[k]? = some x := ⟨_, List.getElem?_eq_getElem hky⟩
                have hS := S5.out.upd hUq (fun _ _ h => h)
                obtain ⟨bq, off, cq, e, _, _, _⟩ := hS.form (by omega)
                injection e with e1 e2 e3
                subst e1 e3
                have h1 := hS.cell _ _ (chk_at ys k x hx).2
                rw [← Nat.add_assoc] at h1
                have hb := HBT.out k
                have hx2 := F3.out.fine x (List.mem_of_getElem? hx)
                have hlen : (ys.take k).length = k := by rw [List.length_take]; omega
                rw [hlen] at hb
                have hb1 := hb.1
                have hb2 := hb.2
                have hq0 := F3.out.free
                have hq1 : q.free ≤ 1000 := by have := F3.out.sum; have := F3.out.pos; have := F3.out.CT; have := F3.out.T1; omega
                have hyl : ys.length ≤ 151 := by have := F3.out.len; omega
                have HX9 := Lib.hid hx; clear hx hS hb hlen
                have HUq := Lib.hid hUq; clear hUq
                generalize hsum : sumL (ys.take k) = sm at *
                have HSM := Lib.hid hsum; clear hsum
                go_wp2_with fail
                go_roundw
                case rel =>
                  refine ⟨k + 1, by omega, by go_num, ?_, HUq.out⟩
                  rw [sumL_take ys k x HX9.out, HSM.out, Int.add_assoc]
                case measure => simp [intOf]; omega
              · have hk' : k = ys.length := by omega
                subst hk'
                rw [List.take_length]
                have X6 := Lib.hid (X5.out.upd hUq (fun h => h))
                have B6 := Lib.hid (B5.out.still' hUq)
                have V6 := Lib.hid (Below.upd V5.out hUq V5.out.size (fun _ h => h.elim))
                have x1 := X6.out.cell 1
                have x2 := X6.out.cell 2
                simp at x1 x2
                clear hUq
                have eT : ¬ (T = 0) := by have := HF.out.C1; have := HF.out.CT; omega
                have tm : ((nw : Int) + 1).tmod T = ((nw : Int) + 1) % T := Int.tmod_eq_emod_of_nonneg (by omega)
                obtain ⟨bm, hbm⟩ : ∃ bm, (((nw : Int) + 1) % T == 0) = bm := ⟨_, rfl⟩
                have HBM := Lib.hid hbm
                cases bm
                · go_wp2_with fail
                  go_roundw
                  case rel => exact ⟨i + 1, nw + 1, by omega, by omega, by go_num, by go_num, ⟨L', q, ys, B6.out, F3.out, HST.out.1, by rw [HST.out.2]; omega, V6.out⟩, X6.out⟩
                  case measure => simp [intOf]; omega
                · have hC9 : q.free + sumL ys = C := HFU.out (beq_iff_eq.1 HBM.out)
                  rw [hC9]
                  clear hC9
                  go_wp2_with fail
                  go_roundw
                  case rel => exact ⟨i + 1, nw + 1, by omega, by omega, by go_num, by go_num, ⟨L', q, ys, B6.out, F3.out, HST.out.1, by rw [HST.out.2]; omega, V6.out⟩, X6.out⟩
                  case measure => simp [intOf]; omega
          by_cases hk2 : kind = 2
          · subst hk2
            go_wp2_with fail
            refine (goB _ _ g L p xs HB.out HV.out.size HF.out.fine (by have := HF.out.len; omega) (by rw [HF.out.eC]; exact HF.out.C1) (by have := HF.out.eC; have := HF.out.CT; have := HF.out.T1; omega) (by have := HF.out.eT; have := HF.out.CT; have := HF.out.C1; omega) (by rw [HF.out.eT]; exact HF.out.T1) HF.out.start HF.out.now _ (by have := HS.out; omega) (by omega) (by have := HN.out; omega) false).mono ?_
            rintro e w3 ⟨rfl, L', hb, hl', hU⟩
            have F3 := Lib.hid (HF.out.go ((nw : Int) + 1) (by have := HS.out; omega) false)
            have G3 := Lib.hid (goP_sum p xs ((nw : Int) + 1) false)
            have B3 := Lib.hid hb
            have V3 := Lib.hid (HB.out.below HV.out HV.out.size hge hU)
            have X3 := Lib.hid (HXr.out.upd hU (fun hk => hk.elim (fun e => HGQ.out e) (fun e => HLQ.out e)))
            clear hb hl' hU
            go_wp2_with fail
            refine (freeB _ _ g L' _ _ B3.out (by rw [F3.out.eC]; exact F3.out.C1)).mono ?_
            rintro e w4 ⟨rfl, k4, rfl⟩
            go_wp2_with fail
            refine (liveB _ _ g L' _ _ (B3.out.drewN _) (by rw [F3.out.eC]; exact F3.out.C1) (by have := F3.out.len; omega)).mono ?_
            rintro e w5 ⟨v, rfl, hs5, hU5⟩
            obtain ⟨Av, cv, rfl⟩ := hs5.shape
            have B5 := Lib.hid ((B3.out.drewN _).still' hU5)
            have V5 := Lib.hid (Below.upd (below_drewN V3.out _) hU5 V3.out.size (fun _ h => h.elim))
            have X5 := Lib.hid ((X3.out.drewN _).upd hU5 (fun h => h))
            have S5 := Lib.hid hs5
            have HST : Hid ((goP p xs ((nw : Int) + 1) false).1.start = 0 ∧ (goP p xs ((nw : Int) + 1) false).1.now = (nw : Int) + 1) := Lib.hid (by
              unfold goP
              split
              · exact ⟨HS.out, rfl⟩
              · exact ⟨HS.out, rfl⟩)
            have HFU : Hid (((nw : Int) + 1) % T = 0 → (goP p xs ((nw : Int) + 1) false).1.free + sumL (goP p xs ((nw : Int) + 1) false).2 = C) := Lib.hid (fun hm => by
              rw [G3.out]
              exact goFree_full HF.out HS.out nw HN.out hm)
            clear hs5 hU5 G3
            generalize (goP p xs ((nw : Int) + 1) false).2 = ys at *
            generalize (goP p xs ((nw : Int) + 1) false).1 = q at *
            have hbT := fun k => sumL_bound _ (fineL_take F3.out.fine k)
            have HBT := Lib.hid hbT; clear hbT
            go_wp2_with fail
            go_loopw [8, 10] (fun vn vk wq => ∃ k : Nat, k ≤ ys.length ∧ vk = .int .i64 k ∧ vn = .int .i64 (q.free + sumL (ys.take k)) ∧ Upd (fun _ => False) w5 wq) (fun _ vk _ => ys.length - (intOf vk).toNat)
            case atStart => exact ⟨0, Nat.zero_le _, rfl, by simp [sumL], Upd.refl _ _⟩
            case round =>
              obtain ⟨k, hk, rfl, rfl, hUq⟩ := hrel
              by_cases hky : k < ys.length
              · obtain ⟨x, hx⟩ : ∃ x, ys[k]? = some x := ⟨_, List.getElem?_eq_getElem hky⟩
                have hS := S5.out.upd hUq (fun _ _ h => h)
                obtain ⟨bq, off, cq, e, _, _, _⟩ := hS.form (by omega)
                injection e with e1 e2 e3
                subst e1 e3
                have h1 := hS.cell _ _ (chk_at ys k x hx).2
                rw [← Nat.add_assoc] at h1
                have hb := HBT.out k
                have hx2 := F3.out.fine x (List.mem_of_getElem? hx)
                have hlen : (ys.take k).length = k := by rw [List.length_take]; omega
                rw [hlen] at hb
                have hb1 := hb.1
                have hb2 := hb.2
                have hq0 := F3.out.free
                have hq1 : q.free ≤ 1000 := by have := F3.out.sum; have := F3.out.pos; have := F3.out.CT; have := F3.out.T1; omega
                have hyl : ys.length ≤ 151 := by have := F3.out.len; omega
                have HX9 := Lib.hid hx; clear hx hS hb hlen
                have HUq := Lib.hid hUq; clear hUq
                generalize hsum : sumL (ys.take k) = sm at *
                have HSM := Lib.hid hsum; clear hsum
                go_wp2_with fail
                go_roundw
                case rel =>
                  refine ⟨k + 1, by omega, by go_num, ?_, HUq.out⟩
                  rw [sumL_take ys k x HX9.out, HSM.out, Int.add_assoc]
                case measure => simp [intOf]; omega
              · have hk' : k = ys.length := by omega
                subst hk'
                rw [List.take_length]
                have X6 := Lib.hid (X5.out.upd hUq (fun h => h))
                have B6 := Lib.hid (B5.out.still' hUq)
                have V6 := Lib.hid (Below.upd V5.out hUq V5.out.size (fun _ h => h.elim))
                have x1 := X6.out.cell 1
                have x2 := X6.out.cell 2
                simp at x1 x2
                clear hUq
                have eT : ¬ (T = 0) := by have := HF.out.C1; have := HF.out.CT; omega
                have tm : ((nw : Int) + 1).tmod T = ((nw : Int) + 1) % T := Int.tmod_eq_emod_of_nonneg (by omega)
                obtain ⟨bm, hbm⟩ : ∃ bm, (((nw : Int) + 1) % T == 0) = bm := ⟨_, rfl⟩
                have HBM := Lib.hid hbm
                cases bm
                · go_wp2_with fail
                  go_roundw
                  case rel => exact ⟨i + 1, nw + 1, by omega, by omega, by go_num, by go_num, ⟨L', q, ys, B6.out, F3.out, HST.out.1, by rw [HST.out.2]; omega, V6.out⟩, X6.out⟩
                  case measure => simp [intOf]; omega
                · have hC9 : q.free + sumL ys = C := HFU.out (beq_iff_eq.1 HBM.out)
                  rw [hC9]
                  clear hC9
                  go_wp2_with fail
                  go_roundw
                  case rel => exact ⟨i + 1, nw + 1, by omega, by omega, by go_num, by go_num, ⟨L', q, ys, B6.out, F3.out, HST.out.1, by rw [HST.out.2]; omega, V6.out⟩, X6.out⟩
                  case measure => simp [intOf]; omega
          by_cases hk3 : kind = 3
          · subst hk3
            go_wp2_with fail
            refine (useB _ _ g L p xs HB.out (by rw [HF.out.eC]; exact HF.out.C1) HF.out.fine (by have := HF.out.len; omega) _ rfl).mono ?_
            rintro e w3 ⟨rfl, L', hb, hl', hU⟩
            have B3 := Lib.hid hb
            have V3 := Lib.hid (HB.out.below HV.out HV.out.size hge hU)
            have X3 := Lib.hid (HXr.out.upd hU (fun hk => hk.elim (fun e => HGQ.out e) (fun e => HLQ.out e)))
            clear hb hl' hU
            go_wp2_with fail
            go_roundw
            case rel => exact ⟨i + 1, nw, by omega, by omega, by go_num, rfl, ⟨L', p, takeL xs, B3.out, HF.out.take.mono (by omega), HS.out, HN.out, V3.out⟩, X3.out⟩
            case measure => simp [intOf]; omega
          by_cases hk4 : kind = 4
          · subst hk4
            go_wp2_with fail
            refine (useB _ _ g L p xs HB.out (by rw [HF.out.eC]; exact HF.out.C1) HF.out.fine (by have := HF.out.len; omega) _ rfl).mono ?_
            rintro e w3 ⟨rfl, L', hb, hl', hU⟩
            have B3 := Lib.hid hb
            have V3 := Lib.hid (HB.out.below HV.out HV.out.size hge hU)
            have X3 := Lib.hid (HXr.out.upd hU (fun hk => hk.elim (fun e => HGQ.out e) (fun e => HLQ.out e)))
            clear hb hl' hU
            go_wp2_with fail
            go_roundw
            case rel => exact ⟨i + 1, nw, by omega, by omega, by go_num, rfl, ⟨L', p, takeL xs, B3.out, HF.out.take.mono (by omega), HS.out, HN.out, V3.out⟩, X3.out⟩
            case measure => simp [intOf]; omega
          by_cases hk5 : kind = 5
          · subst hk5
            go_wp2_with fail
            refine (doneB _ _ g L p xs HB.out (by rw [HF.out.eC]; exact HF.out.C1) HF.out.fine (by have := HF.out.len; omega) (by have := HF.out.free; omega) (by have := HF.out.sum; have := HF.out.pos; have := HF.out.CT; have := HF.out.T1; omega)).mono ?_
            rintro e w3 ⟨rfl, hb, hU⟩
            have B3 := Lib.hid hb
            have V3 := Lib.hid (Below.upd HV.out hU HV.out.size (fun k hk => by rw [hk]; exact hge))
            have X3 := Lib.hid (HXr.out.upd hU (fun e => HGQ.out e))
            clear hb hU
            go_wp2_with fail
            go_roundw
            case rel => exact ⟨i + 1, nw, by omega, by omega, by go_num, rfl, ⟨_, _, [], B3.out, HF.out.done.mono (by omega), HS.out, HN.out, V3.out⟩, X3.out⟩
            case measure => simp [intOf]; omega
          · have n0 : (kind == 0) = false := beq_eq_false_iff_ne.2 hk0
            have n1 : (kind == 1) = false := beq_eq_false_iff_ne.2 hk1
            have n2 : (kind == 2) = false := beq_eq_false_iff_ne.2 hk2
            have n3 : (kind == 3) = false := beq_eq_false_iff_ne.2 hk3
            have n4 : (kind == 4) = false := beq_eq_false_iff_ne.2 hk4
            have n5 : (kind == 5) = false := beq_eq_false_iff_ne.2 hk5
            clear hk0 hk1 hk2 hk3 hk4 hk5
            go_wp2_with fail
            go_roundw
            case rel => exact ⟨i + 1, nw, by omega, by omega, by go_num, rfl, ⟨L, p, xs, HB.out, HF.out.mono (by omega), HS.out, HN.out, HV.out⟩, HXr.out⟩
            case measure => simp [intOf]; omega
        · go_wp2_with fail
          go_returns
          exact ⟨rfl, HV.out⟩
end Go.Proofs.Ytlhiagbcmmmjpaa
