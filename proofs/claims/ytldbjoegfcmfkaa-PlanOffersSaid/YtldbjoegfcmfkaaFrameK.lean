/-
  The walks of the document's table: Count, Next, New.
-/
import Derived.Test.YtldbjoegfcmfkaaFrameJ
import Derived.Test.YtldbjoegfcmfkaaSeqR
import Derived.Laws.AppendOwnNone
namespace Go.Proofs.Ytldbjoegfcmfkaa
open Go.RowKit
attribute [local go_sem] max_ints min_ints

set_option maxRecDepth 100000 in
set_option maxHeartbeats 3200000 in
theorem countR (w : World) (g F : Nat) (M : Int) (ws : List W3) (h : RTb w g F M ws) (p f n : Int) (m : Nat) (hm : min (max n 0) 4611686018427387904 = (m : Int)) (c : Int) (hc : cntF M ws p F f m = c) :
    Calls Try.prog 30 #[.pointer (some ⟨g, 0, none⟩), .int .i64 p, .int .i64 f, .int .i64 n] w fun e w' => e = .returned (.int .i64 c) ∧ Upd (fun _ => False) w w' := by
  have hr := rightB_parts h.1
  have hF1 := hr.1
  have hF2 := hr.2.1
  have hm62 : (m : Int) ≤ 4611686018427387904 := by omega
  have H := Lib.hid h; have HM := Lib.hid hm
  obtain ⟨L, hB⟩ : ∃ L, Blk w g 74 #[.int .i64 F, .int .i64 M, L] := let ⟨_, L, h, _⟩ := h; ⟨L, h⟩
  have HB := Lib.hid hB
  have c0 : w.cell? ⟨g, 0, none⟩ = some (.int .i64 F) := hB.cell 0
  clear h hr hm hB
  obtain ⟨a, ha⟩ : ∃ a : Nat, f % (F : Int) = a := ⟨(f % (F : Int)).toNat, by have := Int.emod_nonneg f (show (F : Int) ≠ 0 by omega); omega⟩
  have haF : a < F := by have := Int.emod_lt_of_pos f (show (0 : Int) < (F : Int) by omega); omega
  obtain ⟨q, hq⟩ : ∃ q, m / F = q := ⟨_, rfl⟩
  obtain ⟨r, hrr⟩ : ∃ r, m % F = r := ⟨_, rfl⟩
  have hrF : r < F := by rw [← hrr]; exact Nat.mod_lt _ hF1
  have HQ : Hid ((m : Int) / (F : Int) = (q : Int)) := Lib.hid (by rw [← hq]; simp)
  have HRR : Hid ((m : Int) % (F : Int) = (r : Int)) := Lib.hid (by rw [← hrr]; simp)
  have hqF : q * F ≤ m := by rw [← hq]; exact Nat.div_mul_le_self _ _
  have hcF := cntO_le M ws p F
  obtain ⟨cF, hcFe⟩ : ∃ cF, cntO M ws p F = cF := ⟨_, rfl⟩
  have HSUM : Hid (c = q * cF + cntF M ws p F a r) := Lib.hid (by
    have e : m = q * F + r := by rw [← hq, ← hrr, Nat.mul_comm]; exact (Nat.div_add_mod m F).symm
    rw [← hc, e, cntF_frames M ws p F hF1, ← cntF_mod M ws p F f r, ha, hcFe])
  rw [hcFe] at hcF
  have hqc0 : 0 ≤ (q : Int) * cF := Int.mul_nonneg (by omega) hcF.1
  have hqc1 : (q : Int) * cF ≤ 4611686018427387904 := by
    have h1 : (q : Int) * cF ≤ (q : Int) * F := Int.mul_le_mul_of_nonneg_left hcF.2 (by omega)
    have h2 : ((q * F : Nat) : Int) ≤ (m : Int) := by exact_mod_cast hqF
    rw [Int.natCast_mul] at h2
    omega
  have hq62 : (q : Int) ≤ 4611686018427387904 := by
    have h1 : q * 1 ≤ q * F := Nat.mul_le_mul_left q (by omega)
    omega
  have HCF := Lib.hid hcFe
  have HA := Lib.hid ha
  have tF : ¬ (F = 0) := by omega
  clear hcFe hc hq hrr ha
  go_enter Try.func30, Try.ntmps30
  go_wp2_with fail
  rw [HM.out]
  refine (modR _ f F (by omega) (by omega)).mono ?_
  rintro e w1 ⟨rfl, k1, rfl⟩
  rw [HA.out]
  go_upto_region 3 with fail
  have H1 := Lib.hid (H.out.still ((Upd.refl _ w).drewN k1))
  have HB1 := Lib.hid (HB.out.drewN k1)
  have U1 := Lib.hid ((Upd.refl (fun _ => False) w).drewN k1)
  have c0' : (w.drewN k1).cell? ⟨g, 0, none⟩ = some (.int .i64 F) := HB1.out.cell 0
  clear c0
  generalize w.drewN k1 = W at *
  have td : (m : Int).tdiv (F : Int) = (q : Int) := by rw [Int.tdiv_eq_ediv_of_nonneg (by omega)]; exact HQ.out
  have hmul := wrap_in ((q : Int) * cF) (by omega) (by omega)
  have hwq := wrap_in (q : Int) (by omega) (by omega)
  refine wp_region_seq (fun i => decide (i ≠ 8)) (fun i => decide (11 ≤ i ∧ i < 11)) (fun w' => w'.cell? ⟨g, 0, none⟩ = some (.int .i64 F) ∧ True)
    (by kernel_rfl) (by kernel_rfl) (fun t ht => (of_decide_eq_true ht).2) (fun _ _ _ _ _ h => h) (by kernel_rfl) ⟨c0', trivial⟩ ?_
  iterate 8
    refine' wpSeq_q (by rfl) (by rfl) (fun w' hS' => ?_) ?_
    rotate_left
    · obtain ⟨s0, _⟩ := hS'
      go_simp
      try rfl
    try simp only [Act.put, List.setIfInBounds_toArray, List.set_cons_zero, List.set_cons_succ]
  refine wpSeq_l (by rfl) (by rfl) (fun KQ hKQ => ?_)
  go_simp
  go_at_call 28
  refine (offR _ g F M ws (H1.out.still ((Upd.refl _ W).drewN 1)) p cF HCF.out).mono ?_
  rintro e w2 ⟨rfl, hU2⟩
  have U2 := Lib.hid ((U1.out.drewN 1).trans hU2)
  have HB2 := Lib.hid ((HB1.out.drewN 1).upd hU2 (fun h => h))
  clear hU2
  refine hKQ _ _ (.inr ⟨HB2.out.cell 0, trivial⟩) ?_
  clear hKQ KQ
  try simp only [Act.put, List.setIfInBounds_toArray, List.set_cons_zero, List.set_cons_succ]
  iterate 2
    refine' wpSeq_q (by rfl) (by rfl) (fun w' hS' => ?_) ?_
    rotate_left
    · obtain ⟨s0, _⟩ := hS'
      go_simp
      try rfl
    try simp only [Act.put, List.setIfInBounds_toArray, List.set_cons_zero, List.set_cons_succ]
  refine wpSeq_nil ?_
  clear td hmul hwq
  obtain ⟨S0, hS0⟩ : ∃ S0, (q : Int) * cF = S0 := ⟨_, rfl⟩
  rw [hS0] at hqc0 hqc1 HSUM ⊢
  clear hS0
  have e5 : (m : Int).tmod (F : Int) = (r : Int) := by rw [Int.tmod_eq_emod_of_nonneg (by omega)]; exact HRR.out
  have e6 : (m : Int) % (F : Int) = (r : Int) := HRR.out
  go_wp2_with fail
  go_loopw [10, 11] (fun vs vi wr => ∃ i : Nat, i ≤ r ∧ vi = .int .i64 i ∧ vs = .int .i64 (S0 + cntF M ws p F a i) ∧ Upd (fun _ => False) w wr) (fun _ vi _ => r - (intOf vi).toNat)
  case atStart => exact ⟨0, Nat.zero_le _, rfl, by simp [cntF], U2.out⟩
  case round =>
    obtain ⟨i, hi, rfl, rfl, hU⟩ := hrel
    have HU := Lib.hid hU
    have c0 := (HB.out.upd hU (fun h => h)).cell 0
    simp at c0
    clear hU
    have hci := cntF_le M ws p F a i
    obtain ⟨c1, hc1⟩ : ∃ c, cntF M ws p F a i = c := ⟨_, rfl⟩
    rw [hc1] at hci ⊢
    have HC1 := Lib.hid hc1
    clear hc1
    by_cases hlt : i < r
    · obtain ⟨b, hb⟩ : ∃ b, isO M ws p (((a : Int) + (i : Int)) % F) = b := ⟨_, rfl⟩
      have HBI := Lib.hid hb
      clear hb
      go_wp2_with fail
      refine (isR _ g F M ws (H.out.still HU.out) p ((a : Int) + (i : Int)) b HBI.out).mono ?_
      rintro e w3 ⟨rfl, hU3⟩
      have U3 := Lib.hid (HU.out.trans hU3)
      clear hU3
      cases b
      · go_wp2_with fail
        go_roundw
        case rel => exact ⟨i + 1, by omega, by go_num, by rw [cntF, HC1.out, HBI.out]; simp, U3.out⟩
        case measure => simp [intOf]; omega
      · go_wp2_with fail
        go_roundw
        case rel => exact ⟨i + 1, by omega, by go_num, by rw [cntF, HC1.out, HBI.out]; simp [Int.add_assoc], U3.out⟩
        case measure => simp [intOf]; omega
    · have hie : i = r := by omega
      have HE : Hid (S0 + c1 = c) := Lib.hid (by rw [HSUM.out, ← HC1.out, hie])
      go_wp2_with fail
      go_returns
      exact ⟨ret_int HE.out, HU.out⟩

set_option maxRecDepth 100000 in
set_option maxHeartbeats 1600000 in
theorem nextR (w : World) (g F : Nat) (M : Int) (ws : List W3) (h : RTb w g F M ws) (p f f' : Int) (hf : min f 4611686018427387904 = f') (hf0 : -9223372036854775808 ≤ f) :
    Calls Try.prog 27 #[.pointer (some ⟨g, 0, none⟩), .int .i64 p, .int .i64 f] w fun e w' => ∃ x b, e = .returned (.tuple #[.int .i64 x, .bool b]) ∧ NextIs M ws p F f' x b ∧ Upd (fun _ => False) w w' := by
  have hr := rightB_parts h.1
  have hF1 := hr.1
  have hF2 := hr.2.1
  have hf1 : -9223372036854775808 ≤ f' ∧ f' ≤ 4611686018427387904 := by omega
  have hf2 := hf1.1
  have hf3 := hf1.2
  have H := Lib.hid h; have HF := Lib.hid hf
  have HB : Hid (∃ L, Blk w g 74 #[.int .i64 F, .int .i64 M, L]) := Lib.hid (let ⟨_, L, h, _⟩ := h; ⟨L, h⟩)
  clear h hr hf hf1
  go_enter Try.func27, Try.ntmps27
  go_wp2_with fail
  rw [HF.out]
  go_loopw [8] (fun vi wr => ∃ i : Nat, i ≤ F ∧ vi = .int .i64 i ∧ (∀ j : Nat, j < i → isO M ws p ((f' + j) % F) = false) ∧ Upd (fun _ => False) w wr) (fun vi _ => F - (intOf vi).toNat)
  case atStart => exact ⟨0, Nat.zero_le _, rfl, (fun j h => by omega), Upd.refl _ w⟩
  case round =>
    obtain ⟨i, hi, rfl, hno, hU⟩ := hrel
    have HU := Lib.hid hU
    have HN := Lib.hid hno
    obtain ⟨L, hB⟩ := HB.out
    have c0 := (hB.upd hU (fun h => h)).cell 0
    simp at c0
    clear hU hB hno
    by_cases hlt : i < F
    · obtain ⟨b, hb⟩ : ∃ b, isO M ws p ((f' + (i : Int)) % F) = b := ⟨_, rfl⟩
      have HBI := Lib.hid hb
      have hwi := wrap_in (f' + (i : Int)) (by omega) (by omega)
      have hwi2 : wrap64 (f' + (i : Int)) = f' + i := by unfold wrap64; omega
      clear hb
      go_wp2_with fail
      refine (isR _ g F M ws (H.out.still HU.out) p (f' + (i : Int)) b HBI.out).mono ?_
      rintro e w3 ⟨rfl, hU3⟩
      have U3 := Lib.hid (HU.out.trans hU3)
      clear hU3
      cases b
      · go_wp2_with fail
        go_roundw
        case rel =>
          refine ⟨i + 1, by omega, by go_num, fun j hj => ?_, U3.out⟩
          by_cases e : j = i
          · rw [e]; exact HBI.out
          · exact HN.out j (by omega)
        case measure => simp [intOf]; omega
      · have HX : Hid (NextIs M ws p F f' (f' + i) true) := Lib.hid (.inl ⟨i, hlt, HBI.out, HN.out, rfl, rfl⟩)
        go_wp2_with fail
        go_returns
        exact ⟨_, _, rfl, HX.out, U3.out⟩
    · have hie : i = F := by omega
      have HX : Hid (NextIs M ws p F f' 0 false) := Lib.hid (.inr ⟨fun j hj => HN.out j (by omega), rfl, rfl⟩)
      go_wp2_with fail
      go_returns
      exact ⟨_, _, rfl, HX.out, HU.out⟩
end Go.Proofs.Ytldbjoegfcmfkaa
