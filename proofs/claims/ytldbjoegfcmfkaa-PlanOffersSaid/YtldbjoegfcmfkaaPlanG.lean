/-
  The walk of the document's Cost.
-/
import Derived.Test.YtldbjoegfcmfkaaPlanF
namespace Go.Proofs.Ytldbjoegfcmfkaa
open Go.RowKit
attribute [local go_sem] max_ints min_ints

theorem costR_le (M : Int) (T : Nat) (y : Int) (hM : 0 ≤ M) (hM2 : M ≤ 8) (hT : 1 ≤ T) (hy : 0 ≤ y) (hy2 : y ≤ 256) : ∀ i : Nat, 0 ≤ costR M T y i ∧ costR M T y i ≤ 264 * i
  | 0 => by simp [costR]
  | i + 1 => by
    have ih := costR_le M T y hM hM2 hT hy hy2 i
    have h := shareN_le y T i hy (by omega) (by omega)
    have h' : shareN y T i ≤ y := h.2
    simp only [costR]
    split <;> omega

set_option maxRecDepth 100000 in
set_option maxHeartbeats 3200000 in
theorem costD (w : World) (M T : Int) (v : Value) (ns : List Int) (h : RdI w v ns) (M' : Int) (T' : Nat) (hM : min (max M 0) 8 = M') (hT : min (max T 1) 32 = (T' : Int)) :
    Calls Try.prog 16 #[.int .i64 M, .int .i64 T, v] w fun e w' => e = .returned (.int .i64 (costN M' T' ns (min ns.length 6))) ∧ ∃ k, w' = w.drewN k := by
  have HR := Lib.hid h; have HM := Lib.hid hM; have HT := Lib.hid hT
  have hM1 : 0 ≤ M' ∧ M' ≤ 8 := by omega
  have hT1 : 1 ≤ T' ∧ T' ≤ 32 := by omega
  obtain ⟨A, cap, rfl, _⟩ := h
  obtain ⟨k, hk⟩ : ∃ k : Nat, min ns.length 6 = k := ⟨_, rfl⟩
  rw [hk]
  have HK := Lib.hid hk
  clear hM hT hk
  go_enter Try.func16, Try.ntmps16
  go_wp2_with fail
  rw [HM.out, HT.out]
  go_loopw [7, 8] (fun vs vi wr => ∃ i : Nat, i ≤ k ∧ vi = .int .i64 i ∧ vs = .int .i64 (costN M' T' ns i) ∧ 0 ≤ costN M' T' ns i ∧ costN M' T' ns i ≤ 10000 * i ∧ Upd (fun _ => False) w wr ∧ ∃ q, wr = w.drewN q) (fun _ vi _ => k - (intOf vi).toNat)
  case atStart => exact ⟨0, Nat.zero_le _, rfl, rfl, Int.le_refl _, by simp [costN], Upd.refl _ _, 0, rfl⟩
  case round =>
    obtain ⟨i, hi, rfl, rfl, hc0, hc1, hU, q, hq⟩ := hrel
    have HU := Lib.hid hU; have HQ := Lib.hid hq
    obtain ⟨c, hc⟩ : ∃ c, costN M' T' ns i = c := ⟨_, rfl⟩
    rw [hc] at hc0 hc1 ⊢
    have HC := Lib.hid hc
    clear hc hU hq
    by_cases hlt : i < k
    · have hin : i < ns.length := by have := HK.out; omega
      have hi6 : i < 6 := by have := HK.out; omega
      have d1 : decide ((i : Int) < 6) = true := decide_eq_true (by omega)
      obtain ⟨x, hx⟩ : ∃ x, ns[i]? = some x := ⟨_, List.getElem?_eq_getElem hin⟩
      have HX := Lib.hid hx
      have HNX : Hid (costN M' T' ns (i + 1) = c + costOne M' T' x) := Lib.hid (by rw [costN, HC.out, List.getD_eq_getElem?_getD, hx]; rfl)
      obtain ⟨y, hy⟩ : ∃ y, min (max x 0) 256 = y := ⟨_, rfl⟩
      have HY := Lib.hid hy
      have hy0 : 0 ≤ y ∧ y ≤ 256 := by omega
      have HONE : Hid (costR M' T' y T' = costOne M' T' x) := Lib.hid (by rw [← hy]; exact costR_one M' T' x hT1.1)
      clear hx hy
      go_wp2_with fail
      go_loopw [7, 9] (fun vs vj wj => ∃ j : Nat, j ≤ T' ∧ vj = .int .i64 j ∧ vs = .int .i64 (c + costR M' T' y j) ∧ Upd (fun _ => False) w wj ∧ ∃ q, wj = w.drewN q) (fun _ vj _ => T' - (intOf vj).toNat)
      case atStart => exact ⟨0, Nat.zero_le _, rfl, by simp [costR], HU.out, q, HQ.out⟩
      case round =>
        obtain ⟨j, hj, rfl, rfl, hU, q2, hq2⟩ := hrel
        have HU2 := Lib.hid hU; have HQ2 := Lib.hid hq2
        clear hU hq2
        have hb := costR_le M' T' y hM1.1 hM1.2 hT1.1 hy0.1 hy0.2 j
        obtain ⟨r, hr⟩ : ∃ r, costR M' T' y j = r := ⟨_, rfl⟩
        rw [hr] at hb ⊢
        have HRJ := Lib.hid hr
        clear hr
        by_cases hlj : j < T'
        · obtain ⟨A', cap', e, hcell⟩ := HR.out.still HU2.out
          injection e with e1 e2 e3
          subst e1 e3
          obtain ⟨b, o, rfl, hbx, q0⟩ := hcell i x HX.out
          clear hcell
          obtain ⟨n, hn⟩ : ∃ n, shareN y T' j = n := ⟨_, rfl⟩
          have HN := Lib.hid hn
          have hnb : 0 ≤ n ∧ n ≤ y := by
            have := shareN_le y T' j hy0.1 (by omega) (by omega)
            rw [← hn]
            unfold shareN
            refine ⟨?_, this.2⟩
            split <;> omega
          clear hn
          go_wp2_with fail
          rw [HY.out]
          refine (shareR _ y T' j hy0.1 (by omega) (by omega) (by omega) n HN.out).mono ?_
          rintro e w5 ⟨rfl, k5, rfl⟩
          have U5 := Lib.hid (HU2.out.drewN k5)
          by_cases hn0 : 0 < n
          · have d2 : decide (0 < n) = true := decide_eq_true hn0
            have HS : Hid (costR M' T' y (j + 1) = r + (M' + n)) := Lib.hid (by rw [costR, HRJ.out, HN.out, if_pos hn0])
            have w1 := wrap_in (c + r + M') (by omega) (by omega)
            have w2 := wrap_in (c + r + M' + n) (by omega) (by omega)
            go_wp2_with fail
            go_roundw
            case rel => exact ⟨j + 1, by omega, by go_num, by rw [HS.out]; simp only [Int.add_assoc], U5.out, q2 + k5, by rw [HQ2.out, World.drewN_drewN]⟩
            case measure => simp [intOf]; omega
          · have d2 : decide (0 < n) = false := decide_eq_false hn0
            have HS : Hid (costR M' T' y (j + 1) = r) := Lib.hid (by rw [costR, HRJ.out, HN.out, if_neg hn0, Int.add_zero])
            go_wp2_with fail
            go_roundw
            case rel => exact ⟨j + 1, by omega, by go_num, by rw [HS.out], U5.out, q2 + k5, by rw [HQ2.out, World.drewN_drewN]⟩
            case measure => simp [intOf]; omega
        · have hje : j = T' := by omega
          subst hje
          go_wp2_with fail
          go_roundw
          case rel => exact ⟨i + 1, by omega, by go_num, by rw [HNX.out, ← HONE.out, HRJ.out], by rw [HNX.out, ← HONE.out, HRJ.out]; omega, by rw [HNX.out, ← HONE.out, HRJ.out]; omega, HU2.out, q2, HQ2.out⟩
          case measure => simp [intOf]; omega
    · have hie : i = k := by omega
      subst hie
      have HE : Hid (i = ns.length ∨ i = 6) := Lib.hid (by have := HK.out; omega)
      rcases HE.out with e | e
      · have e' : ¬ i < ns.length := by omega
        go_wp2_with fail
        go_returns
        exact ⟨ret_int HC.out.symm, q, HQ.out⟩
      · by_cases hil : i < ns.length
        · have d1 : decide ((i : Int) < 6) = false := decide_eq_false (by omega)
          have d1' : ¬ i < 6 := by omega
          clear e
          go_wp2_with fail
          go_returns
          exact ⟨ret_int HC.out.symm, q, HQ.out⟩
        · clear e
          go_wp2_with fail
          go_returns
          exact ⟨ret_int HC.out.symm, q, HQ.out⟩
end Go.Proofs.Ytldbjoegfcmfkaa
