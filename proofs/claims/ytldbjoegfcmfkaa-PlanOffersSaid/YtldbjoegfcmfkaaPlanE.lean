/-
  The walk of plan.Cost.
-/
import Derived.Test.YtldbjoegfcmfkaaPlanD
namespace Go.Proofs.Ytldbjoegfcmfkaa
open Go.RowKit
attribute [local go_sem] max_ints min_ints

theorem costOne_le (M T x : Int) (hM : 0 ≤ M) (hM2 : M ≤ 8) (hT : 1 ≤ T) (hT2 : T ≤ 32) : 0 ≤ M * min (min (max x 0) 256) T ∧ M * min (min (max x 0) 256) T ≤ 256 := by
  have h1 : 0 ≤ min (min (max x 0) 256) T := by omega
  have h2 := Int.mul_nonneg hM h1
  have h3 : M * min (min (max x 0) 256) T ≤ 8 * min (min (max x 0) 256) T := Int.mul_le_mul_of_nonneg_right hM2 h1
  omega

set_option maxRecDepth 100000 in
set_option maxHeartbeats 1600000 in
theorem costP (w : World) (M T : Int) (A : Option Addr) (cap : Nat) (ns : List Int) (h : RdI w (.slice A ns.length cap) ns) (hcap : ns.length ≤ cap) (M' T' : Int) (hM : min (max M 0) 8 = M') (hT : min (max T 1) 32 = T') :
    Calls Try.prog 15 #[.int .i64 M, .int .i64 T, .slice A ns.length cap] w fun e w' => e = .returned (.int .i64 (costN M' T' ns (min ns.length 6))) ∧ ∃ k, w' = w.drewN k := by
  have HR := Lib.hid h; have HM := Lib.hid hM; have HT := Lib.hid hT
  have hM1 : 0 ≤ M' ∧ M' ≤ 8 := by omega
  have hT1 : 1 ≤ T' ∧ T' ≤ 32 := by omega
  obtain ⟨k, hk⟩ : ∃ k : Nat, min ns.length 6 = k := ⟨_, rfl⟩
  have hk' : min (ns.length : Int) 6 = (k : Int) := by omega
  have hkc : k ≤ cap := by omega
  have hkc' : ¬ cap < k := by omega
  rw [hk]
  have HK := Lib.hid hk
  clear hM hT h hk
  go_enter Try.func15, Try.ntmps15
  go_wp2_with fail
  refine (cutP _ M 0 8 M' HM.out).mono ?_
  rintro e w1 ⟨rfl, k1, rfl⟩
  go_wp2_with fail
  refine (cutP _ T 1 32 T' HT.out).mono ?_
  rintro e w1 ⟨rfl, k2, rfl⟩
  go_wp2_with fail
  go_loopw [7, 20] (fun vs vi wr => ∃ i : Nat, i ≤ k ∧ vi = .int .i64 i ∧ vs = .int .i64 (costN M' T' ns i) ∧ 0 ≤ costN M' T' ns i ∧ costN M' T' ns i ≤ 512 * i ∧ ∃ q, wr = w.drewN q) (fun _ vi _ => k - (intOf vi).toNat)
  case atStart => exact ⟨0, Nat.zero_le _, rfl, rfl, Int.le_refl _, by simp [costN], _, rfl⟩
  case round =>
    obtain ⟨i, hi, rfl, rfl, hc0, hc1, q, rfl⟩ := hrel
    obtain ⟨c, hc⟩ : ∃ c, costN M' T' ns i = c := ⟨_, rfl⟩
    rw [hc] at hc0 hc1 ⊢
    have HC := Lib.hid hc
    clear hc
    by_cases hlt : i < k
    · obtain ⟨x, hx⟩ : ∃ x, ns[i]? = some x := ⟨_, List.getElem?_eq_getElem (by have := HK.out; omega)⟩
      obtain ⟨A', cap', e, hcell⟩ := HR.out
      injection e with e1 e2 e3
      subst e1 e3
      obtain ⟨b, o, rfl, hbx, q0⟩ := hcell i x hx
      have HX : Hid (costN M' T' ns (i + 1) = c + costOne M' T' x) := Lib.hid (by rw [costN, HC.out, List.getD_eq_getElem?_getD, hx]; rfl)
      clear hcell hx
      obtain ⟨y, hy⟩ : ∃ y, min (max x 0) 256 = y := ⟨_, rfl⟩
      have hm := costOne_le M' T' x hM1.1 hM1.2 hT1.1 hT1.2
      have HY := Lib.hid hy
      have hy0 : 0 ≤ y ∧ y ≤ 256 := by omega
      unfold costOne at HX
      rw [hy] at hm HX
      obtain ⟨m, hm'⟩ : ∃ m, min y T' = m := ⟨_, rfl⟩
      rw [hm'] at hm HX
      obtain ⟨z, hz⟩ : ∃ z, M' * m = z := ⟨_, rfl⟩
      rw [hz] at hm HX
      have w1 := wrap_in z (by omega) (by omega)
      have w1' : wrap64 z = z := by unfold wrap64; omega
      have w2 := wrap_in (y + z) (by omega) (by omega)
      have w3 := wrap_in (c + (y + z)) (by omega) (by omega)
      have HN : Hid (costN M' T' ns (i + 1) = c + (y + z)) := HX
      clear hy HX
      go_wp2_with fail
      refine (cutP _ x 0 256 y HY.out).mono ?_
      rintro e w3 ⟨rfl, k3, rfl⟩
      go_wp2_with fail
      go_roundw
      case rel => exact ⟨i + 1, by omega, by go_num, by rw [HN.out], by rw [HN.out]; omega, by rw [HN.out]; omega, _, rfl⟩
      case measure => simp [intOf]; omega
    · have hie : i = k := by omega
      subst hie
      go_wp2_with fail
      go_returns
      exact ⟨ret_int HC.out.symm, q, rfl⟩
end Go.Proofs.Ytldbjoegfcmfkaa
