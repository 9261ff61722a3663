/-
  demand.Serve of a right server.
-/
import Derived.Test.YtlhiagbcmmmjpaaConf
namespace Go.Proofs.Ytlhiagbcmmmjpaa
open Go.RowKit
attribute [local go_sem] max_ints min_ints

set_option maxHeartbeats 400000 in
theorem cut9 (w : World) (t : Int) (h0 : 0 ≤ t) (h1 : t ≤ 1099511627776) :
    Calls Try.prog 47 #[.int .i64 t] w fun e w' => e = .returned (.int .i64 t) ∧ ∃ k, w' = w.drewN k := by
  have hm : min (max t 0) 1099511627776 = t := by omega
  have HM := Lib.hid hm; clear hm
  go_enter Try.func47, Try.ntmps47
  go_wp2
  go_ret
  exact ⟨ret_int HM.out, 0, rfl⟩

set_option maxHeartbeats 400000 in
theorem jobs9 (w : World) (t T : Int) (h0 : 1 ≤ t) (h1 : t ≤ 1099511627776) (hT : 1 ≤ T) (hT2 : T ≤ 1000) (q : Int) (hq : (t - 1) / T + 1 = q) :
    Calls Try.prog 48 #[.int .i64 t, .int .i64 1, .int .i64 T] w fun e w' => e = .returned (.int .i64 q) ∧ ∃ k, w' = w.drewN k := by
  have hT0 : ¬ (T = 0) := by omega
  have e0 : decide (t < 1) = false := decide_eq_false (by omega)
  have hd0 : 0 ≤ (t - 1) / T := Int.ediv_nonneg (by omega) (by omega)
  have hd1 : (t - 1) / T ≤ 1099511627776 := Int.le_trans (Int.ediv_le_self _ (by omega)) (by omega)
  have ht : (t - 1).tdiv T = (t - 1) / T := Int.tdiv_eq_ediv_of_nonneg (by omega)
  have HQ := Lib.hid hq; clear hq
  go_enter Try.func48, Try.ntmps48
  go_wp2
  go_ret
  exact ⟨ret_int HQ.out, 0, rfl⟩

set_option maxRecDepth 100000 in
set_option maxHeartbeats 1600000 in
theorem serve_no (w : World) (C T t : Int) (hok : okS C T = true) (h0 : 0 ≤ t) (h1 : t ≤ 1099511627776) (q : Int) (hq : C * (t / T) = q) :
    Calls Try.prog 21 #[.agg #[.bool false, .int .i64 C, .int .i64 T], .int .i64 t] w fun e w' => e = .returned (.int .i64 q) ∧ Upd (fun _ => False) w w' := by
  have HT := Lib.hid hok
  have ho := of_decide_eq_true hok
  have hC := ho.1
  have hCT := ho.2.1
  have hT := ho.2.2
  clear ho hok
  have hT0 : ¬ (T = 0) := by omega
  have hd0 : 0 ≤ t / T := Int.ediv_nonneg (by omega) (by omega)
  have hd1 : t / T ≤ 1099511627776 := Int.le_trans (Int.ediv_le_self _ (by omega)) (by omega)
  have ht : t.tdiv T = t / T := Int.tdiv_eq_ediv_of_nonneg (by omega)
  have hm0 : 0 ≤ C * (t / T) := Int.mul_nonneg (by omega) hd0
  have hm1 : C * (t / T) ≤ 1000 * 1099511627776 := Int.le_trans (Int.mul_le_mul_of_nonneg_right (by omega) hd0) (Int.mul_le_mul_of_nonneg_left hd1 (by omega))
  have HQ : Hid (wrap64 (C * (t / T)) = q) := Lib.hid (by unfold wrap64; omega)
  have HX := Lib.hid (Blk.new w 27 #[.bool false, .int .i64 C, .int .i64 T])
  clear hq hm0 hm1
  go_enter Try.func21, Try.ntmps21
  go_wp2_with fail
  refine (cut9 _ t h0 h1).mono ?_
  rintro e w1 ⟨rfl, k1, rfl⟩
  go_wp2_with fail
  refine (rightS _ false C T true HT.out).mono ?_
  rintro e w2 ⟨rfl, hU⟩
  have X2 := Lib.hid ((HX.out.drewN k1).upd hU (fun h => h))
  have c0 : w2.cell? ⟨w.heap.size, 0, none⟩ = some (.bool false) := X2.out.cell 0
  have c1 : w2.cell? ⟨w.heap.size, 1, none⟩ = some (.int .i64 C) := X2.out.cell 1
  have c2 : w2.cell? ⟨w.heap.size, 2, none⟩ = some (.int .i64 T) := X2.out.cell 2
  have U2 := Lib.hid ((((Upd.refl (fun _ => False) w).alloc (.cells #[.bool false, .int .i64 C, .int .i64 T] 27)).drewN k1).trans hU)
  clear hU
  go_wp2_with fail
  go_quiet (fail)
  go_wp2_with fail
  go_ret
  exact ⟨ret_int HQ.out, U2.out.drewN _⟩

set_option maxRecDepth 100000 in
set_option maxHeartbeats 1600000 in
theorem serve_yes (w : World) (C T t : Int) (hok : okS C T = true) (h0 : T ≤ t) (h1 : t ≤ 1099511627776) (q : Int) (hq : C * ((t - 1) / T + 1) = q) :
    Calls Try.prog 21 #[.agg #[.bool true, .int .i64 C, .int .i64 T], .int .i64 t] w fun e w' => e = .returned (.int .i64 q) ∧ Upd (fun _ => False) w w' := by
  have HT := Lib.hid hok
  have ho := of_decide_eq_true hok
  have hC := ho.1
  have hCT := ho.2.1
  have hT := ho.2.2
  clear ho hok
  have hd0 : 0 ≤ (t - 1) / T := Int.ediv_nonneg (by omega) (by omega)
  have hd1 : (t - 1) / T ≤ 1099511627776 := Int.le_trans (Int.ediv_le_self _ (by omega)) (by omega)
  obtain ⟨r, hr⟩ : ∃ r, (t - 1) / T + 1 = r := ⟨_, rfl⟩
  rw [hr] at hq
  have hr0 : 0 ≤ r := by omega
  have hr1 : r ≤ 1099511627777 := by omega
  have hm0 : 0 ≤ C * r := Int.mul_nonneg (by omega) hr0
  have hm1 : C * r ≤ 1000 * 1099511627777 := Int.le_trans (Int.mul_le_mul_of_nonneg_right (by omega) hr0) (Int.mul_le_mul_of_nonneg_left hr1 (by omega))
  have HQ : Hid (wrap64 (C * r) = q) := Lib.hid (by unfold wrap64; omega)
  have HR := Lib.hid hr
  have e0 : decide (t < T) = false := decide_eq_false (by omega)
  have HX := Lib.hid (Blk.new w 27 #[.bool true, .int .i64 C, .int .i64 T])
  clear hq hm0 hm1 hr hd0 hd1
  go_enter Try.func21, Try.ntmps21
  go_wp2_with fail
  refine (cut9 _ t (by omega) h1).mono ?_
  rintro e w1 ⟨rfl, k1, rfl⟩
  go_wp2_with fail
  refine (rightS _ true C T true HT.out).mono ?_
  rintro e w2 ⟨rfl, hU⟩
  have X2 := Lib.hid ((HX.out.drewN k1).upd hU (fun h => h))
  have c0 : w2.cell? ⟨w.heap.size, 0, none⟩ = some (.bool true) := X2.out.cell 0
  have c1 : w2.cell? ⟨w.heap.size, 1, none⟩ = some (.int .i64 C) := X2.out.cell 1
  have c2 : w2.cell? ⟨w.heap.size, 2, none⟩ = some (.int .i64 T) := X2.out.cell 2
  have U2 := Lib.hid ((((Upd.refl (fun _ => False) w).alloc (.cells #[.bool true, .int .i64 C, .int .i64 T] 27)).drewN k1).trans hU)
  clear hU
  go_wp2_with fail
  go_quiet ((go_at_call 48; exact Calls.quiet_of (jobs9 _ t T (by omega) h1 (by omega) hT r HR.out)))
  go_wp2_with fail
  go_ret
  exact ⟨ret_int HQ.out, U2.out.drewN _⟩
end Go.Proofs.Ytlhiagbcmmmjpaa
