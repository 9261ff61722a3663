/-
  RefillNil: the walk.
-/
import Derived.Test.YtlhiagbcmmmjpaaRefillK
namespace Go.Proofs.Ytlhiagbcmmmjpaa
open Go.RowKit

set_option maxRecDepth 100000 in
set_option maxHeartbeats 3200000 in
theorem refillNil_any (w : World) (now : Int) (_ : (Lit.int .i64 now).wf = true) :
    Calls Try.prog 4 #[.int .i64 now] w fun e w' => e = .returned (.bool true) ∧ Below w.heap.size w w' := by
  go_enter Try.func4, Try.ntmps4
  go_wp2_with fail
  go_loopw [3, 4] (fun vb vi wr => ∃ i : Nat, i ≤ 2 ∧ vi = .int .i64 i ∧ Nought wr vb ∧ Below w.heap.size w wr) (fun _ vi _ => 2 - (intOf vi).toNat)
  case atStart => exact ⟨0, by omega, rfl, .inl rfl, Below.refl _ _⟩
  case round =>
    obtain ⟨i, hi, rfl, hN, hB⟩ := hrel
    by_cases hlt : i < 2
    · have HB := Lib.hid hB; clear hB
      have HN := Lib.hid hN; clear hN
      have e0 : decide ((i : Int) < 2) = true := decide_eq_true (by omega)
      go_wp2_with fail
      refine (goZ _ _ HN.out now true).mono ?_
      rintro e w1 ⟨rfl, k1, rfl⟩
      go_wp2_with fail
      refine (doneZ _ _ (HN.out.drewN _)).mono ?_
      rintro e w2 ⟨rfl, k2, rfl⟩
      go_wp2_with fail
      refine (stopZ _ _ (HN.out.drewN _)).mono ?_
      rintro e w3 ⟨rfl, k3, rfl⟩
      go_wp2_with fail
      refine (resumeZ _ _ (HN.out.drewN _)).mono ?_
      rintro e w4 ⟨rfl, k4, rfl⟩
      go_wp2_with fail
      refine (resetZ _ _ (HN.out.drewN _)).mono ?_
      rintro e w5 ⟨rfl, k5, rfl⟩
      go_wp2_with fail
      refine (dueZ _ _ (HN.out.drewN _)).mono ?_
      rintro e w6 ⟨rfl, k6, rfl⟩
      go_wp2_with fail
      refine (useZ _ _ (HN.out.drewN _)).mono ?_
      rintro e w7 ⟨rfl, k7, rfl⟩
      go_wp2_with fail
      refine (freeZ _ _ (HN.out.drewN _)).mono ?_
      rintro e w8 ⟨rfl, k8, rfl⟩
      go_wp2_with fail
      refine (liveZ _ _ (HN.out.drewN _)).mono ?_
      rintro e w9 ⟨rfl, k9, rfl⟩
      go_wp2_with fail
      go_roundw
      case rel => exact ⟨i + 1, by omega, by go_num, .inr ⟨_, rfl, Blk.new _ _ _⟩, (below_drewN HB.out _).alloc HB.out.size _⟩
      case measure => simp [intOf]; omega
    · have HB := Lib.hid hB; clear hB
      have e0 : decide ((i : Int) < 2) = false := decide_eq_false (by omega)
      clear hN
      go_wp2_with fail
      refine (knows18 _).mono ?_
      rintro e w1 ⟨rfl, hB1⟩
      have HB1 := Lib.hid (chn HB.out hB1); clear hB1
      go_wp2_with fail
      refine (newB_no _ false 1 1 (-1) (.inr (.inl (by omega)))).mono ?_
      rintro e w2 ⟨rfl, hU2⟩
      have HB2 := Lib.hid (Below.upd HB1.out hU2 HB1.out.size (fun _ h => h.elim)); clear hU2
      go_wp2_with fail
      go_returns
      exact ⟨rfl, HB2.out⟩
end Go.Proofs.Ytlhiagbcmmmjpaa
