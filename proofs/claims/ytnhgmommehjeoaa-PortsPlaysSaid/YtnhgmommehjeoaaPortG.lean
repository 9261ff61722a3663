/-
  PortsNil.
-/
import Derived.Test.YtnhgmommehjeoaaPortF
import Derived.Test.YtnhgmommehjeoaaArgs3
namespace Go.Proofs.Ytnhgmommehjeoaa
open Go.RowKit
attribute [local go_sem] max_ints min_ints

set_option maxRecDepth 100000 in
set_option maxHeartbeats 1600000 in
theorem portsNil_any (w : World) (x : Int × Int × Int × Int × Int) (_f : (Lit.int .i64 (x.1)).wf = true ∧ (Lit.int .i64 (x.2.1)).wf = true ∧ (Lit.int .i64 (x.2.2.1)).wf = true ∧ (Lit.int .i64 (x.2.2.2.1)).wf = true ∧ (Lit.int .i64 (x.2.2.2.2)).wf = true) :
    Calls Try.prog 6 #[.agg #[.int .i64 (x.1), .int .i64 (x.2.1), .int .i64 (x.2.2.1), .int .i64 (x.2.2.2.1), .int .i64 (x.2.2.2.2)]] w fun e w' => e = .returned (.bool true) ∧ Below w.heap.size w w' := by
  obtain ⟨k, p, c, v, now⟩ := x
  clear _f
  dsimp only
  go_enter Try.func6, Try.ntmps6
  go_wp2_with fail
  refine (clearNil _ p).mono ?_
  rintro e w1 ⟨rfl, k1, rfl⟩
  go_wp2_with fail
  refine (readNil _ p c now).mono ?_
  rintro e w1 ⟨rfl, k2, rfl⟩
  go_wp2_with fail
  refine (writeNil _ p c v now).mono ?_
  rintro e w1 ⟨rfl, k3, rfl⟩
  go_wp2_with fail
  refine (numO _ 1).mono ?_
  rintro e w1 ⟨rfl, k4, rfl⟩
  go_wp2_with fail
  refine (numO _ 1).mono ?_
  rintro e w1 ⟨rfl, k5, rfl⟩
  go_wp2_with fail
  refine (waitNil _ c).mono ?_
  rintro e w1 ⟨rfl, k6, rfl⟩
  go_wp2_with fail
  refine (knowsO _).mono ?_
  rintro e w9 ⟨rfl, hU⟩
  have U9 := Lib.hid hU
  clear hU
  go_wp2_with fail
  go_returns
  refine ⟨rfl, ?_⟩
  exact ((((Upd.refl _ w).alloc _).drewN _).trans U9.out).below (Nat.le_refl _) (fun _ h => h.elim)
end Go.Proofs.Ytnhgmommehjeoaa
