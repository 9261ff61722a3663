/-
  The walks of plan.Rows and plan.Cost.
-/
import Derived.Test.YtldbjoegfcmfkaaPlanC
namespace Go.Proofs.Ytldbjoegfcmfkaa
open Go.RowKit
attribute [local go_sem] max_ints min_ints

set_option maxRecDepth 100000 in
set_option maxHeartbeats 800000 in
theorem rowsP (w : World) (F M : Int) (v : Value) (ns : List Int) (h : RdI w v ns) (hw : ∀ x ∈ ns, x ≤ 9223372036854775807) :
    Calls Try.prog 12 #[.int .i64 F, .int .i64 M, v] w fun e w' => ∃ v', e = .returned (.tuple #[v', .int .i64 (spreadN F M 1 ns).2]) ∧ SlR encW w' w.heap.size 39 3 v' (spreadN F M 1 ns).1 ∧ Upd (fun _ => False) w w' := by
  have HR := Lib.hid h; have HW := Lib.hid hw
  obtain ⟨A, cap, rfl, _⟩ := h
  clear hw
  go_enter Try.func12, Try.ntmps12
  go_wp2_with fail
  refine (spreadP _ F M 1 _ ns HR.out HW.out).mono ?_
  rintro e w1 ⟨v', rfl, hS, hU⟩
  obtain ⟨A', cap', hsh⟩ := hS.shape
  subst hsh
  have HS := Lib.hid hS; have HU := Lib.hid hU
  clear hS hU
  go_wp2_with fail
  go_returns
  exact ⟨_, rfl, HS.out, HU.out⟩
end Go.Proofs.Ytldbjoegfcmfkaa
