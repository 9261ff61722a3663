/-
  The walks of chunk.Budget: Stop, Resume, Reset, Free, Live, Backs, Due, New.
-/
import Derived.Test.YtcgefncddbbnlaaChunkH
import Derived.Test.YtcgefncddbbnlaaChunkN
namespace Go.Proofs.Ytcgefncddbbnlaa.Ck
open Go.RowKit Go.Proofs.Ytcgefncddbbnlaa.Cf
attribute [local go_sem ↓] Go.wp_at_zero Go.wp_at_succ

section
variable {w w' : World} {base g : Nat} {s : St17}
theorem CSt.drewN (h : CSt w base g s) (k : Nat) : CSt (w.drewN k) base g s := let ⟨L, K, h⟩ := h; ⟨L, K, h.drewN k⟩
theorem CSt.still (h : CSt w base g s) (hu : Upd (fun _ => False) w w') : CSt w' base g s := let ⟨L, K, h⟩ := h; ⟨L, K, h.still hu⟩
end

set_option maxRecDepth 100000 in
set_option maxHeartbeats 800000 in
theorem newC_no (w : World) (rf : Bool) (C T : Int) (h : okS C T = false) :
    Calls Try.prog 73 #[.agg #[.bool rf, .int .i64 C, .int .i64 T]] w fun e w' => e = .returned (.pointer none) ∧ Upd (fun _ => False) w w' := by
  have HT := Lib.hid h; clear h
  go_enter Try.func73, Try.ntmps73
  go_wp2_with fail
  refine (rightS _ rf C T false HT.out).mono ?_
  rintro e w1 ⟨rfl, hU⟩
  have HU := Lib.hid hU; clear hU
  go_wp2_with fail
  go_returns
  exact ⟨rfl, ((Upd.refl _ w).alloc _).trans HU.out⟩

set_option maxRecDepth 100000 in
set_option maxHeartbeats 800000 in
theorem newC_yes (w : World) (base : Nat) (hbase : base ≤ w.heap.size) (rf : Bool) (C T : Int) (h : okS C T = true) :
    Calls Try.prog 73 #[.agg #[.bool rf, .int .i64 C, .int .i64 T]] w fun e w' => ∃ g, e = .returned (.pointer (some ⟨g, 0, none⟩)) ∧ w.heap.size ≤ g ∧ CSt w' base g (St17.new rf C T) ∧ Upd (fun _ => False) w w' := by
  have HT := Lib.hid h; clear h
  have hx := Blk.new w 25 #[.bool rf, .int .i64 C, .int .i64 T]
  have HX := Lib.hid hx; clear hx
  go_enter Try.func73, Try.ntmps73
  go_wp2_with fail
  refine (rightS _ rf C T true HT.out).mono ?_
  rintro e w1 ⟨rfl, hU⟩
  have hb := HX.out.upd hU (fun h => h)
  have c0 : w1.cell? ⟨w.heap.size, 0, none⟩ = some (.bool rf) := hb.cell 0
  have c1 : w1.cell? ⟨w.heap.size, 1, none⟩ = some (.int .i64 C) := hb.cell 1
  have c2 : w1.cell? ⟨w.heap.size, 2, none⟩ = some (.int .i64 T) := hb.cell 2
  clear hb
  have hsz := hU.size
  simp at hsz
  have HU := Lib.hid hU; clear hU
  go_wp2_with fail
  go_returns
  refine ⟨_, rfl, by omega, ⟨_, _, Blk.new _ _ _, SlR.nil, SlR.nil, by omega⟩, (((Upd.refl _ w).alloc _).trans HU.out).alloc _⟩
end Go.Proofs.Ytcgefncddbbnlaa.Ck
