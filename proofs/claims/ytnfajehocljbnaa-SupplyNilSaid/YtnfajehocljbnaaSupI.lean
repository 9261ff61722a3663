/-
  SupplyNil.
-/
import Derived.Test.YtnfajehocljbnaaSupG
namespace Go.Proofs.Ytnfajehocljbnaa
open Go.RowKit
attribute [local go_sem] max_ints min_ints

set_option maxRecDepth 100000 in
set_option maxHeartbeats 3200000 in
theorem supplyNil_any1 (w : World) (p n : Int) :
    Calls Try.prog 6 #[.int .i64 p, .int .i64 n] w fun e w' => e = .returned (.bool true) ∧ Upd (fun _ => False) w w' := by
  go_enter Try.func6, Try.ntmps6
  go_wp2_with fail
  go_loopw [5, 6] (fun vs vi wr => ∃ i : Nat, i ≤ 2 ∧ vi = .int .i64 i ∧ NoS wr vs ∧ Upd (fun _ => False) w wr) (fun _ vi _ => 2 - (intOf vi).toNat)
  case atStart => exact ⟨0, Nat.zero_le _, rfl, .inl rfl, Upd.refl _ _⟩
  case round =>
    obtain ⟨i, hi, rfl, hS, hU⟩ := hrel
    have hv : ∃ a, u5 = .pointer a := by rcases hS with rfl | ⟨s, rfl, _⟩ <;> exact ⟨_, rfl⟩
    obtain ⟨a, rfl⟩ := hv
    have HS := Lib.hid hS; have HU := Lib.hid hU
    clear hS hU
    by_cases hlt : i < 2
    · go_wp2_with fail
      refine (waitNo _ _ HS.out n).mono ?_
      rintro e w1 ⟨rfl, hU⟩
      have S1 : Hid (NoS w1 (.pointer a)) := Lib.hid (by
        rcases HS.out with h | ⟨s, h, h1⟩
        · exact .inl h
        · exact .inr ⟨s, h, (hU.cell (p := ⟨s, 0, none⟩) (block_lt_of_cell h1) (fun h => h)).trans h1⟩)
      have U1 := Lib.hid (HU.out.trans hU)
      clear hU
      go_wp2_with fail
      refine (rateNo _ _ S1.out).mono ?_
      rintro e w2 ⟨rfl, rfl⟩
      go_wp2_with fail
      refine (leastNo _ _ S1.out n).mono ?_
      rintro e w2 ⟨rfl, rfl⟩
      go_wp2_with fail
      refine (worstNo _ _ S1.out n).mono ?_
      rintro e w2 ⟨rfl, rfl⟩
      go_wp2_with fail
      go_roundw
      case rel => exact ⟨i + 1, by omega, by go_num, .inr ⟨_, rfl, (Blk.new _ _ _).cell 0⟩, U1.out.alloc _⟩
      case measure => simp [intOf]; omega
    · go_wp2_with fail
      refine (ofNo _ _ (.inl rfl) p).mono ?_
      rintro e w1 ⟨rfl, k1, rfl⟩
      go_wp2_with fail
      refine (ofNo _ _ (.inr ⟨_, rfl, (Blk.new _ _ _).cell 2⟩) p).mono ?_
      rintro e w2 ⟨rfl, k2, rfl⟩
      go_wp2_with fail
      refine (knowsS _).mono ?_
      rintro e w3 ⟨rfl, hU⟩
      go_wp2_with fail
      go_returns
      exact ⟨rfl, (((HU.out.drewN k1).alloc _).drewN k2).trans hU⟩

theorem supplyNil_any (w : World) (p : Int) (_ : (Lit.int .i64 p).wf = true) (n : Int) (_ : (Lit.int .i64 n).wf = true) :
    Calls Try.prog 6 #[.int .i64 p, .int .i64 n] w fun e w' => e = .returned (.bool true) ∧ Below w.heap.size w w' :=
  (supplyNil_any1 w p n).mono (fun _ _ ⟨h1, h2⟩ => ⟨h1, h2.below (Nat.le_refl _) (fun _ h => h.elim)⟩)
end Go.Proofs.Ytnfajehocljbnaa
