/-
  WheelPlays, for every input.
-/
import Derived.Test.YtcljgejalacccaaWhY
import Derived.Test.YtcljgejalacccaaArgs
namespace Go.Proofs.Ytcljgejalacccaa
open Go.RowKit
attribute [local go_sem] max_ints min_ints

set_option maxRecDepth 100000 in
theorem wheelPlays_out (w : World) (s : Int) (A : Option Addr) (len cap : Nat) (h : 60 < len) :
    Calls Try.prog 3 #[.int .i64 s, .slice A len cap] w fun e w' => e = .returned (.bool true) ∧ Upd (fun _ => False) w w' := by
  have d1 : decide (60 < (len : Int)) = true := decide_eq_true (by omega)
  go_enter Try.func3, Try.ntmps3
  go_wp2_with fail
  refine (knowsW w).mono ?_
  rintro e w1 ⟨rfl, hU1⟩
  have U1 := Lib.hid hU1
  clear hU1
  go_wp2_with fail
  go_returns
  exact ⟨rfl, U1.out⟩

theorem wheelPlays_any (w : World) (t : Int) (_ : (Lit.int .i64 t).wf = true) (A : Option Addr) (len cap : Nat) (X : Nat → Nat → Int) (_ : ∀ k j, k < len → j < 3 → (Lit.int .i64 (X k j)).wf = true) (hc : Row3 w A len X) :
    Calls Try.prog 3 #[.int .i64 t, .slice A len cap] w fun e w' => e = .returned (.bool true) ∧ Below w.heap.size w w' := by
  have key : Calls Try.prog 3 #[.int .i64 t, .slice A len cap] w fun e w' => e = .returned (.bool true) ∧ Upd (fun _ => False) w w' := by
    by_cases h : 60 < len
    · exact wheelPlays_out w t A len cap h
    · exact wheelPlays_main w t A len cap (by omega) X hc
  exact key.mono (fun _ _ ⟨h1, h2⟩ => ⟨h1, h2.below (Nat.le_refl _) (fun _ h => h.elim)⟩)
end Go.Proofs.Ytcljgejalacccaa
