/-
  LedgerPlays: lists of whatever length.
-/
import Derived.Test.YtfpigcjhonfcjaaLedgerP
namespace Go.Proofs.Ytfpigcjhonfcjaa
open Go.RowKit

set_option maxRecDepth 100000 in
theorem playsL_any (w : World) (parts : Int) (_ : (Lit.int .i64 parts).wf = true) (A : Option Addr) (len cap : Nat) (xs : Nat → Nat → Int) (_ : ∀ k j, k < len → j < 3 → (Lit.int .i64 (xs k j)).wf = true) (hc : Row3 w A len xs)
    (P : Int) (_ : (Lit.int .i64 P).wf = true) (Q : Int) (_ : (Lit.int .i64 Q).wf = true) :
    Calls Try.prog 8 #[.int .i64 parts, .slice A len cap, .int .i64 P, .int .i64 Q] w fun e w' => e = .returned (.bool true) ∧ Below w.heap.size w w' := by
  rcases Nat.lt_or_ge 200 len with hl | hl
  · have e0 : decide ((200 : Int) < (len : Int)) = true := decide_eq_true (by omega)
    go_enter Try.func8, Try.ntmps8
    go_wp2_with fail
    refine (knows15 _).mono ?_
    rintro e w1 ⟨rfl, hB1⟩
    go_wp2_with fail
    go_ret
    exact ⟨rfl, hB1⟩
  · exact playsL_short w parts A len cap xs P Q hl hc
end Go.Proofs.Ytfpigcjhonfcjaa
