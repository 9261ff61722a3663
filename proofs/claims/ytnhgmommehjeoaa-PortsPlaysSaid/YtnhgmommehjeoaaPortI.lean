/-
  PortsOrder, for every input.
-/
import Derived.Test.YtnhgmommehjeoaaPortH
namespace Go.Proofs.Ytnhgmommehjeoaa
open Go.RowKit
attribute [local go_sem] max_ints min_ints

theorem portsOrder_out (w : World) (size : Int) (A : Option Addr) (len cap : Nat) (h : size < 1 ∨ 50 < size ∨ 200 < len) :
    Calls Try.prog 3 #[.int .i64 size, .slice A len cap] w fun e w' => e = .returned (.bool true) ∧ Upd (fun _ => False) w w' := by
  by_cases h1 : size < 1
  · have d1 : decide (size < 1) = true := decide_eq_true h1
    go_enter Try.func3, Try.ntmps3
    go_wp2_with fail
    refine (knowsO _).mono ?_
    rintro e w1 ⟨rfl, hU⟩
    go_wp2_with fail
    go_returns
    exact ⟨rfl, hU⟩
  · have d1 : decide (size < 1) = false := decide_eq_false h1
    by_cases h2 : 50 < size
    · have d2 : decide (50 < size) = true := decide_eq_true h2
      go_enter Try.func3, Try.ntmps3
      go_wp2_with fail
      refine (knowsO _).mono ?_
      rintro e w1 ⟨rfl, hU⟩
      go_wp2_with fail
      go_returns
      exact ⟨rfl, hU⟩
    · have d2 : decide (50 < size) = false := decide_eq_false h2
      have d3 : decide (200 < (len : Int)) = true := decide_eq_true (by omega)
      go_enter Try.func3, Try.ntmps3
      go_wp2_with fail
      refine (knowsO _).mono ?_
      rintro e w1 ⟨rfl, hU⟩
      go_wp2_with fail
      go_returns
      exact ⟨rfl, hU⟩

theorem portsOrder_any (w : World) (size : Int) (_ : (Lit.int .i64 size).wf = true) (A : Option Addr) (len cap : Nat) (X : Nat → Int × Int × Int × Int × Int)
    (_ : ∀ k, k < len → (Lit.int .i64 ((X k).1)).wf = true ∧ (Lit.int .i64 ((X k).2.1)).wf = true ∧ (Lit.int .i64 ((X k).2.2.1)).wf = true ∧ (Lit.int .i64 ((X k).2.2.2.1)).wf = true ∧ (Lit.int .i64 ((X k).2.2.2.2)).wf = true) (hc : Rowiiiii w A len X) :
    Calls Try.prog 3 #[.int .i64 size, .slice A len cap] w fun e w' => e = .returned (.bool true) ∧ Below w.heap.size w w' := by
  have key : Calls Try.prog 3 #[.int .i64 size, .slice A len cap] w fun e w' => e = .returned (.bool true) ∧ Upd (fun _ => False) w w' := by
    by_cases h : size < 1 ∨ 50 < size ∨ 200 < len
    · exact portsOrder_out w size A len cap h
    · obtain ⟨n, rfl⟩ : ∃ n : Nat, size = n := ⟨size.toNat, by omega⟩
      exact portsOrder_main w n (by omega) (by omega) A len cap (by omega) X hc
  exact key.mono (fun _ _ ⟨h1, h2⟩ => ⟨h1, h2.below (Nat.le_refl _) (fun _ h => h.elim)⟩)
end Go.Proofs.Ytnhgmommehjeoaa
