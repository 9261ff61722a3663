/-
  PortsPlays, for every input.
-/
import Derived.Test.YtnhgmommehjeoaaPortX
namespace Go.Proofs.Ytnhgmommehjeoaa
open Go.RowKit
attribute [local go_sem] max_ints min_ints

theorem portsPlays_out (w : World) (A : Option Addr) (len cap : Nat) (A2 : Option Addr) (alen acap : Nat) (h : 20 < len ∨ 200 < alen) :
    Calls Try.prog 5 #[.slice A len cap, .slice A2 alen acap] w fun e w' => e = .returned (.bool true) ∧ Upd (fun _ => False) w w' := by
  by_cases h1 : 20 < len
  · have d1 : decide (20 < (len : Int)) = true := decide_eq_true (by omega)
    go_enter Try.func5, Try.ntmps5
    go_wp2_with fail
    refine (knowsO _).mono ?_
    rintro e w1 ⟨rfl, hU⟩
    go_wp2_with fail
    go_returns
    exact ⟨rfl, hU⟩
  · have d1 : decide (20 < (len : Int)) = false := decide_eq_false (by omega)
    have d2 : decide (200 < (alen : Int)) = true := decide_eq_true (by omega)
    go_enter Try.func5, Try.ntmps5
    go_wp2_with fail
    refine (knowsO _).mono ?_
    rintro e w1 ⟨rfl, hU⟩
    go_wp2_with fail
    go_returns
    exact ⟨rfl, hU⟩

theorem portsPlays_any (w : World) (A : Option Addr) (len cap : Nat) (X : Nat → Bool × Int × Int × Int)
    (_ : ∀ k, k < len → (Lit.int .i64 ((X k).2.1)).wf = true ∧ (Lit.int .i64 ((X k).2.2.1)).wf = true ∧ (Lit.int .i64 ((X k).2.2.2)).wf = true) (hc : Rowbiii w A len X)
    (A2 : Option Addr) (alen acap : Nat) (Y : Nat → Int × Int × Int × Int × Int)
    (_ : ∀ k, k < alen → (Lit.int .i64 ((Y k).1)).wf = true ∧ (Lit.int .i64 ((Y k).2.1)).wf = true ∧ (Lit.int .i64 ((Y k).2.2.1)).wf = true ∧ (Lit.int .i64 ((Y k).2.2.2.1)).wf = true ∧ (Lit.int .i64 ((Y k).2.2.2.2)).wf = true) (hc2 : Rowiiiii w A2 alen Y) :
    Calls Try.prog 5 #[.slice A len cap, .slice A2 alen acap] w fun e w' => e = .returned (.bool true) ∧ Below w.heap.size w w' := by
  have key : Calls Try.prog 5 #[.slice A len cap, .slice A2 alen acap] w fun e w' => e = .returned (.bool true) ∧ Upd (fun _ => False) w w' := by
    by_cases h : 20 < len ∨ 200 < alen
    · exact portsPlays_out w A len cap A2 alen acap h
    · exact portsPlays_main w A len cap (by omega) X hc A2 alen acap (by omega) Y hc2
  exact key.mono (fun _ _ ⟨h1, h2⟩ => ⟨h1, h2.below (Nat.le_refl _) (fun _ h => h.elim)⟩)
end Go.Proofs.Ytnhgmommehjeoaa
