/-
  StatsMerges, for every input.
-/
import Derived.Test.YthjebjegedgoeaaStX
namespace Go.Proofs.Ythjebjegedgoeaa
open Go.RowKit Go.Shelf Go.Maps Go.Sort
attribute [local go_sem] max_ints min_ints

set_option maxRecDepth 100000 in
theorem statsMerges_out (w : World) (b d : Int) (A : Option Addr) (len cap : Nat) (A2 : Option Addr) (len2 cap2 : Nat) (h : 60 < len ∨ 60 < len2) :
    Calls Try.prog 4 #[.int .i64 b, .int .i64 d, .slice A len cap, .slice A2 len2 cap2] w fun e w' => e = .returned (.bool true) ∧ Upd (fun _ => False) w w' := by
  by_cases h1 : 60 < len
  · have d1 : decide (60 < (len : Int)) = true := decide_eq_true (by omega)
    go_enter Try.func4, Try.ntmps4
    go_wp2_with fail
    refine (knowsC _).mono ?_
    rintro e w1 ⟨rfl, hU⟩
    go_wp2_with fail
    go_returns
    exact ⟨rfl, hU⟩
  · have d1 : decide (60 < (len : Int)) = false := decide_eq_false (by omega)
    have d2 : decide (60 < (len2 : Int)) = true := decide_eq_true (by omega)
    go_enter Try.func4, Try.ntmps4
    go_wp2_with fail
    refine (knowsC _).mono ?_
    rintro e w1 ⟨rfl, hU⟩
    go_wp2_with fail
    go_returns
    exact ⟨rfl, hU⟩

theorem statsMerges_any (w : World) (b : Int) (_ : (Lit.int .i64 b).wf = true) (d : Int) (_ : (Lit.int .i64 d).wf = true) (A : Option Addr) (len cap : Nat) (X : Nat → Int × Int × Int × Int × Int)
    (hwf : ∀ k, k < len → (Lit.int .i64 ((X k).1)).wf = true ∧ (Lit.int .i64 ((X k).2.1)).wf = true ∧ (Lit.int .i64 ((X k).2.2.1)).wf = true ∧ (Lit.int .i64 ((X k).2.2.2.1)).wf = true ∧ (Lit.int .i64 ((X k).2.2.2.2)).wf = true) (hc : Rowiiiii w A len X)
    (A2 : Option Addr) (len2 cap2 : Nat) (X2 : Nat → Int × Int × Int × Int × Int)
    (hwf2 : ∀ k, k < len2 → (Lit.int .i64 ((X2 k).1)).wf = true ∧ (Lit.int .i64 ((X2 k).2.1)).wf = true ∧ (Lit.int .i64 ((X2 k).2.2.1)).wf = true ∧ (Lit.int .i64 ((X2 k).2.2.2.1)).wf = true ∧ (Lit.int .i64 ((X2 k).2.2.2.2)).wf = true) (hc2 : Rowiiiii w A2 len2 X2) :
    Calls Try.prog 4 #[.int .i64 b, .int .i64 d, .slice A len cap, .slice A2 len2 cap2] w fun e w' => e = .returned (.bool true) ∧ Below w.heap.size w w' := by
  have key : Calls Try.prog 4 #[.int .i64 b, .int .i64 d, .slice A len cap, .slice A2 len2 cap2] w fun e w' => e = .returned (.bool true) ∧ Upd (fun _ => False) w w' := by
    by_cases h : 60 < len ∨ 60 < len2
    · exact statsMerges_out w b d A len cap A2 len2 cap2 h
    · have := statsMerges_main w b d A cap (listJ X len) (by rw [listJ_len]; omega) (listJ_wf hwf) (jrow_of hc) A2 cap2 (listJ X2 len2) (by rw [listJ_len]; omega) (listJ_wf hwf2) (jrow_of hc2)
      rw [listJ_len, listJ_len] at this
      exact this
  exact key.mono (fun _ _ ⟨h1, h2⟩ => ⟨h1, h2.below (Nat.le_refl _) (fun _ h => h.elim)⟩)
end Go.Proofs.Ythjebjegedgoeaa
