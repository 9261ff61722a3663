/-
  LedgerNil: no ledger, and one that nobody made.
-/
import Derived.Test.YtfpigcjhonfcjaaLedger2
namespace Go.Proofs.Ytfpigcjhonfcjaa
open Go.RowKit

/-- No ledger, or one that nobody made. -/
def NoneLed (w : World) (B : Nat) (v : Value) : Prop := v = .pointer none ∨ ∃ g, v = .pointer (some ⟨g, 0, none⟩) ∧ B ≤ g ∧ Blk w g 91 Try.zeroCells91

theorem NoneLed.drewN {w : World} {B : Nat} {v : Value} (h : NoneLed w B v) (k : Nat) : NoneLed (w.drewN k) B v := h

set_option maxRecDepth 100000 in
set_option maxHeartbeats 400000 in
theorem noneLZ (w : World) (B : Nat) (v : Value) (h : NoneLed w B v) :
    Calls Try.prog 66 #[v] w fun e w' => e = .returned (.bool true) ∧ ∃ k, w' = w.drewN k := by
  rcases h with rfl | ⟨g, rfl, hg, hb⟩
  · go_enter Try.func66, Try.ntmps66
    go_wp2
    go_ret
    exact ⟨rfl, 0, rfl⟩
  · have c0 : w.cell? ⟨g, 68, none⟩ = some (.bool false) := (hb.cell 68).trans rfl
    clear hb
    go_enter Try.func66, Try.ntmps66
    go_wp2
    go_ret
    exact ⟨rfl, 0, rfl⟩

set_option maxRecDepth 100000 in
set_option maxHeartbeats 400000 in
theorem chargeLZ (w : World) (B : Nat) (v : Value) (h : NoneLed w B v) (k p q : Int) :
    Calls Try.prog 49 #[v, .int .i64 k, .int .i64 p, .int .i64 q] w fun e w' => e = .returned (.int .i64 1) ∧ ∃ k, w' = w.drewN k := by
  have H := Lib.hid h; clear h
  go_enter Try.func49, Try.ntmps49
  go_wp2_with (go_at_call 66; refine (noneLZ _ B v H.out).mono ?_; rintro e w' ⟨rfl, k, rfl⟩)
  go_ret
  exact ⟨rfl, _, rfl⟩

set_option maxRecDepth 100000 in
set_option maxHeartbeats 400000 in
theorem ofLZ (w : World) (B : Nat) (v : Value) (h : NoneLed w B v) (k p : Int) :
    Calls Try.prog 52 #[v, .int .i64 k, .int .i64 p] w fun e w' => e = .returned (.int .i64 0) ∧ ∃ k, w' = w.drewN k := by
  have H := Lib.hid h; clear h
  go_enter Try.func52, Try.ntmps52
  go_wp2_with (go_at_call 66; refine (noneLZ _ B v H.out).mono ?_; rintro e w' ⟨rfl, k, rfl⟩)
  go_ret
  exact ⟨rfl, _, rfl⟩

set_option maxRecDepth 100000 in
set_option maxHeartbeats 400000 in
theorem gotLZ (w : World) (B : Nat) (v : Value) (h : NoneLed w B v) (p : Int) :
    Calls Try.prog 53 #[v, .int .i64 p] w fun e w' => e = .returned (.int .i64 0) ∧ ∃ k, w' = w.drewN k := by
  have H := Lib.hid h; clear h
  go_enter Try.func53, Try.ntmps53
  go_wp2_with (go_at_call 66; refine (noneLZ _ B v H.out).mono ?_; rintro e w' ⟨rfl, k, rfl⟩)
  go_ret
  exact ⟨rfl, _, rfl⟩

set_option maxRecDepth 100000 in
set_option maxHeartbeats 400000 in
theorem gaveLZ (w : World) (B : Nat) (v : Value) (h : NoneLed w B v) (p q : Int) :
    Calls Try.prog 54 #[v, .int .i64 p, .int .i64 q] w fun e w' => e = .returned (.int .i64 0) ∧ ∃ k, w' = w.drewN k := by
  have H := Lib.hid h; clear h
  go_enter Try.func54, Try.ntmps54
  go_wp2_with (go_at_call 66; refine (noneLZ _ B v H.out).mono ?_; rintro e w' ⟨rfl, k, rfl⟩)
  go_ret
  exact ⟨rfl, _, rfl⟩

set_option maxRecDepth 100000 in
set_option maxHeartbeats 400000 in
theorem totalLZ (w : World) (B : Nat) (v : Value) (h : NoneLed w B v) :
    Calls Try.prog 55 #[v] w fun e w' => e = .returned (.int .i64 0) ∧ ∃ k, w' = w.drewN k := by
  have H := Lib.hid h; clear h
  go_enter Try.func55, Try.ntmps55
  go_wp2_with (go_at_call 66; refine (noneLZ _ B v H.out).mono ?_; rintro e w' ⟨rfl, k, rfl⟩)
  go_ret
  exact ⟨rfl, _, rfl⟩

/-- Two rounds: no ledger; one that nobody made. -/
def AtLZ (w wr : World) (v : Value) (x0 x1 x2 : Int) : Prop :=
  NoneLed wr (w.heap.size + 1) v ∧ Below w.heap.size w wr ∧ Blk wr w.heap.size 80 #[.int .i64 x0, .int .i64 x1, .int .i64 x2]

set_option maxRecDepth 100000 in
set_option maxHeartbeats 1600000 in
theorem ledgernil_core (w : World) (x0 x1 x2 : Int) :
    Calls Try.prog 10 #[.agg #[.int .i64 x0, .int .i64 x1, .int .i64 x2]] w fun e w' => e = .returned (.bool true) ∧ Below w.heap.size w w' := by
  go_enter Try.func10, Try.ntmps10
  go_wp2_with fail
  go_loopw [3, 4] (fun vr vi wr => ∃ i : Nat, i ≤ 2 ∧ vi = .int .i64 i ∧ AtLZ w wr vr x0 x1 x2) (fun _ vi _ => 2 - (intOf vi).toNat)
  case atStart => exact ⟨0, by omega, rfl, .inl rfl, (Below.refl _ _).alloc (Nat.le_refl _) _, Blk.new _ _ _⟩
  case round =>
    obtain ⟨i, hi, rfl, hz, hB, hbk⟩ := hrel
    by_cases hlt : i < 2
    · have c0 := hbk.cell 0
      have c1 := hbk.cell 1
      have c2 := hbk.cell 2
      simp at c0 c1 c2
      have HZ := Lib.hid hz; clear hz
      have HB := Lib.hid hB; clear hB
      have HK := Lib.hid hbk; clear hbk
      go_wp2_with fail
      go_quiet (first
        | (go_at_call 49; exact Calls.quiet_of (chargeLZ _ _ _ (HZ.out.drewN _) _ _ _))
        | (go_at_call 48; exact Calls.quiet_of (num15 _ _))
        | (go_at_call 52; exact Calls.quiet_of (ofLZ _ _ _ (HZ.out.drewN _) _ _))
        | (go_at_call 53; exact Calls.quiet_of (gotLZ _ _ _ (HZ.out.drewN _) _))
        | (go_at_call 54; exact Calls.quiet_of (gaveLZ _ _ _ (HZ.out.drewN _) _ _))
        | (go_at_call 55; exact Calls.quiet_of (totalLZ _ _ _ (HZ.out.drewN _))))
      go_wp2_with fail
      go_roundw
      case rel =>
        exact ⟨i + 1, by omega, by go_num, .inr ⟨_, rfl, by have := HK.out.lt; simp; omega, Blk.new _ _ _⟩, (below_drewN HB.out _).alloc HB.out.size _, (HK.out.drewN _).alloc _⟩
      case measure => simp [intOf]; omega
    · have HB := Lib.hid hB; clear hB
      go_wp2_with fail
      refine (knows15 _).mono ?_
      rintro e w1 ⟨rfl, hB1⟩
      go_wp2_with fail
      go_ret
      exact ⟨rfl, HB.out.trans (hB1.mono HB.out.size)⟩

theorem ledgernil_any (w : World) (x : Nat → Int) (_ : ∀ k, k < 3 → (Lit.int .i64 (x k)).wf = true) :
    Calls Try.prog 10 #[.agg #[.int .i64 (x 0), .int .i64 (x 1), .int .i64 (x 2)]] w fun e w' => e = .returned (.bool true) ∧ Below w.heap.size w w' := ledgernil_core w _ _ _
end Go.Proofs.Ytfpigcjhonfcjaa
