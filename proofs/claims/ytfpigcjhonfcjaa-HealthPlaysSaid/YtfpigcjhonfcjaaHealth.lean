/-
  The walks of health: a monitor of faults, and its reference.
-/
import Derived.Test.YtfpigcjhonfcjaaLib
namespace Go.Proofs.Ytfpigcjhonfcjaa
open Go.RowKit
attribute [local go_sem] max_ints min_ints

def kindWord (k : Int) : ByteArray := if k = 0 then ⟨#[109, 105, 115, 115, 101, 100]⟩ else if k = 1 then ⟨#[111, 118, 101, 114, 114, 117, 110]⟩ else if k = 2 then ⟨#[111, 100, 100]⟩ else ⟨#[]⟩
def actWord (k : Int) : ByteArray := if k = 0 then ⟨#[110, 111, 116, 101]⟩ else if k = 1 then ⟨#[115, 116, 111, 112]⟩ else if k = 2 then ⟨#[97, 103, 97, 105, 110]⟩ else ⟨#[]⟩

theorem five (k : Int) : k < 0 ∨ k = 0 ∨ k = 1 ∨ k = 2 ∨ 3 ≤ k := by omega

set_option maxHeartbeats 400000 in
theorem isk (w : World) (k : Int) (b : Bool) (hb : decide (0 ≤ k ∧ k < 3) = b) :
    Calls Try.prog 62 #[.int .i64 k] w fun e w' => e = .returned (.bool b) ∧ ∃ m, w' = w.drewN m := by
  by_cases h0 : 0 ≤ k
  · by_cases h1 : k < 3
    · have e0 : decide (0 ≤ k) = true := decide_eq_true h0
      have e1 : decide (k < 3) = true := decide_eq_true h1
      have : b = true := by rw [← hb]; exact decide_eq_true ⟨h0, h1⟩
      subst this
      clear hb
      go_enter Try.func62, Try.ntmps62
      go_wp2
      go_returns
      exact ⟨rfl, 0, rfl⟩
    · have e0 : decide (0 ≤ k) = true := decide_eq_true h0
      have e1 : decide (k < 3) = false := decide_eq_false h1
      have : b = false := by rw [← hb]; exact decide_eq_false (fun h => h1 h.2)
      subst this
      clear hb
      go_enter Try.func62, Try.ntmps62
      go_wp2
      go_returns
      exact ⟨rfl, 0, rfl⟩
  · have e0 : decide (0 ≤ k) = false := decide_eq_false h0
    have : b = false := by rw [← hb]; exact decide_eq_false (fun h => h0 h.1)
    subst this
    clear hb
    go_enter Try.func62, Try.ntmps62
    go_wp2
    go_returns
    exact ⟨rfl, 0, rfl⟩

theorem ix_kind : ∀ (w : World), (Instr.index 103 (.agg #[.string ⟨#[109, 105, 115, 115, 101, 100]⟩, .string ⟨#[111, 118, 101, 114, 114, 117, 110]⟩, .string ⟨#[111, 100, 100]⟩]) (.int .i64 0)).run Try.prog w = .ok (.string ⟨#[109, 105, 115, 115, 101, 100]⟩) w := fun _ => by kernel_rfl
theorem ix_kind1 : ∀ (w : World), (Instr.index 103 (.agg #[.string ⟨#[109, 105, 115, 115, 101, 100]⟩, .string ⟨#[111, 118, 101, 114, 114, 117, 110]⟩, .string ⟨#[111, 100, 100]⟩]) (.int .i64 1)).run Try.prog w = .ok (.string ⟨#[111, 118, 101, 114, 114, 117, 110]⟩) w := fun _ => by kernel_rfl
theorem ix_kind2 : ∀ (w : World), (Instr.index 103 (.agg #[.string ⟨#[109, 105, 115, 115, 101, 100]⟩, .string ⟨#[111, 118, 101, 114, 114, 117, 110]⟩, .string ⟨#[111, 100, 100]⟩]) (.int .i64 2)).run Try.prog w = .ok (.string ⟨#[111, 100, 100]⟩) w := fun _ => by kernel_rfl
theorem ix_act0 : ∀ (w : World), (Instr.index 103 (.agg #[.string ⟨#[110, 111, 116, 101]⟩, .string ⟨#[115, 116, 111, 112]⟩, .string ⟨#[97, 103, 97, 105, 110]⟩]) (.int .u8 0)).run Try.prog w = .ok (.string ⟨#[110, 111, 116, 101]⟩) w := fun _ => by kernel_rfl
theorem ix_act1 : ∀ (w : World), (Instr.index 103 (.agg #[.string ⟨#[110, 111, 116, 101]⟩, .string ⟨#[115, 116, 111, 112]⟩, .string ⟨#[97, 103, 97, 105, 110]⟩]) (.int .u8 1)).run Try.prog w = .ok (.string ⟨#[115, 116, 111, 112]⟩) w := fun _ => by kernel_rfl
theorem ix_act2 : ∀ (w : World), (Instr.index 103 (.agg #[.string ⟨#[110, 111, 116, 101]⟩, .string ⟨#[115, 116, 111, 112]⟩, .string ⟨#[97, 103, 97, 105, 110]⟩]) (.int .u8 2)).run Try.prog w = .ok (.string ⟨#[97, 103, 97, 105, 110]⟩) w := fun _ => by kernel_rfl

set_option maxRecDepth 100000 in
set_option maxHeartbeats 400000 in
theorem name_any (w : World) (k : Int) :
    Calls Try.prog 26 #[.int .i64 k] w fun e w' => e = .returned (.string (kindWord k)) ∧ Below w.heap.size w w' := by
  rcases five k with h | rfl | rfl | rfl | h
  · have e : kindWord k = ⟨#[]⟩ := by unfold kindWord; rw [if_neg (by omega), if_neg (by omega), if_neg (by omega)]
    rw [e]; clear e
    have HI : Hid (decide (0 ≤ k ∧ k < 3) = false) := Lib.hid (decide_eq_false (by omega))
    go_enter Try.func26, Try.ntmps26
    go_wp2_with (go_at_call 62; refine (isk _ _ _ HI.out).mono ?_; rintro e w' ⟨rfl, m, rfl⟩)
    go_returns
    exact ⟨rfl, below_drewN (Below.refl _ _) _⟩
  · have hix := ix_kind
    have HI : Hid (decide ((0 : Int) ≤ 0 ∧ (0 : Int) < 3) = true) := Lib.hid (by decide)
    go_enter Try.func26, Try.ntmps26
    go_wp2_with (go_at_call 62; refine (isk _ _ _ HI.out).mono ?_; rintro e w' ⟨rfl, m, rfl⟩)
    go_returns
    exact ⟨rfl, below_drewN (Below.refl _ _) _⟩
  · have hix := ix_kind1
    have HI : Hid (decide ((0 : Int) ≤ 1 ∧ (1 : Int) < 3) = true) := Lib.hid (by decide)
    go_enter Try.func26, Try.ntmps26
    go_wp2_with (go_at_call 62; refine (isk _ _ _ HI.out).mono ?_; rintro e w' ⟨rfl, m, rfl⟩)
    go_returns
    exact ⟨rfl, below_drewN (Below.refl _ _) _⟩
  · have hix := ix_kind2
    have HI : Hid (decide ((0 : Int) ≤ 2 ∧ (2 : Int) < 3) = true) := Lib.hid (by decide)
    go_enter Try.func26, Try.ntmps26
    go_wp2_with (go_at_call 62; refine (isk _ _ _ HI.out).mono ?_; rintro e w' ⟨rfl, m, rfl⟩)
    go_returns
    exact ⟨rfl, below_drewN (Below.refl _ _) _⟩
  · have e : kindWord k = ⟨#[]⟩ := by unfold kindWord; rw [if_neg (by omega), if_neg (by omega), if_neg (by omega)]
    rw [e]; clear e
    have HI : Hid (decide (0 ≤ k ∧ k < 3) = false) := Lib.hid (decide_eq_false (by omega))
    go_enter Try.func26, Try.ntmps26
    go_wp2_with (go_at_call 62; refine (isk _ _ _ HI.out).mono ?_; rintro e w' ⟨rfl, m, rfl⟩)
    go_returns
    exact ⟨rfl, below_drewN (Below.refl _ _) _⟩

set_option maxRecDepth 100000 in
set_option maxHeartbeats 400000 in
theorem rname_any (w : World) (k : Int) :
    Calls Try.prog 27 #[.int .i64 k] w fun e w' => e = .returned (.string (kindWord k)) ∧ Below w.heap.size w w' := by
  rcases five k with h | rfl | rfl | rfl | h
  · have e : kindWord k = ⟨#[]⟩ := by unfold kindWord; rw [if_neg (by omega), if_neg (by omega), if_neg (by omega)]
    rw [e]; clear e
    have e1 : decide (k < 0) = true := decide_eq_true (by omega)
    go_enter Try.func27, Try.ntmps27
    go_wp2
    go_returns
    exact ⟨rfl, (Below.refl _ _).alloc (Nat.le_refl _) _⟩
  · skip
    go_enter Try.func27, Try.ntmps27
    go_wp2
    go_returns
    exact ⟨rfl, (Below.refl _ _).alloc (Nat.le_refl _) _⟩
  · skip
    go_enter Try.func27, Try.ntmps27
    go_wp2
    go_returns
    exact ⟨rfl, (Below.refl _ _).alloc (Nat.le_refl _) _⟩
  · skip
    go_enter Try.func27, Try.ntmps27
    go_wp2
    go_returns
    exact ⟨rfl, (Below.refl _ _).alloc (Nat.le_refl _) _⟩
  · have e : kindWord k = ⟨#[]⟩ := by unfold kindWord; rw [if_neg (by omega), if_neg (by omega), if_neg (by omega)]
    rw [e]; clear e
    have e0 : decide (k < 0) = false := decide_eq_false (by omega)
    have e1 : decide ((2 : Int) < k) = true := decide_eq_true (by omega)
    go_enter Try.func27, Try.ntmps27
    go_wp2
    go_returns
    exact ⟨rfl, (Below.refl _ _).alloc (Nat.le_refl _) _⟩

set_option maxRecDepth 100000 in
set_option maxHeartbeats 400000 in
theorem does_any (w : World) (k : Int) (h0 : 0 ≤ k) :
    Calls Try.prog 28 #[.int .u8 k] w fun e w' => e = .returned (.string (actWord k)) ∧ Below w.heap.size w w' := by
  rcases five k with h | rfl | rfl | rfl | h
  · omega
  · have hix := ix_act0
    go_enter Try.func28, Try.ntmps28
    go_wp2
    go_returns
    exact ⟨rfl, Below.refl _ _⟩
  · have hix := ix_act1
    go_enter Try.func28, Try.ntmps28
    go_wp2
    go_returns
    exact ⟨rfl, Below.refl _ _⟩
  · have hix := ix_act2
    go_enter Try.func28, Try.ntmps28
    go_wp2
    go_returns
    exact ⟨rfl, Below.refl _ _⟩
  · have e : actWord k = ⟨#[]⟩ := by unfold actWord; rw [if_neg (by omega), if_neg (by omega), if_neg (by omega)]
    rw [e]; clear e
    have e1 : decide ((2 : Int) < k) = true := decide_eq_true (by omega)
    go_enter Try.func28, Try.ntmps28
    go_wp2
    go_returns
    exact ⟨rfl, Below.refl _ _⟩

set_option maxRecDepth 100000 in
set_option maxHeartbeats 400000 in
theorem rdoes_any (w : World) (k : Int) (h0 : 0 ≤ k) :
    Calls Try.prog 29 #[.int .u8 k] w fun e w' => e = .returned (.string (actWord k)) ∧ Below w.heap.size w w' := by
  rcases five k with h | rfl | rfl | rfl | h
  · omega
  · skip
    go_enter Try.func29, Try.ntmps29
    go_wp2
    go_returns
    exact ⟨rfl, (Below.refl _ _).alloc (Nat.le_refl _) _⟩
  · skip
    go_enter Try.func29, Try.ntmps29
    go_wp2
    go_returns
    exact ⟨rfl, (Below.refl _ _).alloc (Nat.le_refl _) _⟩
  · skip
    go_enter Try.func29, Try.ntmps29
    go_wp2
    go_returns
    exact ⟨rfl, (Below.refl _ _).alloc (Nat.le_refl _) _⟩
  · have e : actWord k = ⟨#[]⟩ := by unfold actWord; rw [if_neg (by omega), if_neg (by omega), if_neg (by omega)]
    rw [e]; clear e
    have e1 : decide ((2 : Int) < k) = true := decide_eq_true (by omega)
    go_enter Try.func29, Try.ntmps29
    go_wp2
    go_returns
    exact ⟨rfl, (Below.refl _ _).alloc (Nat.le_refl _) _⟩

end Go.Proofs.Ytfpigcjhonfcjaa
