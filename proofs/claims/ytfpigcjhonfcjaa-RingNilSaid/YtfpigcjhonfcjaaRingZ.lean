/-
  RingNil: no row, and one that nobody made.
-/
import Derived.Test.YtfpigcjhonfcjaaOrders
namespace Go.Proofs.Ytfpigcjhonfcjaa
open Go.RowKit

/-- No row, or one that nobody made. -/
def NoneI (w : World) (B : Nat) (v : Value) : Prop := v = .pointer none ∨ ∃ g, v = .pointer (some ⟨g, 0, none⟩) ∧ B ≤ g ∧ Blk w g 71 #[.slice none 0 0, .int .i64 0, .int .i64 0]

theorem NoneI.drewN {w : World} {B : Nat} {v : Value} (h : NoneI w B v) (k : Nat) : NoneI (w.drewN k) B v := h

set_option maxHeartbeats 400000 in
theorem noneZ (w : World) (B : Nat) (v : Value) (h : NoneI w B v) :
    Calls Try.prog 63 #[v] w fun e w' => e = .returned (.bool true) ∧ ∃ k, w' = w.drewN k := by
  rcases h with rfl | ⟨g, rfl, hg, hb⟩
  · go_enter Try.func63, Try.ntmps63
    go_wp2
    go_ret
    exact ⟨rfl, 0, rfl⟩
  · have c0 := hb.cell 0
    simp at c0
    clear hb
    go_enter Try.func63, Try.ntmps63
    go_wp2
    go_ret
    exact ⟨rfl, 0, rfl⟩

set_option maxHeartbeats 400000 in
theorem isZ (w : World) (B : Nat) (v : Value) (h : NoneI w B v) (i : Int) :
    Calls Try.prog 65 #[v, .int .i64 i] w fun e w' => e = .returned (.bool false) ∧ ∃ k, w' = w.drewN k := by
  have H := Lib.hid h; clear h
  go_enter Try.func65, Try.ntmps65
  go_wp2_with (go_at_call 63; refine (noneZ _ B v H.out).mono ?_; rintro e w' ⟨rfl, k, rfl⟩)
  go_ret
  exact ⟨rfl, _, rfl⟩

set_option maxHeartbeats 400000 in
theorem atZ (w : World) (B : Nat) (v : Value) (h : NoneI w B v) (i : Int) :
    Calls Try.prog 39 #[v, .int .i64 i] w fun e w' => e = .returned (.tuple #[.int .i64 0, .bool false]) ∧ ∃ k, w' = w.drewN k := by
  have H := Lib.hid h; clear h
  go_enter Try.func39, Try.ntmps39
  go_wp2_with (go_at_call 65; refine (isZ _ B v H.out i).mono ?_; rintro e w' ⟨rfl, k, rfl⟩)
  go_ret2
  exact ⟨rfl, _, rfl⟩

set_option maxHeartbeats 400000 in
theorem popZ (w : World) (B : Nat) (v : Value) (h : NoneI w B v) :
    Calls Try.prog 34 #[v] w fun e w' => e = .returned (.tuple #[.int .i64 0, .bool false]) ∧ ∃ k, w' = w.drewN k := by
  have H := Lib.hid h; clear h
  go_enter Try.func34, Try.ntmps34
  go_wp2_with (go_at_call 39; refine (atZ _ B v H.out 0).mono ?_; rintro e w' ⟨rfl, k, rfl⟩)
  go_ret2
  exact ⟨rfl, _, rfl⟩

set_option maxHeartbeats 400000 in
theorem pushZ (w : World) (B : Nat) (v : Value) (h : NoneI w B v) (x : Int) :
    Calls Try.prog 32 #[v, .int .i64 x] w fun e w' => e = .returned (.bool false) ∧ ∃ k, w' = w.drewN k := by
  have H := Lib.hid h; clear h
  go_enter Try.func32, Try.ntmps32
  go_wp2
  go_quiet ((go_at_call 63; exact Calls.quiet_of (noneZ _ B v (H.out.drewN _))))
  go_wp2
  go_ret
  exact ⟨rfl, _, rfl⟩

set_option maxHeartbeats 400000 in
theorem setZ (w : World) (B : Nat) (v : Value) (h : NoneI w B v) (i x : Int) :
    Calls Try.prog 36 #[v, .int .i64 i, .int .i64 x] w fun e w' => e = .returned (.bool false) ∧ ∃ k, w' = w.drewN k := by
  have H := Lib.hid h; clear h
  go_enter Try.func36, Try.ntmps36
  go_wp2_with (go_at_call 65; refine (isZ _ B v H.out i).mono ?_; rintro e w' ⟨rfl, k, rfl⟩)
  go_ret
  exact ⟨rfl, _, rfl⟩

set_option maxHeartbeats 400000 in
theorem lenZ (w : World) (B : Nat) (v : Value) (h : NoneI w B v) :
    Calls Try.prog 41 #[v] w fun e w' => e = .returned (.int .i64 0) ∧ ∃ k, w' = w.drewN k := by
  rcases h with rfl | ⟨g, rfl, hg, hb⟩
  · go_enter Try.func41, Try.ntmps41
    go_wp2
    go_ret
    exact ⟨rfl, 0, rfl⟩
  · have c0 := hb.cell 2
    simp at c0
    clear hb
    go_enter Try.func41, Try.ntmps41
    go_wp2
    go_ret
    exact ⟨rfl, 0, rfl⟩

set_option maxHeartbeats 400000 in
theorem roomZ (w : World) (B : Nat) (v : Value) (h : NoneI w B v) :
    Calls Try.prog 42 #[v] w fun e w' => e = .returned (.int .i64 0) ∧ ∃ k, w' = w.drewN k := by
  rcases h with rfl | ⟨g, rfl, hg, hb⟩
  · go_enter Try.func42, Try.ntmps42
    go_wp2
    go_ret
    exact ⟨rfl, 0, rfl⟩
  · have c0 := hb.cell 0
    simp at c0
    clear hb
    go_enter Try.func42, Try.ntmps42
    go_wp2
    go_ret
    exact ⟨rfl, 0, rfl⟩

set_option maxHeartbeats 400000 in
theorem allZ (w : World) (B : Nat) (v : Value) (h : NoneI w B v) :
    Calls Try.prog 44 #[v] w fun e w' => e = .returned (.slice none 0 0) ∧ ∃ k, w' = w.drewN k := by
  have H := Lib.hid h; clear h
  go_enter Try.func44, Try.ntmps44
  go_wp2_with fail
  refine (lenZ _ B v H.out).mono ?_
  rintro e w' ⟨rfl, k, rfl⟩
  go_wp2
  refine wp_loop_rounds 1 ?_
  rw [rounds_succ]
  go_wp2
  go_ret
  exact ⟨rfl, _, rfl⟩

theorem run_clear_nil (w : World) (ty : TypeId) : (Builtin.clear_ #[33] ty #[.slice none 0 0]).run Try.prog w = .ok (.tuple #[]) w := by
  simp [Builtin.clear_, run_underlying Try.underlying33]

set_option maxRecDepth 100000 in
set_option maxHeartbeats 400000 in
theorem clearZ (w : World) (B : Nat) (v : Value) (h : NoneI w B v) :
    Calls Try.prog 38 #[v] w fun e w' => e = .returned (.tuple #[]) ∧ NoneI w' B v ∧ Upd (fun k => B ≤ k) w w' := by
  rcases h with rfl | ⟨g, rfl, hg, hb⟩
  · go_enter Try.func38, Try.ntmps38
    go_wp2
    go_returns
    exact ⟨rfl, .inl rfl, Upd.refl _ _⟩
  · have c0 := hb.cell 0
    have c1 := hb.cell 1
    have c2 := hb.cell 2
    have f1 := hb.frozen 1
    have f2 := hb.frozen 2
    simp at c0 c1 c2
    have HB := Lib.hid hb; clear hb
    have hcl := run_clear_nil w
    go_enter Try.func38, Try.ntmps38
    go_wp2
    go_returns
    refine ⟨rfl, .inr ⟨g, rfl, hg, ?_⟩, ((Upd.refl _ _).setCell (fun _ => hg) _).setCell (fun _ => hg) _⟩
    have := (HB.out.set_ 1 (.int .i64 0)).set_ 2 (.int .i64 0)
    simpa using this

/-- Two rounds: no row; one that nobody made. -/
def AtZ (w wr : World) (i : Nat) (v : Value) (b : Nat) (x0 x1 x2 : Int) : Prop :=
  NoneI wr (w.heap.size + 1) v ∧ Below w.heap.size w wr ∧ Blk wr b 59 #[.int .i64 x0, .int .i64 x1, .int .i64 x2] ∧ b = w.heap.size

set_option maxRecDepth 100000 in
set_option maxHeartbeats 1600000 in
theorem nil_core (w : World) (x0 x1 x2 : Int) :
    Calls Try.prog 7 #[.agg #[.int .i64 x0, .int .i64 x1, .int .i64 x2]] w fun e w' => e = .returned (.bool true) ∧ Below w.heap.size w w' := by
  go_enter Try.func7, Try.ntmps7
  go_wp2_with fail
  obtain ⟨b, hb⟩ : ∃ b, w.heap.size = b := ⟨_, rfl⟩
  have HBb := Lib.hid hb; clear hb
  go_loopw [3, 4] (fun vr vi wr => ∃ i : Nat, i ≤ 2 ∧ vi = .int .i64 i ∧ AtZ w wr i vr w.heap.size x0 x1 x2) (fun _ vi _ => 2 - (intOf vi).toNat)
  case atStart => exact ⟨0, by omega, rfl, .inl rfl, (Below.refl _ _).alloc (Nat.le_refl _) _, Blk.new _ _ _, rfl⟩
  case round =>
    obtain ⟨i, hi, rfl, hz, hB, hbk, _⟩ := hrel
    by_cases hlt : i < 2
    · have HZ := Lib.hid hz; clear hz
      have HB := Lib.hid hB; clear hB
      have HK := Lib.hid hbk; clear hbk
      go_wp2_with fail
      refine (clearZ _ _ _ HZ.out).mono ?_
      rintro e w1 ⟨rfl, hz1, hu1⟩
      have HZ1 := Lib.hid hz1; clear hz1
      have hbk := HK.out.upd hu1 (by omega)
      have c1 := hbk.cell 1
      have c2 := hbk.cell 2
      simp at c1 c2
      have HK1 := Lib.hid hbk; clear hbk
      have HU1 := Lib.hid hu1; clear hu1
      go_wp2_with (first
        | (go_at_call 34; refine (popZ _ _ _ (by first | exact HZ1.out | exact HZ1.out.drewN _)).mono ?_; rintro e w' ⟨rfl, k, rfl⟩)
        | (go_at_call 39; refine (atZ _ _ _ (by first | exact HZ1.out | exact HZ1.out.drewN _) _).mono ?_; rintro e w' ⟨rfl, k, rfl⟩)
        | (go_at_call 32; refine (pushZ _ _ _ (by first | exact HZ1.out | exact HZ1.out.drewN _) _).mono ?_; rintro e w' ⟨rfl, k, rfl⟩)
        | (go_at_call 36; refine (setZ _ _ _ (by first | exact HZ1.out | exact HZ1.out.drewN _) _ _).mono ?_; rintro e w' ⟨rfl, k, rfl⟩)
        | (go_at_call 41; refine (lenZ _ _ _ (by first | exact HZ1.out | exact HZ1.out.drewN _)).mono ?_; rintro e w' ⟨rfl, k, rfl⟩)
        | (go_at_call 42; refine (roomZ _ _ _ (by first | exact HZ1.out | exact HZ1.out.drewN _)).mono ?_; rintro e w' ⟨rfl, k, rfl⟩)
        | (go_at_call 44; refine (allZ _ _ _ (by first | exact HZ1.out | exact HZ1.out.drewN _)).mono ?_; rintro e w' ⟨rfl, k, rfl⟩))
      go_roundw
      case rel =>
        have b1 := Below.upd HB.out HU1.out HB.out.size (fun k hk => by omega)
        exact ⟨i + 1, by omega, by go_num, .inr ⟨_, rfl, by have := HB.out.size; have := HU1.out.size; have := HK.out.lt; simp; omega, Blk.new _ _ _⟩, (below_drewN b1 _).alloc b1.size _, (HK1.out.drewN _).alloc _, rfl⟩
      case measure => simp [intOf]; omega
    · have HB := Lib.hid hB; clear hB
      go_wp2_with fail
      refine (knows14 _).mono ?_
      rintro e w1 ⟨rfl, hB1⟩
      go_wp2_with fail
      go_ret
      exact ⟨rfl, HB.out.trans (hB1.mono HB.out.size)⟩

theorem nil_any (w : World) (x : Nat → Int) (_ : ∀ k, k < 3 → (Lit.int .i64 (x k)).wf = true) :
    Calls Try.prog 7 #[.agg #[.int .i64 (x 0), .int .i64 (x 1), .int .i64 (x 2)]] w fun e w' => e = .returned (.bool true) ∧ Below w.heap.size w w' := nil_core w _ _ _
end Go.Proofs.Ytfpigcjhonfcjaa
