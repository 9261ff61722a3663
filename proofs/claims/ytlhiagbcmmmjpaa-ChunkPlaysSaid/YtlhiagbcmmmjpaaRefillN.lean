/-
  refill: no budget, and one that nobody made.
-/
import Derived.Test.YtlhiagbcmmmjpaaRefillE
namespace Go.Proofs.Ytlhiagbcmmmjpaa
open Go.RowKit

/-- No budget, or one that nobody made. -/
def Nought (w : World) (v : Value) : Prop := v = .pointer none ∨ ∃ g, v = .pointer (some ⟨g, 0, none⟩) ∧ Blk w g 43 #[.slice none 0 0, .bool false, .int .i64 0, .int .i64 0, .int .i64 0, .int .i64 0, .int .i64 0, .bool false]
theorem Nought.drewN {w : World} {v : Value} (h : Nought w v) (k : Nat) : Nought (w.drewN k) v := h

set_option maxHeartbeats 400000 in
theorem noneZ (w : World) (v : Value) (h : Nought w v) : Calls Try.prog 42 #[v] w fun e w' => e = .returned (.bool true) ∧ ∃ k, w' = w.drewN k := by
  rcases h with rfl | ⟨g, rfl, hb⟩
  · go_enter Try.func42, Try.ntmps42
    go_wp2
    go_ret
    exact ⟨rfl, 0, rfl⟩
  · have c2 : w.cell? ⟨g, 2, none⟩ = some (.int .i64 0) := hb.cell 2
    clear hb
    go_enter Try.func42, Try.ntmps42
    go_wp2
    go_ret
    exact ⟨rfl, 0, rfl⟩

set_option maxHeartbeats 400000 in
theorem goZ (w : World) (v : Value) (h : Nought w v) (now : Int) (busy : Bool) : Calls Try.prog 12 #[v, .int .i64 now, .bool busy] w fun e w' => e = .returned (.tuple #[]) ∧ ∃ k, w' = w.drewN k := by
  have H := Lib.hid h; clear h
  go_enter Try.func12, Try.ntmps12
  go_wp2_with fail
  refine (noneZ _ _ H.out).mono ?_
  rintro e w1 ⟨rfl, k, rfl⟩
  go_wp2_with fail
  go_returns
  exact ⟨rfl, k, rfl⟩

set_option maxHeartbeats 400000 in
theorem doneZ (w : World) (v : Value) (h : Nought w v) : Calls Try.prog 16 #[v] w fun e w' => e = .returned (.tuple #[]) ∧ ∃ k, w' = w.drewN k := by
  have H := Lib.hid h; clear h
  go_enter Try.func16, Try.ntmps16
  go_wp2_with fail
  refine (noneZ _ _ H.out).mono ?_
  rintro e w1 ⟨rfl, k, rfl⟩
  go_wp2_with fail
  go_returns
  exact ⟨rfl, k, rfl⟩

set_option maxHeartbeats 400000 in
theorem stopZ (w : World) (v : Value) (h : Nought w v) : Calls Try.prog 17 #[v] w fun e w' => e = .returned (.tuple #[]) ∧ ∃ k, w' = w.drewN k := by
  have H := Lib.hid h; clear h
  go_enter Try.func17, Try.ntmps17
  go_wp2_with fail
  refine (noneZ _ _ H.out).mono ?_
  rintro e w1 ⟨rfl, k, rfl⟩
  go_wp2_with fail
  go_returns
  exact ⟨rfl, k, rfl⟩

set_option maxHeartbeats 400000 in
theorem resumeZ (w : World) (v : Value) (h : Nought w v) : Calls Try.prog 18 #[v] w fun e w' => e = .returned (.tuple #[]) ∧ ∃ k, w' = w.drewN k := by
  have H := Lib.hid h; clear h
  go_enter Try.func18, Try.ntmps18
  go_wp2_with fail
  refine (noneZ _ _ H.out).mono ?_
  rintro e w1 ⟨rfl, k, rfl⟩
  go_wp2_with fail
  go_returns
  exact ⟨rfl, k, rfl⟩

set_option maxHeartbeats 400000 in
theorem resetZ (w : World) (v : Value) (h : Nought w v) : Calls Try.prog 19 #[v] w fun e w' => e = .returned (.tuple #[]) ∧ ∃ k, w' = w.drewN k := by
  have H := Lib.hid h; clear h
  go_enter Try.func19, Try.ntmps19
  go_wp2_with fail
  refine (noneZ _ _ H.out).mono ?_
  rintro e w1 ⟨rfl, k, rfl⟩
  go_wp2_with fail
  go_returns
  exact ⟨rfl, k, rfl⟩

set_option maxHeartbeats 400000 in
theorem dueZ (w : World) (v : Value) (h : Nought w v) : Calls Try.prog 20 #[v] w fun e w' => e = .returned (.tuple #[.int .i64 0, .bool false]) ∧ ∃ k, w' = w.drewN k := by
  have H := Lib.hid h; clear h
  go_enter Try.func20, Try.ntmps20
  go_wp2_with fail
  refine (noneZ _ _ H.out).mono ?_
  rintro e w1 ⟨rfl, k, rfl⟩
  go_wp2_with fail
  go_returns
  exact ⟨rfl, k, rfl⟩

set_option maxHeartbeats 400000 in
theorem useZ (w : World) (v : Value) (h : Nought w v) : Calls Try.prog 15 #[v] w fun e w' => e = .returned (.bool false) ∧ ∃ k, w' = w.drewN k := by
  have H := Lib.hid h; clear h
  go_enter Try.func15, Try.ntmps15
  go_wp2_with fail
  refine (noneZ _ _ H.out).mono ?_
  rintro e w1 ⟨rfl, k, rfl⟩
  go_wp2_with fail
  go_returns
  exact ⟨rfl, k, rfl⟩

set_option maxHeartbeats 400000 in
theorem freeZ (w : World) (v : Value) (h : Nought w v) : Calls Try.prog 13 #[v] w fun e w' => e = .returned (.int .i64 0) ∧ ∃ k, w' = w.drewN k := by
  have H := Lib.hid h; clear h
  go_enter Try.func13, Try.ntmps13
  go_wp2_with fail
  refine (noneZ _ _ H.out).mono ?_
  rintro e w1 ⟨rfl, k, rfl⟩
  go_wp2_with fail
  go_returns
  exact ⟨rfl, k, rfl⟩

set_option maxHeartbeats 400000 in
theorem liveZ (w : World) (v : Value) (h : Nought w v) : Calls Try.prog 14 #[v] w fun e w' => e = .returned (.slice none 0 0) ∧ ∃ k, w' = w.drewN k := by
  have H := Lib.hid h; clear h
  go_enter Try.func14, Try.ntmps14
  go_wp2_with fail
  refine (noneZ _ _ H.out).mono ?_
  rintro e w1 ⟨rfl, k, rfl⟩
  go_wp2_with fail
  go_returns
  exact ⟨rfl, k, rfl⟩
end Go.Proofs.Ytlhiagbcmmmjpaa
