/-
  chunk: no budget, and one that nobody made.
-/
import Derived.Test.YtlhiagbcmmmjpaaChunkH
namespace Go.Proofs.Ytlhiagbcmmmjpaa
open Go.RowKit

/-- No budget, or one that nobody made. -/
def Nought17 (w : World) (v : Value) : Prop := v = .pointer none ∨ ∃ g, v = .pointer (some ⟨g, 0, none⟩) ∧ Blk w g 69 #[.slice none 0 0, .bool false, .int .i64 0, .int .i64 0, .int .i64 0, .slice none 0 0, .bool false]
theorem Nought17.drewN {w : World} {v : Value} (h : Nought17 w v) (k : Nat) : Nought17 (w.drewN k) v := h

set_option maxHeartbeats 400000 in
theorem none17 (w : World) (v : Value) (h : Nought17 w v) : Calls Try.prog 50 #[v] w fun e w' => e = .returned (.bool true) ∧ ∃ k, w' = w.drewN k := by
  rcases h with rfl | ⟨g, rfl, hb⟩
  · go_enter Try.func50, Try.ntmps50
    go_wp2
    go_ret
    exact ⟨rfl, 0, rfl⟩
  · have c2 : w.cell? ⟨g, 2, none⟩ = some (.int .i64 0) := hb.cell 2
    clear hb
    go_enter Try.func50, Try.ntmps50
    go_wp2
    go_ret
    exact ⟨rfl, 0, rfl⟩

set_option maxHeartbeats 400000 in
theorem go17 (w : World) (v : Value) (h : Nought17 w v) (now : Int) (busy : Bool) : Calls Try.prog 25 #[v, .int .i64 now, .bool busy] w fun e w' => e = .returned (.tuple #[]) ∧ ∃ k, w' = w.drewN k := by
  have H := Lib.hid h; clear h
  go_enter Try.func25, Try.ntmps25
  go_wp2_with fail
  refine (none17 _ _ H.out).mono ?_
  rintro e w1 ⟨rfl, k, rfl⟩
  go_wp2_with fail
  go_returns
  exact ⟨rfl, k, rfl⟩

set_option maxHeartbeats 400000 in
theorem done17 (w : World) (v : Value) (h : Nought17 w v) : Calls Try.prog 29 #[v] w fun e w' => e = .returned (.tuple #[]) ∧ ∃ k, w' = w.drewN k := by
  have H := Lib.hid h; clear h
  go_enter Try.func29, Try.ntmps29
  go_wp2_with fail
  refine (none17 _ _ H.out).mono ?_
  rintro e w1 ⟨rfl, k, rfl⟩
  go_wp2_with fail
  go_returns
  exact ⟨rfl, k, rfl⟩

set_option maxHeartbeats 400000 in
theorem stop17 (w : World) (v : Value) (h : Nought17 w v) : Calls Try.prog 31 #[v] w fun e w' => e = .returned (.tuple #[]) ∧ ∃ k, w' = w.drewN k := by
  have H := Lib.hid h; clear h
  go_enter Try.func31, Try.ntmps31
  go_wp2_with fail
  refine (none17 _ _ H.out).mono ?_
  rintro e w1 ⟨rfl, k, rfl⟩
  go_wp2_with fail
  go_returns
  exact ⟨rfl, k, rfl⟩

set_option maxHeartbeats 400000 in
theorem resume17 (w : World) (v : Value) (h : Nought17 w v) : Calls Try.prog 32 #[v] w fun e w' => e = .returned (.tuple #[]) ∧ ∃ k, w' = w.drewN k := by
  have H := Lib.hid h; clear h
  go_enter Try.func32, Try.ntmps32
  go_wp2_with fail
  refine (none17 _ _ H.out).mono ?_
  rintro e w1 ⟨rfl, k, rfl⟩
  go_wp2_with fail
  go_returns
  exact ⟨rfl, k, rfl⟩

set_option maxHeartbeats 400000 in
theorem reset17 (w : World) (v : Value) (h : Nought17 w v) : Calls Try.prog 33 #[v] w fun e w' => e = .returned (.tuple #[]) ∧ ∃ k, w' = w.drewN k := by
  have H := Lib.hid h; clear h
  go_enter Try.func33, Try.ntmps33
  go_wp2_with fail
  refine (none17 _ _ H.out).mono ?_
  rintro e w1 ⟨rfl, k, rfl⟩
  go_wp2_with fail
  go_returns
  exact ⟨rfl, k, rfl⟩

set_option maxHeartbeats 400000 in
theorem due17 (w : World) (v : Value) (h : Nought17 w v) : Calls Try.prog 40 #[v] w fun e w' => e = .returned (.tuple #[.int .i64 0, .bool false]) ∧ ∃ k, w' = w.drewN k := by
  have H := Lib.hid h; clear h
  go_enter Try.func40, Try.ntmps40
  go_wp2_with fail
  refine (none17 _ _ H.out).mono ?_
  rintro e w1 ⟨rfl, k, rfl⟩
  go_wp2_with fail
  go_returns
  exact ⟨rfl, k, rfl⟩

set_option maxHeartbeats 400000 in
theorem use17 (w : World) (v : Value) (h : Nought17 w v) : Calls Try.prog 27 #[v] w fun e w' => e = .returned (.bool false) ∧ ∃ k, w' = w.drewN k := by
  have H := Lib.hid h; clear h
  go_enter Try.func27, Try.ntmps27
  go_wp2_with fail
  refine (none17 _ _ H.out).mono ?_
  rintro e w1 ⟨rfl, k, rfl⟩
  go_wp2_with fail
  go_returns
  exact ⟨rfl, k, rfl⟩

set_option maxHeartbeats 400000 in
theorem free17 (w : World) (v : Value) (h : Nought17 w v) : Calls Try.prog 37 #[v] w fun e w' => e = .returned (.int .i64 0) ∧ ∃ k, w' = w.drewN k := by
  have H := Lib.hid h; clear h
  go_enter Try.func37, Try.ntmps37
  go_wp2_with fail
  refine (none17 _ _ H.out).mono ?_
  rintro e w1 ⟨rfl, k, rfl⟩
  go_wp2_with fail
  go_returns
  exact ⟨rfl, k, rfl⟩

set_option maxHeartbeats 400000 in
theorem live17 (w : World) (v : Value) (h : Nought17 w v) : Calls Try.prog 38 #[v] w fun e w' => e = .returned (.slice none 0 0) ∧ ∃ k, w' = w.drewN k := by
  have H := Lib.hid h; clear h
  go_enter Try.func38, Try.ntmps38
  go_wp2_with fail
  refine (none17 _ _ H.out).mono ?_
  rintro e w1 ⟨rfl, k, rfl⟩
  go_wp2_with fail
  go_returns
  exact ⟨rfl, k, rfl⟩

set_option maxHeartbeats 400000 in
theorem backs17 (w : World) (v : Value) (h : Nought17 w v) : Calls Try.prog 39 #[v] w fun e w' => e = .returned (.slice none 0 0) ∧ ∃ k, w' = w.drewN k := by
  have H := Lib.hid h; clear h
  go_enter Try.func39, Try.ntmps39
  go_wp2_with fail
  refine (none17 _ _ H.out).mono ?_
  rintro e w1 ⟨rfl, k, rfl⟩
  go_wp2_with fail
  go_returns
  exact ⟨rfl, k, rfl⟩
end Go.Proofs.Ytlhiagbcmmmjpaa
