/-
  chunk: no budget, and one that nobody made.
-/
import Derived.Test.YtcgefncddbbnlaaChunkH
namespace Go.Proofs.Ytcgefncddbbnlaa.Ck
open Go.RowKit Go.Proofs.Ytcgefncddbbnlaa.Cf

/-- No budget, or one that nobody made. -/
def Nought17 (w : World) (v : Value) : Prop := v = .pointer none ∨ ∃ g, v = .pointer (some ⟨g, 0, none⟩) ∧ Blk w g 144 #[.slice none 0 0, .bool false, .int .i64 0, .int .i64 0, .int .i64 0, .slice none 0 0, .bool false]
theorem Nought17.drewN {w : World} {v : Value} (h : Nought17 w v) (k : Nat) : Nought17 (w.drewN k) v := h

set_option maxHeartbeats 400000 in
theorem none17 (w : World) (v : Value) (h : Nought17 w v) : Calls Try.prog 116 #[v] w fun e w' => e = .returned (.bool true) ∧ ∃ k, w' = w.drewN k := by
  rcases h with rfl | ⟨g, rfl, hb⟩
  · go_enter Try.func116, Try.ntmps116
    go_wp2
    go_ret
    exact ⟨rfl, 0, rfl⟩
  · have c2 : w.cell? ⟨g, 2, none⟩ = some (.int .i64 0) := hb.cell 2
    clear hb
    go_enter Try.func116, Try.ntmps116
    go_wp2
    go_ret
    exact ⟨rfl, 0, rfl⟩

set_option maxHeartbeats 400000 in
theorem go17 (w : World) (v : Value) (h : Nought17 w v) (now : Int) (busy : Bool) : Calls Try.prog 114 #[v, .int .i64 now, .bool busy] w fun e w' => e = .returned (.tuple #[]) ∧ ∃ k, w' = w.drewN k := by
  have H := Lib.hid h; clear h
  go_enter Try.func114, Try.ntmps114
  go_wp2_with fail
  refine (none17 _ _ H.out).mono ?_
  rintro e w1 ⟨rfl, k, rfl⟩
  go_wp2_with fail
  go_returns
  exact ⟨rfl, k, rfl⟩

set_option maxHeartbeats 400000 in
theorem done17 (w : World) (v : Value) (h : Nought17 w v) : Calls Try.prog 112 #[v] w fun e w' => e = .returned (.tuple #[]) ∧ ∃ k, w' = w.drewN k := by
  have H := Lib.hid h; clear h
  go_enter Try.func112, Try.ntmps112
  go_wp2_with fail
  refine (none17 _ _ H.out).mono ?_
  rintro e w1 ⟨rfl, k, rfl⟩
  go_wp2_with fail
  go_returns
  exact ⟨rfl, k, rfl⟩

set_option maxHeartbeats 400000 in
theorem use17 (w : World) (v : Value) (h : Nought17 w v) : Calls Try.prog 115 #[v] w fun e w' => e = .returned (.bool false) ∧ ∃ k, w' = w.drewN k := by
  have H := Lib.hid h; clear h
  go_enter Try.func115, Try.ntmps115
  go_wp2_with fail
  refine (none17 _ _ H.out).mono ?_
  rintro e w1 ⟨rfl, k, rfl⟩
  go_wp2_with fail
  go_returns
  exact ⟨rfl, k, rfl⟩

end Go.Proofs.Ytcgefncddbbnlaa.Ck
