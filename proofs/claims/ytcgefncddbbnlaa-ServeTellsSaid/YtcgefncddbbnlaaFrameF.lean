/-
  The walk of frame.Table: Owner.
-/
import Derived.Test.YtcgefncddbbnlaaFrameE
import Derived.Test.YtcgefncddbbnlaaSeqR
namespace Go.Proofs.Ytcgefncddbbnlaa.Fr
open Go.RowKit
attribute [local go_sem] max_ints min_ints

theorem ret2 {a b c d : Int} (h1 : a = c) (h2 : b = d) : Ending.returned (.tuple #[.int .i64 a, .int .i64 b]) = .returned (.tuple #[.int .i64 c, .int .i64 d]) := by rw [h1, h2]

end Go.Proofs.Ytcgefncddbbnlaa.Fr
