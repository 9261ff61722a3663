/-
  No cell of these rows narrows 'for every input' (looked for: loops, veiled, ifaces, maps, wideKeys, modest, calm, conditions, laid).
  DERIVED. THE GIVEN ROWS OF THIS SEAT. 3 by the template 'for every input the law returns true; each argument reads behind the call as it read before'; 0 by the template 'total and deterministic' (their statements: YtcgefncddbbnlaaTotals.lean).
  GIVEN WITH THE SEED: the statements are not yours to turn. If you find one false, say at which input.
  Laid BY PROGRAM, IN A SANDBOX (cutbox-rows.mjs): the forced cells as the released guide's own fill.sh prints them over the translation ab12a0cf086921b4… (all of the seat's roots in one cut). By AI agents, Wed Nov 11 2026. No macro, syntax, notation, axiom, sorry.
-/
import Derived.Test.YtcgefncddbbnlaaChecked
import GoSem.Claim
import GoSem.ClaimJoined
import GoSem.ClaimMapViews
import Derived.JoinedTies
import Derived.KernelRfl
namespace Go.Proofs.Ytcgefncddbbnlaa
/- THE CELL 'sum', in the pinned program and in every row, IS THE sha256 OF THE DUMP (.gsa) THAT YtcgefncddbbnlaaProg.lean LOADS. Nothing in Lean hashes anything: it is a label: what it is worth is what the hold of that sum in a sandbox is worth. -/
noncomputable def Try.pinned : Pinned := { name := "ytcgefncddbbnlaa", sum := "ab12a0cf086921b4ffc7f813218a0e86358bdd31d5becb6eb3cfceabf9e536bb", checked := Try.checked }
namespace Rows
def none {H : Type} : Left H := { results := [], args := [] }

/-- 'parcloselaw42.ServeInTime': WHATEVER THE INPUT: true; the input reads as it did. -/
def serveInTimeSpec : ChangeSpec := { name := "serveInTime", fn := fun _ => fun
  | [d1, d2] => { results := [.lit (.bool true)], args := [d1, d2] }
  | _ => none }
def serveInTimeRow : OpenClaim := { program := "ytcgefncddbbnlaa", sum := "ab12a0cf086921b4ffc7f813218a0e86358bdd31d5becb6eb3cfceabf9e536bb", func := "parclose/parcloselaw42.ServeInTime", spec := "serveInTime", unfollowed := true, recurses := true, apart := false }
def ServeInTimeSaid : Prop := serveInTimeRow.holds Try.pinned (OpenSpec.ofChange serveInTimeSpec)

/-- ITS FALSE NEIGHBOUR: 'it returns false'. Refute it at one input. -/
def serveInTimeWrong : ChangeSpec := { name := "serveInTime", fn := fun _ => fun
  | [d1, d2] => { results := [.lit (.bool false)], args := [d1, d2] }
  | _ => none }
def ServeInTimeWrongFalsely : Prop := serveInTimeRow.holds Try.pinned (OpenSpec.ofChange serveInTimeWrong)

/-- 'parcloselaw42.ServeTells': WHATEVER THE INPUT: true; the input reads as it did. -/
def serveTellsSpec : ChangeSpec := { name := "serveTells", fn := fun _ => fun
  | [d1, d2, d3, d4, d5, d6, d7] => { results := [.lit (.bool true)], args := [d1, d2, d3, d4, d5, d6, d7] }
  | _ => none }
def serveTellsRow : OpenClaim := { program := "ytcgefncddbbnlaa", sum := "ab12a0cf086921b4ffc7f813218a0e86358bdd31d5becb6eb3cfceabf9e536bb", func := "parclose/parcloselaw42.ServeTells", spec := "serveTells", unfollowed := true, recurses := true, apart := false }
def ServeTellsSaid : Prop := serveTellsRow.holds Try.pinned (OpenSpec.ofChange serveTellsSpec)

/-- ITS FALSE NEIGHBOUR: 'it returns false'. Refute it at one input. -/
def serveTellsWrong : ChangeSpec := { name := "serveTells", fn := fun _ => fun
  | [d1, d2, d3, d4, d5, d6, d7] => { results := [.lit (.bool false)], args := [d1, d2, d3, d4, d5, d6, d7] }
  | _ => none }
def ServeTellsWrongFalsely : Prop := serveTellsRow.holds Try.pinned (OpenSpec.ofChange serveTellsWrong)

/-- 'parcloselaw42.ServeOrder': WHATEVER THE INPUT: true; the input reads as it did. -/
def serveOrderSpec : ChangeSpec := { name := "serveOrder", fn := fun _ => fun
  | [d1, d2, d3, d4, d5, d6] => { results := [.lit (.bool true)], args := [d1, d2, d3, d4, d5, d6] }
  | _ => none }
def serveOrderRow : OpenClaim := { program := "ytcgefncddbbnlaa", sum := "ab12a0cf086921b4ffc7f813218a0e86358bdd31d5becb6eb3cfceabf9e536bb", func := "parclose/parcloselaw42.ServeOrder", spec := "serveOrder", unfollowed := true, recurses := true, apart := false }
def ServeOrderSaid : Prop := serveOrderRow.holds Try.pinned (OpenSpec.ofChange serveOrderSpec)

/-- ITS FALSE NEIGHBOUR: 'it returns false'. Refute it at one input. -/
def serveOrderWrong : ChangeSpec := { name := "serveOrder", fn := fun _ => fun
  | [d1, d2, d3, d4, d5, d6] => { results := [.lit (.bool false)], args := [d1, d2, d3, d4, d5, d6] }
  | _ => none }
def ServeOrderWrongFalsely : Prop := serveOrderRow.holds Try.pinned (OpenSpec.ofChange serveOrderWrong)

/- THE SECOND FORM. 'bulk': how many values and letters a reading holds, each counted each time it is reached (what is shared counts as often as it is met; a slice's spare places count too). A statement '..UptoSaid' is the law's where the arguments, and the package variables that the reading takes, are together of bulk at most 1048576: NARROWER than '..Said'. Prove '..Said' where nothing that the law and all that it calls make is longer than what came in: it says more and counts as full. Else prove '..UptoSaid'. A law counts once. -/
mutual
def uptoBulk {H : Type} : DataW H → Nat
  | .lit (.string bytes) => bytes.length + 1
  | .lit _ => 1
  | .nil => 1
  | .ptr d => uptoBulk d + 1
  | .slice elems spare => uptoBulkAll elems + uptoBulkAll spare + 1
  | .agg parts => uptoBulkAll parts + 1
  | .iface _ d => uptoBulk d + 1
  | .map entries => uptoBulkEntries entries + 1
  | .held _ => 1
def uptoBulkAll {H : Type} : List (DataW H) → Nat
  | [] => 0
  | d :: r => uptoBulk d + uptoBulkAll r
def uptoBulkEntries {H : Type} : List (Lit × DataW H) → Nat
  | [] => 0
  | x :: r => uptoBulkEntry x + uptoBulkEntries r
def uptoBulkEntry {H : Type} : Lit × DataW H → Nat
  | (.string bytes, d) => bytes.length + uptoBulk d + 1
  | (_, d) => uptoBulk d + 1
 end
def uptoSmall : (H : Type) → List (DataW H) → Bool := fun _ ds => decide (uptoBulkAll ds ≤ 1048576)
def OpenSpec.upto (s : _root_.Go.ChangeSpec) : _root_.Go.OpenSpec := { _root_.Go.OpenSpec.ofChange s with cond := some uptoSmall }

/-- 'parcloselaw42.ServeInTime', WHERE WHAT IT READS IS OF BULK AT MOST 1048576: true; the input reads as it did. -/
def serveInTimeUptoRow : OpenClaim := { program := "ytcgefncddbbnlaa", sum := "ab12a0cf086921b4ffc7f813218a0e86358bdd31d5becb6eb3cfceabf9e536bb", func := "parclose/parcloselaw42.ServeInTime", spec := "serveInTime", unfollowed := true, recurses := true, apart := false, narrowed := true }
def ServeInTimeUptoSaid : Prop := serveInTimeUptoRow.holds Try.pinned (OpenSpec.upto serveInTimeSpec)

/-- 'parcloselaw42.ServeTells', WHERE WHAT IT READS IS OF BULK AT MOST 1048576: true; the input reads as it did. -/
def serveTellsUptoRow : OpenClaim := { program := "ytcgefncddbbnlaa", sum := "ab12a0cf086921b4ffc7f813218a0e86358bdd31d5becb6eb3cfceabf9e536bb", func := "parclose/parcloselaw42.ServeTells", spec := "serveTells", unfollowed := true, recurses := true, apart := false, narrowed := true }
def ServeTellsUptoSaid : Prop := serveTellsUptoRow.holds Try.pinned (OpenSpec.upto serveTellsSpec)

/-- 'parcloselaw42.ServeOrder', WHERE WHAT IT READS IS OF BULK AT MOST 1048576: true; the input reads as it did. -/
def serveOrderUptoRow : OpenClaim := { program := "ytcgefncddbbnlaa", sum := "ab12a0cf086921b4ffc7f813218a0e86358bdd31d5becb6eb3cfceabf9e536bb", func := "parclose/parcloselaw42.ServeOrder", spec := "serveOrder", unfollowed := true, recurses := true, apart := false, narrowed := true }
def ServeOrderUptoSaid : Prop := serveOrderUptoRow.holds Try.pinned (OpenSpec.upto serveOrderSpec)

end Rows
end Go.Proofs.Ytcgefncddbbnlaa
