/-
  No cell of these rows narrows 'for every input' (looked for: loops, veiled, ifaces, maps, wideKeys, modest, calm, conditions, laid).
  DERIVED. THE GIVEN ROWS OF THIS SEAT. 3 by the template 'for every input the law returns true; each argument reads behind the call as it read before'; 0 by the template 'total and deterministic' (their statements: YthjebjegedgoeaaTotals.lean).
  GIVEN WITH THE SEED: the statements are not yours to turn. If you find one false, say at which input.
  Laid BY PROGRAM, IN A SANDBOX (cutbox-rows.mjs): the forced cells as the released guide's own fill.sh prints them over the translation 1313d4941f5618b8… (all of the seat's roots in one cut). By AI agents, Wed Nov 11 2026. No macro, syntax, notation, axiom, sorry.
-/
import Derived.Test.YthjebjegedgoeaaChecked
import GoSem.Claim
import GoSem.ClaimJoined
import GoSem.ClaimMapViews
import Derived.JoinedTies
import Derived.KernelRfl
namespace Go.Proofs.Ythjebjegedgoeaa
/- THE CELL 'sum', in the pinned program and in every row, IS THE sha256 OF THE DUMP (.gsa) THAT YthjebjegedgoeaaProg.lean LOADS. Nothing in Lean hashes anything: it is a label: what it is worth is what the hold of that sum in a sandbox is worth. -/
noncomputable def Try.pinned : Pinned := { name := "ythjebjegedgoeaa", sum := "1313d4941f5618b8d437dbe20ac500d0be560b42984245a38515bc3fa5860e25", checked := Try.checked }
namespace Rows
def none {H : Type} : Left H := { results := [], args := [] }

/-- 'parcloselaw34.StatsTells': WHATEVER THE INPUT: true; the input reads as it did. -/
def statsTellsSpec : ChangeSpec := { name := "statsTells", fn := fun _ => fun
  | [d1, d2, d3, d4, d5] => { results := [.lit (.bool true)], args := [d1, d2, d3, d4, d5] }
  | _ => none }
def statsTellsRow : OpenClaim := { program := "ythjebjegedgoeaa", sum := "1313d4941f5618b8d437dbe20ac500d0be560b42984245a38515bc3fa5860e25", func := "parclose/parcloselaw34.StatsTells", spec := "statsTells", unfollowed := true, recurses := true, apart := false }
def StatsTellsSaid : Prop := statsTellsRow.holds Try.pinned (OpenSpec.ofChange statsTellsSpec)

/-- ITS FALSE NEIGHBOUR: 'it returns false'. Refute it at one input. -/
def statsTellsWrong : ChangeSpec := { name := "statsTells", fn := fun _ => fun
  | [d1, d2, d3, d4, d5] => { results := [.lit (.bool false)], args := [d1, d2, d3, d4, d5] }
  | _ => none }
def StatsTellsWrongFalsely : Prop := statsTellsRow.holds Try.pinned (OpenSpec.ofChange statsTellsWrong)

/-- 'parcloselaw34.StatsMerges': WHATEVER THE INPUT: true; the input reads as it did. -/
def statsMergesSpec : ChangeSpec := { name := "statsMerges", fn := fun _ => fun
  | [d1, d2, d3, d4] => { results := [.lit (.bool true)], args := [d1, d2, d3, d4] }
  | _ => none }
def statsMergesRow : OpenClaim := { program := "ythjebjegedgoeaa", sum := "1313d4941f5618b8d437dbe20ac500d0be560b42984245a38515bc3fa5860e25", func := "parclose/parcloselaw34.StatsMerges", spec := "statsMerges", unfollowed := true, recurses := true, apart := false }
def StatsMergesSaid : Prop := statsMergesRow.holds Try.pinned (OpenSpec.ofChange statsMergesSpec)

/-- ITS FALSE NEIGHBOUR: 'it returns false'. Refute it at one input. -/
def statsMergesWrong : ChangeSpec := { name := "statsMerges", fn := fun _ => fun
  | [d1, d2, d3, d4] => { results := [.lit (.bool false)], args := [d1, d2, d3, d4] }
  | _ => none }
def StatsMergesWrongFalsely : Prop := statsMergesRow.holds Try.pinned (OpenSpec.ofChange statsMergesWrong)

/-- 'parcloselaw34.StatsLogs': WHATEVER THE INPUT: true; the input reads as it did. -/
def statsLogsSpec : ChangeSpec := { name := "statsLogs", fn := fun _ => fun
  | [d1, d2, d3] => { results := [.lit (.bool true)], args := [d1, d2, d3] }
  | _ => none }
def statsLogsRow : OpenClaim := { program := "ythjebjegedgoeaa", sum := "1313d4941f5618b8d437dbe20ac500d0be560b42984245a38515bc3fa5860e25", func := "parclose/parcloselaw34.StatsLogs", spec := "statsLogs", unfollowed := true, recurses := true, apart := false }
def StatsLogsSaid : Prop := statsLogsRow.holds Try.pinned (OpenSpec.ofChange statsLogsSpec)

/-- ITS FALSE NEIGHBOUR: 'it returns false'. Refute it at one input. -/
def statsLogsWrong : ChangeSpec := { name := "statsLogs", fn := fun _ => fun
  | [d1, d2, d3] => { results := [.lit (.bool false)], args := [d1, d2, d3] }
  | _ => none }
def StatsLogsWrongFalsely : Prop := statsLogsRow.holds Try.pinned (OpenSpec.ofChange statsLogsWrong)

/- THE SECOND FORM. 'bulk': how many values and letters a reading holds, each counted each time it is reached (what is shared counts as often as it is met; a slice's spare places count too). A statement '..UptoSaid' is the law's where the arguments, and the package variables that the reading takes, are together of bulk at most 1048576: NARROWER than '..Said'. Prove '..Said' where nothing that the law and all that it calls make is longer than what came in: it says more and counts as full. Else prove '..UptoSaid'. A law counts once. -/
mutual
def uptoBulk {H : Type} : DataW H → Nat
  | .lit (.string bytes) => bytes.length + 1
  | .lit _ => 1
  | .nil => 1
  | .ptr d => uptoBulk d + 1
  | .slice elems spare => uptoBulkAll elems + uptoBulkAll spare + 1
  | .agg parts => uptoBulkAll parts + 1
  | .iface _ d => uptoBulk d + 1
  | .map entries => uptoBulkEntries entries + 1
  | .held _ => 1
def uptoBulkAll {H : Type} : List (DataW H) → Nat
  | [] => 0
  | d :: r => uptoBulk d + uptoBulkAll r
def uptoBulkEntries {H : Type} : List (Lit × DataW H) → Nat
  | [] => 0
  | x :: r => uptoBulkEntry x + uptoBulkEntries r
def uptoBulkEntry {H : Type} : Lit × DataW H → Nat
  | (.string bytes, d) => bytes.length + uptoBulk d + 1
  | (_, d) => uptoBulk d + 1
 end
def uptoSmall : (H : Type) → List (DataW H) → Bool := fun _ ds => decide (uptoBulkAll ds ≤ 1048576)
def OpenSpec.upto (s : _root_.Go.ChangeSpec) : _root_.Go.OpenSpec := { _root_.Go.OpenSpec.ofChange s with cond := some uptoSmall }

/-- 'parcloselaw34.StatsTells', WHERE WHAT IT READS IS OF BULK AT MOST 1048576: true; the input reads as it did. -/
def statsTellsUptoRow : OpenClaim := { program := "ythjebjegedgoeaa", sum := "1313d4941f5618b8d437dbe20ac500d0be560b42984245a38515bc3fa5860e25", func := "parclose/parcloselaw34.StatsTells", spec := "statsTells", unfollowed := true, recurses := true, apart := false, narrowed := true }
def StatsTellsUptoSaid : Prop := statsTellsUptoRow.holds Try.pinned (OpenSpec.upto statsTellsSpec)

/-- 'parcloselaw34.StatsMerges', WHERE WHAT IT READS IS OF BULK AT MOST 1048576: true; the input reads as it did. -/
def statsMergesUptoRow : OpenClaim := { program := "ythjebjegedgoeaa", sum := "1313d4941f5618b8d437dbe20ac500d0be560b42984245a38515bc3fa5860e25", func := "parclose/parcloselaw34.StatsMerges", spec := "statsMerges", unfollowed := true, recurses := true, apart := false, narrowed := true }
def StatsMergesUptoSaid : Prop := statsMergesUptoRow.holds Try.pinned (OpenSpec.upto statsMergesSpec)

/-- 'parcloselaw34.StatsLogs', WHERE WHAT IT READS IS OF BULK AT MOST 1048576: true; the input reads as it did. -/
def statsLogsUptoRow : OpenClaim := { program := "ythjebjegedgoeaa", sum := "1313d4941f5618b8d437dbe20ac500d0be560b42984245a38515bc3fa5860e25", func := "parclose/parcloselaw34.StatsLogs", spec := "statsLogs", unfollowed := true, recurses := true, apart := false, narrowed := true }
def StatsLogsUptoSaid : Prop := statsLogsUptoRow.holds Try.pinned (OpenSpec.upto statsLogsSpec)

end Rows
end Go.Proofs.Ythjebjegedgoeaa
