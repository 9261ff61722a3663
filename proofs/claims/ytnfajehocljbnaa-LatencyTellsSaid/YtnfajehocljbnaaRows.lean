/-
  No cell of these rows narrows 'for every input' (looked for: loops, veiled, ifaces, maps, wideKeys, modest, calm, conditions, laid).
  DERIVED. THE GIVEN ROWS OF THIS SEAT. 6 by the template 'for every input the law returns true; each argument reads behind the call as it read before'; 0 by the template 'total and deterministic' (their statements: YtnfajehocljbnaaTotals.lean).
  GIVEN WITH THE SEED: the statements are not yours to turn. If you find one false, say at which input.
  Laid BY PROGRAM, IN A SANDBOX (cutbox-rows.mjs): the forced cells as the released guide's own fill.sh prints them over the translation 97114e11ca0367f7… (all of the seat's roots in one cut). By AI agents, Wed Nov 11 2026. No macro, syntax, notation, axiom, sorry.
-/
import Derived.Test.YtnfajehocljbnaaChecked
import GoSem.Claim
import GoSem.ClaimJoined
import GoSem.ClaimMapViews
import Derived.JoinedTies
import Derived.KernelRfl
namespace Go.Proofs.Ytnfajehocljbnaa
/- THE CELL 'sum', in the pinned program and in every row, IS THE sha256 OF THE DUMP (.gsa) THAT YtnfajehocljbnaaProg.lean LOADS. Nothing in Lean hashes anything: it is a label: what it is worth is what the hold of that sum in a sandbox is worth. -/
noncomputable def Try.pinned : Pinned := { name := "ytnfajehocljbnaa", sum := "97114e11ca0367f7409e220738066a49ed13a174467f3f2f98c0ae3ca2c62486", checked := Try.checked }
namespace Rows
def none {H : Type} : Left H := { results := [], args := [] }

/-- 'parcloselaw08.SupplyLeast': WHATEVER THE INPUT: true; the input reads as it did. -/
def supplyLeastSpec : ChangeSpec := { name := "supplyLeast", fn := fun _ => fun
  | [d1, d2, d3, d4, d5, d6] => { results := [.lit (.bool true)], args := [d1, d2, d3, d4, d5, d6] }
  | _ => none }
def supplyLeastRow : OpenClaim := { program := "ytnfajehocljbnaa", sum := "97114e11ca0367f7409e220738066a49ed13a174467f3f2f98c0ae3ca2c62486", func := "parclose/parcloselaw08.SupplyLeast", spec := "supplyLeast", unfollowed := true, recurses := true, apart := false }
def SupplyLeastSaid : Prop := supplyLeastRow.holds Try.pinned (OpenSpec.ofChange supplyLeastSpec)

/-- ITS FALSE NEIGHBOUR: 'it returns false'. Refute it at one input. -/
def supplyLeastWrong : ChangeSpec := { name := "supplyLeast", fn := fun _ => fun
  | [d1, d2, d3, d4, d5, d6] => { results := [.lit (.bool false)], args := [d1, d2, d3, d4, d5, d6] }
  | _ => none }
def SupplyLeastWrongFalsely : Prop := supplyLeastRow.holds Try.pinned (OpenSpec.ofChange supplyLeastWrong)

/-- 'parcloselaw08.SupplyGrows': WHATEVER THE INPUT: true; the input reads as it did. -/
def supplyGrowsSpec : ChangeSpec := { name := "supplyGrows", fn := fun _ => fun
  | [d1, d2, d3, d4, d5, d6] => { results := [.lit (.bool true)], args := [d1, d2, d3, d4, d5, d6] }
  | _ => none }
def supplyGrowsRow : OpenClaim := { program := "ytnfajehocljbnaa", sum := "97114e11ca0367f7409e220738066a49ed13a174467f3f2f98c0ae3ca2c62486", func := "parclose/parcloselaw08.SupplyGrows", spec := "supplyGrows", unfollowed := true, recurses := true, apart := false }
def SupplyGrowsSaid : Prop := supplyGrowsRow.holds Try.pinned (OpenSpec.ofChange supplyGrowsSpec)

/-- ITS FALSE NEIGHBOUR: 'it returns false'. Refute it at one input. -/
def supplyGrowsWrong : ChangeSpec := { name := "supplyGrows", fn := fun _ => fun
  | [d1, d2, d3, d4, d5, d6] => { results := [.lit (.bool false)], args := [d1, d2, d3, d4, d5, d6] }
  | _ => none }
def SupplyGrowsWrongFalsely : Prop := supplyGrowsRow.holds Try.pinned (OpenSpec.ofChange supplyGrowsWrong)

/-- 'parcloselaw08.SupplyWaits': WHATEVER THE INPUT: true; the input reads as it did. -/
def supplyWaitsSpec : ChangeSpec := { name := "supplyWaits", fn := fun _ => fun
  | [d1, d2, d3, d4, d5] => { results := [.lit (.bool true)], args := [d1, d2, d3, d4, d5] }
  | _ => none }
def supplyWaitsRow : OpenClaim := { program := "ytnfajehocljbnaa", sum := "97114e11ca0367f7409e220738066a49ed13a174467f3f2f98c0ae3ca2c62486", func := "parclose/parcloselaw08.SupplyWaits", spec := "supplyWaits", unfollowed := true, recurses := true, apart := false }
def SupplyWaitsSaid : Prop := supplyWaitsRow.holds Try.pinned (OpenSpec.ofChange supplyWaitsSpec)

/-- ITS FALSE NEIGHBOUR: 'it returns false'. Refute it at one input. -/
def supplyWaitsWrong : ChangeSpec := { name := "supplyWaits", fn := fun _ => fun
  | [d1, d2, d3, d4, d5] => { results := [.lit (.bool false)], args := [d1, d2, d3, d4, d5] }
  | _ => none }
def SupplyWaitsWrongFalsely : Prop := supplyWaitsRow.holds Try.pinned (OpenSpec.ofChange supplyWaitsWrong)

/-- 'parcloselaw08.SupplyNil': WHATEVER THE INPUT: true; the input reads as it did. -/
def supplyNilSpec : ChangeSpec := { name := "supplyNil", fn := fun _ => fun
  | [d1, d2] => { results := [.lit (.bool true)], args := [d1, d2] }
  | _ => none }
def supplyNilRow : OpenClaim := { program := "ytnfajehocljbnaa", sum := "97114e11ca0367f7409e220738066a49ed13a174467f3f2f98c0ae3ca2c62486", func := "parclose/parcloselaw08.SupplyNil", spec := "supplyNil", unfollowed := true, recurses := true, apart := false }
def SupplyNilSaid : Prop := supplyNilRow.holds Try.pinned (OpenSpec.ofChange supplyNilSpec)

/-- ITS FALSE NEIGHBOUR: 'it returns false'. Refute it at one input. -/
def supplyNilWrong : ChangeSpec := { name := "supplyNil", fn := fun _ => fun
  | [d1, d2] => { results := [.lit (.bool false)], args := [d1, d2] }
  | _ => none }
def SupplyNilWrongFalsely : Prop := supplyNilRow.holds Try.pinned (OpenSpec.ofChange supplyNilWrong)

/-- 'parcloselaw38.LatencyOne': WHATEVER THE INPUT: true; the input reads as it did. -/
def latencyOneSpec : ChangeSpec := { name := "latencyOne", fn := fun _ => fun
  | [d1, d2, d3, d4, d5, d6] => { results := [.lit (.bool true)], args := [d1, d2, d3, d4, d5, d6] }
  | _ => none }
def latencyOneRow : OpenClaim := { program := "ytnfajehocljbnaa", sum := "97114e11ca0367f7409e220738066a49ed13a174467f3f2f98c0ae3ca2c62486", func := "parclose/parcloselaw38.LatencyOne", spec := "latencyOne", unfollowed := true, recurses := true, apart := false }
def LatencyOneSaid : Prop := latencyOneRow.holds Try.pinned (OpenSpec.ofChange latencyOneSpec)

/-- ITS FALSE NEIGHBOUR: 'it returns false'. Refute it at one input. -/
def latencyOneWrong : ChangeSpec := { name := "latencyOne", fn := fun _ => fun
  | [d1, d2, d3, d4, d5, d6] => { results := [.lit (.bool false)], args := [d1, d2, d3, d4, d5, d6] }
  | _ => none }
def LatencyOneWrongFalsely : Prop := latencyOneRow.holds Try.pinned (OpenSpec.ofChange latencyOneWrong)

/-- 'parcloselaw38.LatencyTells': WHATEVER THE INPUT: true; the input reads as it did. -/
def latencyTellsSpec : ChangeSpec := { name := "latencyTells", fn := fun _ => fun
  | [d1, d2, d3, d4, d5, d6] => { results := [.lit (.bool true)], args := [d1, d2, d3, d4, d5, d6] }
  | _ => none }
def latencyTellsRow : OpenClaim := { program := "ytnfajehocljbnaa", sum := "97114e11ca0367f7409e220738066a49ed13a174467f3f2f98c0ae3ca2c62486", func := "parclose/parcloselaw38.LatencyTells", spec := "latencyTells", unfollowed := true, recurses := true, apart := false }
def LatencyTellsSaid : Prop := latencyTellsRow.holds Try.pinned (OpenSpec.ofChange latencyTellsSpec)

/-- ITS FALSE NEIGHBOUR: 'it returns false'. Refute it at one input. -/
def latencyTellsWrong : ChangeSpec := { name := "latencyTells", fn := fun _ => fun
  | [d1, d2, d3, d4, d5, d6] => { results := [.lit (.bool false)], args := [d1, d2, d3, d4, d5, d6] }
  | _ => none }
def LatencyTellsWrongFalsely : Prop := latencyTellsRow.holds Try.pinned (OpenSpec.ofChange latencyTellsWrong)

/- THE SECOND FORM. 'bulk': how many values and letters a reading holds, each counted each time it is reached (what is shared counts as often as it is met; a slice's spare places count too). A statement '..UptoSaid' is the law's where the arguments, and the package variables that the reading takes, are together of bulk at most 1048576: NARROWER than '..Said'. Prove '..Said' where nothing that the law and all that it calls make is longer than what came in: it says more and counts as full. Else prove '..UptoSaid'. A law counts once. -/
mutual
def uptoBulk {H : Type} : DataW H → Nat
  | .lit (.string bytes) => bytes.length + 1
  | .lit _ => 1
  | .nil => 1
  | .ptr d => uptoBulk d + 1
  | .slice elems spare => uptoBulkAll elems + uptoBulkAll spare + 1
  | .agg parts => uptoBulkAll parts + 1
  | .iface _ d => uptoBulk d + 1
  | .map entries => uptoBulkEntries entries + 1
  | .held _ => 1
def uptoBulkAll {H : Type} : List (DataW H) → Nat
  | [] => 0
  | d :: r => uptoBulk d + uptoBulkAll r
def uptoBulkEntries {H : Type} : List (Lit × DataW H) → Nat
  | [] => 0
  | x :: r => uptoBulkEntry x + uptoBulkEntries r
def uptoBulkEntry {H : Type} : Lit × DataW H → Nat
  | (.string bytes, d) => bytes.length + uptoBulk d + 1
  | (_, d) => uptoBulk d + 1
 end
def uptoSmall : (H : Type) → List (DataW H) → Bool := fun _ ds => decide (uptoBulkAll ds ≤ 1048576)
def OpenSpec.upto (s : _root_.Go.ChangeSpec) : _root_.Go.OpenSpec := { _root_.Go.OpenSpec.ofChange s with cond := some uptoSmall }

/-- 'parcloselaw08.SupplyLeast', WHERE WHAT IT READS IS OF BULK AT MOST 1048576: true; the input reads as it did. -/
def supplyLeastUptoRow : OpenClaim := { program := "ytnfajehocljbnaa", sum := "97114e11ca0367f7409e220738066a49ed13a174467f3f2f98c0ae3ca2c62486", func := "parclose/parcloselaw08.SupplyLeast", spec := "supplyLeast", unfollowed := true, recurses := true, apart := false, narrowed := true }
def SupplyLeastUptoSaid : Prop := supplyLeastUptoRow.holds Try.pinned (OpenSpec.upto supplyLeastSpec)

/-- 'parcloselaw08.SupplyGrows', WHERE WHAT IT READS IS OF BULK AT MOST 1048576: true; the input reads as it did. -/
def supplyGrowsUptoRow : OpenClaim := { program := "ytnfajehocljbnaa", sum := "97114e11ca0367f7409e220738066a49ed13a174467f3f2f98c0ae3ca2c62486", func := "parclose/parcloselaw08.SupplyGrows", spec := "supplyGrows", unfollowed := true, recurses := true, apart := false, narrowed := true }
def SupplyGrowsUptoSaid : Prop := supplyGrowsUptoRow.holds Try.pinned (OpenSpec.upto supplyGrowsSpec)

/-- 'parcloselaw08.SupplyWaits', WHERE WHAT IT READS IS OF BULK AT MOST 1048576: true; the input reads as it did. -/
def supplyWaitsUptoRow : OpenClaim := { program := "ytnfajehocljbnaa", sum := "97114e11ca0367f7409e220738066a49ed13a174467f3f2f98c0ae3ca2c62486", func := "parclose/parcloselaw08.SupplyWaits", spec := "supplyWaits", unfollowed := true, recurses := true, apart := false, narrowed := true }
def SupplyWaitsUptoSaid : Prop := supplyWaitsUptoRow.holds Try.pinned (OpenSpec.upto supplyWaitsSpec)

/-- 'parcloselaw08.SupplyNil', WHERE WHAT IT READS IS OF BULK AT MOST 1048576: true; the input reads as it did. -/
def supplyNilUptoRow : OpenClaim := { program := "ytnfajehocljbnaa", sum := "97114e11ca0367f7409e220738066a49ed13a174467f3f2f98c0ae3ca2c62486", func := "parclose/parcloselaw08.SupplyNil", spec := "supplyNil", unfollowed := true, recurses := true, apart := false, narrowed := true }
def SupplyNilUptoSaid : Prop := supplyNilUptoRow.holds Try.pinned (OpenSpec.upto supplyNilSpec)

/-- 'parcloselaw38.LatencyOne', WHERE WHAT IT READS IS OF BULK AT MOST 1048576: true; the input reads as it did. -/
def latencyOneUptoRow : OpenClaim := { program := "ytnfajehocljbnaa", sum := "97114e11ca0367f7409e220738066a49ed13a174467f3f2f98c0ae3ca2c62486", func := "parclose/parcloselaw38.LatencyOne", spec := "latencyOne", unfollowed := true, recurses := true, apart := false, narrowed := true }
def LatencyOneUptoSaid : Prop := latencyOneUptoRow.holds Try.pinned (OpenSpec.upto latencyOneSpec)

/-- 'parcloselaw38.LatencyTells', WHERE WHAT IT READS IS OF BULK AT MOST 1048576: true; the input reads as it did. -/
def latencyTellsUptoRow : OpenClaim := { program := "ytnfajehocljbnaa", sum := "97114e11ca0367f7409e220738066a49ed13a174467f3f2f98c0ae3ca2c62486", func := "parclose/parcloselaw38.LatencyTells", spec := "latencyTells", unfollowed := true, recurses := true, apart := false, narrowed := true }
def LatencyTellsUptoSaid : Prop := latencyTellsUptoRow.holds Try.pinned (OpenSpec.upto latencyTellsSpec)

end Rows
end Go.Proofs.Ytnfajehocljbnaa
