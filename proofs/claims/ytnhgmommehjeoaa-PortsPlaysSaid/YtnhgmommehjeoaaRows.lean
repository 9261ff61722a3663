/-
  No cell of these rows narrows 'for every input' (looked for: loops, veiled, ifaces, maps, wideKeys, modest, calm, conditions, laid).
  DERIVED. THE GIVEN ROWS OF THIS SEAT. 4 by the template 'for every input the law returns true; each argument reads behind the call as it read before'; 0 by the template 'total and deterministic' (their statements: YtnhgmommehjeoaaTotals.lean).
  GIVEN WITH THE SEED: the statements are not yours to turn. If you find one false, say at which input.
  Laid BY PROGRAM, IN A SANDBOX (cutbox-rows.mjs): the forced cells as the released guide's own fill.sh prints them over the translation afbb1bc1507f8cd6… (all of the seat's roots in one cut). By AI agents, Wed Nov 11 2026. No macro, syntax, notation, axiom, sorry.
-/
import Derived.Test.YtnhgmommehjeoaaChecked
import GoSem.Claim
import GoSem.ClaimJoined
import GoSem.ClaimMapViews
import Derived.JoinedTies
import Derived.KernelRfl
namespace Go.Proofs.Ytnhgmommehjeoaa
/- THE CELL 'sum', in the pinned program and in every row, IS THE sha256 OF THE DUMP (.gsa) THAT YtnhgmommehjeoaaProg.lean LOADS. Nothing in Lean hashes anything: it is a label: what it is worth is what the hold of that sum in a sandbox is worth. -/
noncomputable def Try.pinned : Pinned := { name := "ytnhgmommehjeoaa", sum := "afbb1bc1507f8cd6238aa244462d4b66eb0d0009cb5a653c954c4bc08b78b849", checked := Try.checked }
namespace Rows
def none {H : Type} : Left H := { results := [], args := [] }

/-- 'parcloselaw21.PortsOrder': WHATEVER THE INPUT: true; the input reads as it did. -/
def portsOrderSpec : ChangeSpec := { name := "portsOrder", fn := fun _ => fun
  | [d1, d2] => { results := [.lit (.bool true)], args := [d1, d2] }
  | _ => none }
def portsOrderRow : OpenClaim := { program := "ytnhgmommehjeoaa", sum := "afbb1bc1507f8cd6238aa244462d4b66eb0d0009cb5a653c954c4bc08b78b849", func := "parclose/parcloselaw21.PortsOrder", spec := "portsOrder", unfollowed := true, recurses := true, apart := false }
def PortsOrderSaid : Prop := portsOrderRow.holds Try.pinned (OpenSpec.ofChange portsOrderSpec)

/-- ITS FALSE NEIGHBOUR: 'it returns false'. Refute it at one input. -/
def portsOrderWrong : ChangeSpec := { name := "portsOrder", fn := fun _ => fun
  | [d1, d2] => { results := [.lit (.bool false)], args := [d1, d2] }
  | _ => none }
def PortsOrderWrongFalsely : Prop := portsOrderRow.holds Try.pinned (OpenSpec.ofChange portsOrderWrong)

/-- 'parcloselaw21.PortsOneWay': WHATEVER THE INPUT: true; the input reads as it did. -/
def portsOneWaySpec : ChangeSpec := { name := "portsOneWay", fn := fun _ => fun
  | [d1, d2] => { results := [.lit (.bool true)], args := [d1, d2] }
  | _ => none }
def portsOneWayRow : OpenClaim := { program := "ytnhgmommehjeoaa", sum := "afbb1bc1507f8cd6238aa244462d4b66eb0d0009cb5a653c954c4bc08b78b849", func := "parclose/parcloselaw21.PortsOneWay", spec := "portsOneWay", unfollowed := true, recurses := true, apart := false }
def PortsOneWaySaid : Prop := portsOneWayRow.holds Try.pinned (OpenSpec.ofChange portsOneWaySpec)

/-- ITS FALSE NEIGHBOUR: 'it returns false'. Refute it at one input. -/
def portsOneWayWrong : ChangeSpec := { name := "portsOneWay", fn := fun _ => fun
  | [d1, d2] => { results := [.lit (.bool false)], args := [d1, d2] }
  | _ => none }
def PortsOneWayWrongFalsely : Prop := portsOneWayRow.holds Try.pinned (OpenSpec.ofChange portsOneWayWrong)

/-- 'parcloselaw21.PortsPlays': WHATEVER THE INPUT: true; the input reads as it did. -/
def portsPlaysSpec : ChangeSpec := { name := "portsPlays", fn := fun _ => fun
  | [d1, d2] => { results := [.lit (.bool true)], args := [d1, d2] }
  | _ => none }
def portsPlaysRow : OpenClaim := { program := "ytnhgmommehjeoaa", sum := "afbb1bc1507f8cd6238aa244462d4b66eb0d0009cb5a653c954c4bc08b78b849", func := "parclose/parcloselaw21.PortsPlays", spec := "portsPlays", unfollowed := true, recurses := true, apart := false }
def PortsPlaysSaid : Prop := portsPlaysRow.holds Try.pinned (OpenSpec.ofChange portsPlaysSpec)

/-- ITS FALSE NEIGHBOUR: 'it returns false'. Refute it at one input. -/
def portsPlaysWrong : ChangeSpec := { name := "portsPlays", fn := fun _ => fun
  | [d1, d2] => { results := [.lit (.bool false)], args := [d1, d2] }
  | _ => none }
def PortsPlaysWrongFalsely : Prop := portsPlaysRow.holds Try.pinned (OpenSpec.ofChange portsPlaysWrong)

/-- 'parcloselaw21.PortsNil': WHATEVER THE INPUT: true; the input reads as it did. -/
def portsNilSpec : ChangeSpec := { name := "portsNil", fn := fun _ => fun
  | [d] => { results := [.lit (.bool true)], args := [d] }
  | _ => none }
def portsNilRow : OpenClaim := { program := "ytnhgmommehjeoaa", sum := "afbb1bc1507f8cd6238aa244462d4b66eb0d0009cb5a653c954c4bc08b78b849", func := "parclose/parcloselaw21.PortsNil", spec := "portsNil", unfollowed := true, recurses := true, apart := false }
def PortsNilSaid : Prop := portsNilRow.holds Try.pinned (OpenSpec.ofChange portsNilSpec)

/-- ITS FALSE NEIGHBOUR: 'it returns false'. Refute it at one input. -/
def portsNilWrong : ChangeSpec := { name := "portsNil", fn := fun _ => fun
  | [d] => { results := [.lit (.bool false)], args := [d] }
  | _ => none }
def PortsNilWrongFalsely : Prop := portsNilRow.holds Try.pinned (OpenSpec.ofChange portsNilWrong)

/- THE SECOND FORM. 'bulk': how many values and letters a reading holds, each counted each time it is reached (what is shared counts as often as it is met; a slice's spare places count too). A statement '..UptoSaid' is the law's where the arguments, and the package variables that the reading takes, are together of bulk at most 1048576: NARROWER than '..Said'. Prove '..Said' where nothing that the law and all that it calls make is longer than what came in: it says more and counts as full. Else prove '..UptoSaid'. A law counts once. -/
mutual
def uptoBulk {H : Type} : DataW H → Nat
  | .lit (.string bytes) => bytes.length + 1
  | .lit _ => 1
  | .nil => 1
  | .ptr d => uptoBulk d + 1
  | .slice elems spare => uptoBulkAll elems + uptoBulkAll spare + 1
  | .agg parts => uptoBulkAll parts + 1
  | .iface _ d => uptoBulk d + 1
  | .map entries => uptoBulkEntries entries + 1
  | .held _ => 1
def uptoBulkAll {H : Type} : List (DataW H) → Nat
  | [] => 0
  | d :: r => uptoBulk d + uptoBulkAll r
def uptoBulkEntries {H : Type} : List (Lit × DataW H) → Nat
  | [] => 0
  | x :: r => uptoBulkEntry x + uptoBulkEntries r
def uptoBulkEntry {H : Type} : Lit × DataW H → Nat
  | (.string bytes, d) => bytes.length + uptoBulk d + 1
  | (_, d) => uptoBulk d + 1
 end
def uptoSmall : (H : Type) → List (DataW H) → Bool := fun _ ds => decide (uptoBulkAll ds ≤ 1048576)
def OpenSpec.upto (s : _root_.Go.ChangeSpec) : _root_.Go.OpenSpec := { _root_.Go.OpenSpec.ofChange s with cond := some uptoSmall }

/-- 'parcloselaw21.PortsOrder', WHERE WHAT IT READS IS OF BULK AT MOST 1048576: true; the input reads as it did. -/
def portsOrderUptoRow : OpenClaim := { program := "ytnhgmommehjeoaa", sum := "afbb1bc1507f8cd6238aa244462d4b66eb0d0009cb5a653c954c4bc08b78b849", func := "parclose/parcloselaw21.PortsOrder", spec := "portsOrder", unfollowed := true, recurses := true, apart := false, narrowed := true }
def PortsOrderUptoSaid : Prop := portsOrderUptoRow.holds Try.pinned (OpenSpec.upto portsOrderSpec)

/-- 'parcloselaw21.PortsOneWay', WHERE WHAT IT READS IS OF BULK AT MOST 1048576: true; the input reads as it did. -/
def portsOneWayUptoRow : OpenClaim := { program := "ytnhgmommehjeoaa", sum := "afbb1bc1507f8cd6238aa244462d4b66eb0d0009cb5a653c954c4bc08b78b849", func := "parclose/parcloselaw21.PortsOneWay", spec := "portsOneWay", unfollowed := true, recurses := true, apart := false, narrowed := true }
def PortsOneWayUptoSaid : Prop := portsOneWayUptoRow.holds Try.pinned (OpenSpec.upto portsOneWaySpec)

/-- 'parcloselaw21.PortsPlays', WHERE WHAT IT READS IS OF BULK AT MOST 1048576: true; the input reads as it did. -/
def portsPlaysUptoRow : OpenClaim := { program := "ytnhgmommehjeoaa", sum := "afbb1bc1507f8cd6238aa244462d4b66eb0d0009cb5a653c954c4bc08b78b849", func := "parclose/parcloselaw21.PortsPlays", spec := "portsPlays", unfollowed := true, recurses := true, apart := false, narrowed := true }
def PortsPlaysUptoSaid : Prop := portsPlaysUptoRow.holds Try.pinned (OpenSpec.upto portsPlaysSpec)

/-- 'parcloselaw21.PortsNil', WHERE WHAT IT READS IS OF BULK AT MOST 1048576: true; the input reads as it did. -/
def portsNilUptoRow : OpenClaim := { program := "ytnhgmommehjeoaa", sum := "afbb1bc1507f8cd6238aa244462d4b66eb0d0009cb5a653c954c4bc08b78b849", func := "parclose/parcloselaw21.PortsNil", spec := "portsNil", unfollowed := true, recurses := true, apart := false, narrowed := true }
def PortsNilUptoSaid : Prop := portsNilUptoRow.holds Try.pinned (OpenSpec.upto portsNilSpec)

end Rows
end Go.Proofs.Ytnhgmommehjeoaa
