/-
  No cell of these rows narrows 'for every input' (looked for: loops, veiled, ifaces, maps, wideKeys, modest, calm, conditions, laid).
  DERIVED. THE GIVEN ROWS OF THIS SEAT. 7 by the template 'for every input the law returns true; each argument reads behind the call as it read before'; 0 by the template 'total and deterministic' (their statements: YtlhiagbcmmmjpaaTotals.lean).
  GIVEN WITH THE SEED: the statements are not yours to turn. If you find one false, say at which input.
  Laid BY PROGRAM, IN A SANDBOX (cutbox-rows.mjs): the forced cells as the released guide's own fill.sh prints them over the translation 4c4da0b8fde8d0d6… (all of the seat's roots in one cut). By AI agents, Wed Nov 11 2026. No macro, syntax, notation, axiom, sorry.
-/
import Derived.Test.YtlhiagbcmmmjpaaChecked
import GoSem.Claim
import GoSem.ClaimJoined
import GoSem.ClaimMapViews
import Derived.JoinedTies
import Derived.KernelRfl
namespace Go.Proofs.Ytlhiagbcmmmjpaa
/- THE CELL 'sum', in the pinned program and in every row, IS THE sha256 OF THE DUMP (.gsa) THAT YtlhiagbcmmmjpaaProg.lean LOADS. Nothing in Lean hashes anything: it is a label: what it is worth is what the hold of that sum in a sandbox is worth. -/
noncomputable def Try.pinned : Pinned := { name := "ytlhiagbcmmmjpaa", sum := "4c4da0b8fde8d0d6ce4d0859878b3555c1458d20c96613af7acd81351c670921", checked := Try.checked }
namespace Rows
def none {H : Type} : Left H := { results := [], args := [] }

/-- 'parcloselaw18.RefillFull': WHATEVER THE INPUT: true; the input reads as it did. -/
def refillFullSpec : ChangeSpec := { name := "refillFull", fn := fun _ => fun
  | [d1, d2] => { results := [.lit (.bool true)], args := [d1, d2] }
  | _ => none }
def refillFullRow : OpenClaim := { program := "ytlhiagbcmmmjpaa", sum := "4c4da0b8fde8d0d6ce4d0859878b3555c1458d20c96613af7acd81351c670921", func := "parclose/parcloselaw18.RefillFull", spec := "refillFull", apart := false }
def RefillFullSaid : Prop := refillFullRow.holds Try.pinned (OpenSpec.ofChange refillFullSpec)

/-- ITS FALSE NEIGHBOUR: 'it returns false'. Refute it at one input. -/
def refillFullWrong : ChangeSpec := { name := "refillFull", fn := fun _ => fun
  | [d1, d2] => { results := [.lit (.bool false)], args := [d1, d2] }
  | _ => none }
def RefillFullWrongFalsely : Prop := refillFullRow.holds Try.pinned (OpenSpec.ofChange refillFullWrong)

/-- 'parcloselaw18.RefillNil': WHATEVER THE INPUT: true; the input reads as it did. -/
def refillNilSpec : ChangeSpec := { name := "refillNil", fn := fun _ => fun
  | [d] => { results := [.lit (.bool true)], args := [d] }
  | _ => none }
def refillNilRow : OpenClaim := { program := "ytlhiagbcmmmjpaa", sum := "4c4da0b8fde8d0d6ce4d0859878b3555c1458d20c96613af7acd81351c670921", func := "parclose/parcloselaw18.RefillNil", spec := "refillNil", apart := false }
def RefillNilSaid : Prop := refillNilRow.holds Try.pinned (OpenSpec.ofChange refillNilSpec)

/-- ITS FALSE NEIGHBOUR: 'it returns false'. Refute it at one input. -/
def refillNilWrong : ChangeSpec := { name := "refillNil", fn := fun _ => fun
  | [d] => { results := [.lit (.bool false)], args := [d] }
  | _ => none }
def RefillNilWrongFalsely : Prop := refillNilRow.holds Try.pinned (OpenSpec.ofChange refillNilWrong)

/-- 'parcloselaw18.RefillBound': WHATEVER THE INPUT: true; the input reads as it did. -/
def refillBoundSpec : ChangeSpec := { name := "refillBound", fn := fun _ => fun
  | [d1, d2, d3] => { results := [.lit (.bool true)], args := [d1, d2, d3] }
  | _ => none }
def refillBoundRow : OpenClaim := { program := "ytlhiagbcmmmjpaa", sum := "4c4da0b8fde8d0d6ce4d0859878b3555c1458d20c96613af7acd81351c670921", func := "parclose/parcloselaw18.RefillBound", spec := "refillBound", apart := false }
def RefillBoundSaid : Prop := refillBoundRow.holds Try.pinned (OpenSpec.ofChange refillBoundSpec)

/-- ITS FALSE NEIGHBOUR: 'it returns false'. Refute it at one input. -/
def refillBoundWrong : ChangeSpec := { name := "refillBound", fn := fun _ => fun
  | [d1, d2, d3] => { results := [.lit (.bool false)], args := [d1, d2, d3] }
  | _ => none }
def RefillBoundWrongFalsely : Prop := refillBoundRow.holds Try.pinned (OpenSpec.ofChange refillBoundWrong)

/-- 'parcloselaw17.ChunkPlays': WHATEVER THE INPUT: true; the input reads as it did. -/
def chunkPlaysSpec : ChangeSpec := { name := "chunkPlays", fn := fun _ => fun
  | [d1, d2] => { results := [.lit (.bool true)], args := [d1, d2] }
  | _ => none }
def chunkPlaysRow : OpenClaim := { program := "ytlhiagbcmmmjpaa", sum := "4c4da0b8fde8d0d6ce4d0859878b3555c1458d20c96613af7acd81351c670921", func := "parclose/parcloselaw17.ChunkPlays", spec := "chunkPlays", unfollowed := true, recurses := true, apart := false }
def ChunkPlaysSaid : Prop := chunkPlaysRow.holds Try.pinned (OpenSpec.ofChange chunkPlaysSpec)

/-- ITS FALSE NEIGHBOUR: 'it returns false'. Refute it at one input. -/
def chunkPlaysWrong : ChangeSpec := { name := "chunkPlays", fn := fun _ => fun
  | [d1, d2] => { results := [.lit (.bool false)], args := [d1, d2] }
  | _ => none }
def ChunkPlaysWrongFalsely : Prop := chunkPlaysRow.holds Try.pinned (OpenSpec.ofChange chunkPlaysWrong)

/-- 'parcloselaw17.ChunkAll': WHATEVER THE INPUT: true; the input reads as it did. -/
def chunkAllSpec : ChangeSpec := { name := "chunkAll", fn := fun _ => fun
  | [d1, d2] => { results := [.lit (.bool true)], args := [d1, d2] }
  | _ => none }
def chunkAllRow : OpenClaim := { program := "ytlhiagbcmmmjpaa", sum := "4c4da0b8fde8d0d6ce4d0859878b3555c1458d20c96613af7acd81351c670921", func := "parclose/parcloselaw17.ChunkAll", spec := "chunkAll", unfollowed := true, recurses := true, apart := false }
def ChunkAllSaid : Prop := chunkAllRow.holds Try.pinned (OpenSpec.ofChange chunkAllSpec)

/-- ITS FALSE NEIGHBOUR: 'it returns false'. Refute it at one input. -/
def chunkAllWrong : ChangeSpec := { name := "chunkAll", fn := fun _ => fun
  | [d1, d2] => { results := [.lit (.bool false)], args := [d1, d2] }
  | _ => none }
def ChunkAllWrongFalsely : Prop := chunkAllRow.holds Try.pinned (OpenSpec.ofChange chunkAllWrong)

/-- 'parcloselaw17.ChunkNil': WHATEVER THE INPUT: true; the input reads as it did. -/
def chunkNilSpec : ChangeSpec := { name := "chunkNil", fn := fun _ => fun
  | [d] => { results := [.lit (.bool true)], args := [d] }
  | _ => none }
def chunkNilRow : OpenClaim := { program := "ytlhiagbcmmmjpaa", sum := "4c4da0b8fde8d0d6ce4d0859878b3555c1458d20c96613af7acd81351c670921", func := "parclose/parcloselaw17.ChunkNil", spec := "chunkNil", unfollowed := true, recurses := true, apart := false }
def ChunkNilSaid : Prop := chunkNilRow.holds Try.pinned (OpenSpec.ofChange chunkNilSpec)

/-- ITS FALSE NEIGHBOUR: 'it returns false'. Refute it at one input. -/
def chunkNilWrong : ChangeSpec := { name := "chunkNil", fn := fun _ => fun
  | [d] => { results := [.lit (.bool false)], args := [d] }
  | _ => none }
def ChunkNilWrongFalsely : Prop := chunkNilRow.holds Try.pinned (OpenSpec.ofChange chunkNilWrong)

/-- 'parcloselaw17.ChunkBound': WHATEVER THE INPUT: true; the input reads as it did. -/
def chunkBoundSpec : ChangeSpec := { name := "chunkBound", fn := fun _ => fun
  | [d1, d2] => { results := [.lit (.bool true)], args := [d1, d2] }
  | _ => none }
def chunkBoundRow : OpenClaim := { program := "ytlhiagbcmmmjpaa", sum := "4c4da0b8fde8d0d6ce4d0859878b3555c1458d20c96613af7acd81351c670921", func := "parclose/parcloselaw17.ChunkBound", spec := "chunkBound", unfollowed := true, recurses := true, apart := false }
def ChunkBoundSaid : Prop := chunkBoundRow.holds Try.pinned (OpenSpec.ofChange chunkBoundSpec)

/-- ITS FALSE NEIGHBOUR: 'it returns false'. Refute it at one input. -/
def chunkBoundWrong : ChangeSpec := { name := "chunkBound", fn := fun _ => fun
  | [d1, d2] => { results := [.lit (.bool false)], args := [d1, d2] }
  | _ => none }
def ChunkBoundWrongFalsely : Prop := chunkBoundRow.holds Try.pinned (OpenSpec.ofChange chunkBoundWrong)

/- THE SECOND FORM. 'bulk': how many values and letters a reading holds, each counted each time it is reached (what is shared counts as often as it is met; a slice's spare places count too). A statement '..UptoSaid' is the law's where the arguments, and the package variables that the reading takes, are together of bulk at most 1048576: NARROWER than '..Said'. Prove '..Said' where nothing that the law and all that it calls make is longer than what came in: it says more and counts as full. Else prove '..UptoSaid'. A law counts once. -/
mutual
def uptoBulk {H : Type} : DataW H → Nat
  | .lit (.string bytes) => bytes.length + 1
  | .lit _ => 1
  | .nil => 1
  | .ptr d => uptoBulk d + 1
  | .slice elems spare => uptoBulkAll elems + uptoBulkAll spare + 1
  | .agg parts => uptoBulkAll parts + 1
  | .iface _ d => uptoBulk d + 1
  | .map entries => uptoBulkEntries entries + 1
  | .held _ => 1
def uptoBulkAll {H : Type} : List (DataW H) → Nat
  | [] => 0
  | d :: r => uptoBulk d + uptoBulkAll r
def uptoBulkEntries {H : Type} : List (Lit × DataW H) → Nat
  | [] => 0
  | x :: r => uptoBulkEntry x + uptoBulkEntries r
def uptoBulkEntry {H : Type} : Lit × DataW H → Nat
  | (.string bytes, d) => bytes.length + uptoBulk d + 1
  | (_, d) => uptoBulk d + 1
 end
def uptoSmall : (H : Type) → List (DataW H) → Bool := fun _ ds => decide (uptoBulkAll ds ≤ 1048576)
def OpenSpec.upto (s : _root_.Go.ChangeSpec) : _root_.Go.OpenSpec := { _root_.Go.OpenSpec.ofChange s with cond := some uptoSmall }

/-- 'parcloselaw18.RefillFull', WHERE WHAT IT READS IS OF BULK AT MOST 1048576: true; the input reads as it did. -/
def refillFullUptoRow : OpenClaim := { program := "ytlhiagbcmmmjpaa", sum := "4c4da0b8fde8d0d6ce4d0859878b3555c1458d20c96613af7acd81351c670921", func := "parclose/parcloselaw18.RefillFull", spec := "refillFull", apart := false, narrowed := true }
def RefillFullUptoSaid : Prop := refillFullUptoRow.holds Try.pinned (OpenSpec.upto refillFullSpec)

/-- 'parcloselaw18.RefillNil', WHERE WHAT IT READS IS OF BULK AT MOST 1048576: true; the input reads as it did. -/
def refillNilUptoRow : OpenClaim := { program := "ytlhiagbcmmmjpaa", sum := "4c4da0b8fde8d0d6ce4d0859878b3555c1458d20c96613af7acd81351c670921", func := "parclose/parcloselaw18.RefillNil", spec := "refillNil", apart := false, narrowed := true }
def RefillNilUptoSaid : Prop := refillNilUptoRow.holds Try.pinned (OpenSpec.upto refillNilSpec)

/-- 'parcloselaw18.RefillBound', WHERE WHAT IT READS IS OF BULK AT MOST 1048576: true; the input reads as it did. -/
def refillBoundUptoRow : OpenClaim := { program := "ytlhiagbcmmmjpaa", sum := "4c4da0b8fde8d0d6ce4d0859878b3555c1458d20c96613af7acd81351c670921", func := "parclose/parcloselaw18.RefillBound", spec := "refillBound", apart := false, narrowed := true }
def RefillBoundUptoSaid : Prop := refillBoundUptoRow.holds Try.pinned (OpenSpec.upto refillBoundSpec)

/-- 'parcloselaw17.ChunkPlays', WHERE WHAT IT READS IS OF BULK AT MOST 1048576: true; the input reads as it did. -/
def chunkPlaysUptoRow : OpenClaim := { program := "ytlhiagbcmmmjpaa", sum := "4c4da0b8fde8d0d6ce4d0859878b3555c1458d20c96613af7acd81351c670921", func := "parclose/parcloselaw17.ChunkPlays", spec := "chunkPlays", unfollowed := true, recurses := true, apart := false, narrowed := true }
def ChunkPlaysUptoSaid : Prop := chunkPlaysUptoRow.holds Try.pinned (OpenSpec.upto chunkPlaysSpec)

/-- 'parcloselaw17.ChunkAll', WHERE WHAT IT READS IS OF BULK AT MOST 1048576: true; the input reads as it did. -/
def chunkAllUptoRow : OpenClaim := { program := "ytlhiagbcmmmjpaa", sum := "4c4da0b8fde8d0d6ce4d0859878b3555c1458d20c96613af7acd81351c670921", func := "parclose/parcloselaw17.ChunkAll", spec := "chunkAll", unfollowed := true, recurses := true, apart := false, narrowed := true }
def ChunkAllUptoSaid : Prop := chunkAllUptoRow.holds Try.pinned (OpenSpec.upto chunkAllSpec)

/-- 'parcloselaw17.ChunkNil', WHERE WHAT IT READS IS OF BULK AT MOST 1048576: true; the input reads as it did. -/
def chunkNilUptoRow : OpenClaim := { program := "ytlhiagbcmmmjpaa", sum := "4c4da0b8fde8d0d6ce4d0859878b3555c1458d20c96613af7acd81351c670921", func := "parclose/parcloselaw17.ChunkNil", spec := "chunkNil", unfollowed := true, recurses := true, apart := false, narrowed := true }
def ChunkNilUptoSaid : Prop := chunkNilUptoRow.holds Try.pinned (OpenSpec.upto chunkNilSpec)

/-- 'parcloselaw17.ChunkBound', WHERE WHAT IT READS IS OF BULK AT MOST 1048576: true; the input reads as it did. -/
def chunkBoundUptoRow : OpenClaim := { program := "ytlhiagbcmmmjpaa", sum := "4c4da0b8fde8d0d6ce4d0859878b3555c1458d20c96613af7acd81351c670921", func := "parclose/parcloselaw17.ChunkBound", spec := "chunkBound", unfollowed := true, recurses := true, apart := false, narrowed := true }
def ChunkBoundUptoSaid : Prop := chunkBoundUptoRow.holds Try.pinned (OpenSpec.upto chunkBoundSpec)

end Rows
end Go.Proofs.Ytlhiagbcmmmjpaa
