/-
  No cell of these rows narrows 'for every input' (looked for: loops, veiled, ifaces, maps, wideKeys, modest, calm, conditions, laid).
  DERIVED. THE GIVEN ROWS OF THIS SEAT. 6 by the template 'for every input the law returns true; each argument reads behind the call as it read before'; 0 by the template 'total and deterministic' (their statements: YtldbjoegfcmfkaaTotals.lean).
  GIVEN WITH THE SEED: the statements are not yours to turn. If you find one false, say at which input.
  Laid BY PROGRAM, IN A SANDBOX (cutbox-rows.mjs): the forced cells as the released guide's own fill.sh prints them over the translation 262a09bee572761a… (all of the seat's roots in one cut). By AI agents, Wed Nov 11 2026. No macro, syntax, notation, axiom, sorry.
-/
import Derived.Test.YtldbjoegfcmfkaaChecked
import GoSem.Claim
import GoSem.ClaimJoined
import GoSem.ClaimMapViews
import Derived.JoinedTies
import Derived.KernelRfl
namespace Go.Proofs.Ytldbjoegfcmfkaa
/- THE CELL 'sum', in the pinned program and in every row, IS THE sha256 OF THE DUMP (.gsa) THAT YtldbjoegfcmfkaaProg.lean LOADS. Nothing in Lean hashes anything: it is a label: what it is worth is what the hold of that sum in a sandbox is worth. -/
noncomputable def Try.pinned : Pinned := { name := "ytldbjoegfcmfkaa", sum := "262a09bee572761a1dedba7920d63a96b13b49fe9ec01afd8a3247e908384775", checked := Try.checked }
namespace Rows
def none {H : Type} : Left H := { results := [], args := [] }

/-- 'parcloselaw31.PlanLays': WHATEVER THE INPUT: true; the input reads as it did. -/
def planLaysSpec : ChangeSpec := { name := "planLays", fn := fun _ => fun
  | [d1, d2, d3, d4] => { results := [.lit (.bool true)], args := [d1, d2, d3, d4] }
  | _ => none }
def planLaysRow : OpenClaim := { program := "ytldbjoegfcmfkaa", sum := "262a09bee572761a1dedba7920d63a96b13b49fe9ec01afd8a3247e908384775", func := "parclose/parcloselaw31.PlanLays", spec := "planLays", unfollowed := true, recurses := true, apart := false }
def PlanLaysSaid : Prop := planLaysRow.holds Try.pinned (OpenSpec.ofChange planLaysSpec)

/-- ITS FALSE NEIGHBOUR: 'it returns false'. Refute it at one input. -/
def planLaysWrong : ChangeSpec := { name := "planLays", fn := fun _ => fun
  | [d1, d2, d3, d4] => { results := [.lit (.bool false)], args := [d1, d2, d3, d4] }
  | _ => none }
def PlanLaysWrongFalsely : Prop := planLaysRow.holds Try.pinned (OpenSpec.ofChange planLaysWrong)

/-- 'parcloselaw31.PlanGaps': WHATEVER THE INPUT: true; the input reads as it did. -/
def planGapsSpec : ChangeSpec := { name := "planGaps", fn := fun _ => fun
  | [d1, d2] => { results := [.lit (.bool true)], args := [d1, d2] }
  | _ => none }
def planGapsRow : OpenClaim := { program := "ytldbjoegfcmfkaa", sum := "262a09bee572761a1dedba7920d63a96b13b49fe9ec01afd8a3247e908384775", func := "parclose/parcloselaw31.PlanGaps", spec := "planGaps", unfollowed := true, recurses := true, apart := false }
def PlanGapsSaid : Prop := planGapsRow.holds Try.pinned (OpenSpec.ofChange planGapsSpec)

/-- ITS FALSE NEIGHBOUR: 'it returns false'. Refute it at one input. -/
def planGapsWrong : ChangeSpec := { name := "planGaps", fn := fun _ => fun
  | [d1, d2] => { results := [.lit (.bool false)], args := [d1, d2] }
  | _ => none }
def PlanGapsWrongFalsely : Prop := planGapsRow.holds Try.pinned (OpenSpec.ofChange planGapsWrong)

/-- 'parcloselaw31.PlanOffers': WHATEVER THE INPUT: true; the input reads as it did. -/
def planOffersSpec : ChangeSpec := { name := "planOffers", fn := fun _ => fun
  | [d1, d2, d3, d4] => { results := [.lit (.bool true)], args := [d1, d2, d3, d4] }
  | _ => none }
def planOffersRow : OpenClaim := { program := "ytldbjoegfcmfkaa", sum := "262a09bee572761a1dedba7920d63a96b13b49fe9ec01afd8a3247e908384775", func := "parclose/parcloselaw31.PlanOffers", spec := "planOffers", unfollowed := true, recurses := true, apart := false }
def PlanOffersSaid : Prop := planOffersRow.holds Try.pinned (OpenSpec.ofChange planOffersSpec)

/-- ITS FALSE NEIGHBOUR: 'it returns false'. Refute it at one input. -/
def planOffersWrong : ChangeSpec := { name := "planOffers", fn := fun _ => fun
  | [d1, d2, d3, d4] => { results := [.lit (.bool false)], args := [d1, d2, d3, d4] }
  | _ => none }
def PlanOffersWrongFalsely : Prop := planOffersRow.holds Try.pinned (OpenSpec.ofChange planOffersWrong)

/-- 'parcloselaw04.FrameTells': WHATEVER THE INPUT: true; the input reads as it did. -/
def frameTellsSpec : ChangeSpec := { name := "frameTells", fn := fun _ => fun
  | [d1, d2, d3, d4, d5, d6] => { results := [.lit (.bool true)], args := [d1, d2, d3, d4, d5, d6] }
  | _ => none }
def frameTellsRow : OpenClaim := { program := "ytldbjoegfcmfkaa", sum := "262a09bee572761a1dedba7920d63a96b13b49fe9ec01afd8a3247e908384775", func := "parclose/parcloselaw04.FrameTells", spec := "frameTells", unfollowed := true, recurses := true, apart := false }
def FrameTellsSaid : Prop := frameTellsRow.holds Try.pinned (OpenSpec.ofChange frameTellsSpec)

/-- ITS FALSE NEIGHBOUR: 'it returns false'. Refute it at one input. -/
def frameTellsWrong : ChangeSpec := { name := "frameTells", fn := fun _ => fun
  | [d1, d2, d3, d4, d5, d6] => { results := [.lit (.bool false)], args := [d1, d2, d3, d4, d5, d6] }
  | _ => none }
def FrameTellsWrongFalsely : Prop := frameTellsRow.holds Try.pinned (OpenSpec.ofChange frameTellsWrong)

/-- 'parcloselaw04.FrameRound': WHATEVER THE INPUT: true; the input reads as it did. -/
def frameRoundSpec : ChangeSpec := { name := "frameRound", fn := fun _ => fun
  | [d1, d2, d3, d4, d5, d6] => { results := [.lit (.bool true)], args := [d1, d2, d3, d4, d5, d6] }
  | _ => none }
def frameRoundRow : OpenClaim := { program := "ytldbjoegfcmfkaa", sum := "262a09bee572761a1dedba7920d63a96b13b49fe9ec01afd8a3247e908384775", func := "parclose/parcloselaw04.FrameRound", spec := "frameRound", unfollowed := true, recurses := true, apart := false }
def FrameRoundSaid : Prop := frameRoundRow.holds Try.pinned (OpenSpec.ofChange frameRoundSpec)

/-- ITS FALSE NEIGHBOUR: 'it returns false'. Refute it at one input. -/
def frameRoundWrong : ChangeSpec := { name := "frameRound", fn := fun _ => fun
  | [d1, d2, d3, d4, d5, d6] => { results := [.lit (.bool false)], args := [d1, d2, d3, d4, d5, d6] }
  | _ => none }
def FrameRoundWrongFalsely : Prop := frameRoundRow.holds Try.pinned (OpenSpec.ofChange frameRoundWrong)

/-- 'parcloselaw31.PlanLooks': WHATEVER THE INPUT: true; the input reads as it did. -/
def planLooksSpec : ChangeSpec := { name := "planLooks", fn := fun _ => fun
  | [d1, d2, d3] => { results := [.lit (.bool true)], args := [d1, d2, d3] }
  | _ => none }
def planLooksRow : OpenClaim := { program := "ytldbjoegfcmfkaa", sum := "262a09bee572761a1dedba7920d63a96b13b49fe9ec01afd8a3247e908384775", func := "parclose/parcloselaw31.PlanLooks", spec := "planLooks", unfollowed := true, recurses := true, apart := false }
def PlanLooksSaid : Prop := planLooksRow.holds Try.pinned (OpenSpec.ofChange planLooksSpec)

/-- ITS FALSE NEIGHBOUR: 'it returns false'. Refute it at one input. -/
def planLooksWrong : ChangeSpec := { name := "planLooks", fn := fun _ => fun
  | [d1, d2, d3] => { results := [.lit (.bool false)], args := [d1, d2, d3] }
  | _ => none }
def PlanLooksWrongFalsely : Prop := planLooksRow.holds Try.pinned (OpenSpec.ofChange planLooksWrong)

/- THE SECOND FORM. 'bulk': how many values and letters a reading holds, each counted each time it is reached (what is shared counts as often as it is met; a slice's spare places count too). A statement '..UptoSaid' is the law's where the arguments, and the package variables that the reading takes, are together of bulk at most 1048576: NARROWER than '..Said'. Prove '..Said' where nothing that the law and all that it calls make is longer than what came in: it says more and counts as full. Else prove '..UptoSaid'. A law counts once. -/
mutual
def uptoBulk {H : Type} : DataW H → Nat
  | .lit (.string bytes) => bytes.length + 1
  | .lit _ => 1
  | .nil => 1
  | .ptr d => uptoBulk d + 1
  | .slice elems spare => uptoBulkAll elems + uptoBulkAll spare + 1
  | .agg parts => uptoBulkAll parts + 1
  | .iface _ d => uptoBulk d + 1
  | .map entries => uptoBulkEntries entries + 1
  | .held _ => 1
def uptoBulkAll {H : Type} : List (DataW H) → Nat
  | [] => 0
  | d :: r => uptoBulk d + uptoBulkAll r
def uptoBulkEntries {H : Type} : List (Lit × DataW H) → Nat
  | [] => 0
  | x :: r => uptoBulkEntry x + uptoBulkEntries r
def uptoBulkEntry {H : Type} : Lit × DataW H → Nat
  | (.string bytes, d) => bytes.length + uptoBulk d + 1
  | (_, d) => uptoBulk d + 1
 end
def uptoSmall : (H : Type) → List (DataW H) → Bool := fun _ ds => decide (uptoBulkAll ds ≤ 1048576)
def OpenSpec.upto (s : _root_.Go.ChangeSpec) : _root_.Go.OpenSpec := { _root_.Go.OpenSpec.ofChange s with cond := some uptoSmall }

/-- 'parcloselaw31.PlanLays', WHERE WHAT IT READS IS OF BULK AT MOST 1048576: true; the input reads as it did. -/
def planLaysUptoRow : OpenClaim := { program := "ytldbjoegfcmfkaa", sum := "262a09bee572761a1dedba7920d63a96b13b49fe9ec01afd8a3247e908384775", func := "parclose/parcloselaw31.PlanLays", spec := "planLays", unfollowed := true, recurses := true, apart := false, narrowed := true }
def PlanLaysUptoSaid : Prop := planLaysUptoRow.holds Try.pinned (OpenSpec.upto planLaysSpec)

/-- 'parcloselaw31.PlanGaps', WHERE WHAT IT READS IS OF BULK AT MOST 1048576: true; the input reads as it did. -/
def planGapsUptoRow : OpenClaim := { program := "ytldbjoegfcmfkaa", sum := "262a09bee572761a1dedba7920d63a96b13b49fe9ec01afd8a3247e908384775", func := "parclose/parcloselaw31.PlanGaps", spec := "planGaps", unfollowed := true, recurses := true, apart := false, narrowed := true }
def PlanGapsUptoSaid : Prop := planGapsUptoRow.holds Try.pinned (OpenSpec.upto planGapsSpec)

/-- 'parcloselaw31.PlanOffers', WHERE WHAT IT READS IS OF BULK AT MOST 1048576: true; the input reads as it did. -/
def planOffersUptoRow : OpenClaim := { program := "ytldbjoegfcmfkaa", sum := "262a09bee572761a1dedba7920d63a96b13b49fe9ec01afd8a3247e908384775", func := "parclose/parcloselaw31.PlanOffers", spec := "planOffers", unfollowed := true, recurses := true, apart := false, narrowed := true }
def PlanOffersUptoSaid : Prop := planOffersUptoRow.holds Try.pinned (OpenSpec.upto planOffersSpec)

/-- 'parcloselaw04.FrameTells', WHERE WHAT IT READS IS OF BULK AT MOST 1048576: true; the input reads as it did. -/
def frameTellsUptoRow : OpenClaim := { program := "ytldbjoegfcmfkaa", sum := "262a09bee572761a1dedba7920d63a96b13b49fe9ec01afd8a3247e908384775", func := "parclose/parcloselaw04.FrameTells", spec := "frameTells", unfollowed := true, recurses := true, apart := false, narrowed := true }
def FrameTellsUptoSaid : Prop := frameTellsUptoRow.holds Try.pinned (OpenSpec.upto frameTellsSpec)

/-- 'parcloselaw04.FrameRound', WHERE WHAT IT READS IS OF BULK AT MOST 1048576: true; the input reads as it did. -/
def frameRoundUptoRow : OpenClaim := { program := "ytldbjoegfcmfkaa", sum := "262a09bee572761a1dedba7920d63a96b13b49fe9ec01afd8a3247e908384775", func := "parclose/parcloselaw04.FrameRound", spec := "frameRound", unfollowed := true, recurses := true, apart := false, narrowed := true }
def FrameRoundUptoSaid : Prop := frameRoundUptoRow.holds Try.pinned (OpenSpec.upto frameRoundSpec)

/-- 'parcloselaw31.PlanLooks', WHERE WHAT IT READS IS OF BULK AT MOST 1048576: true; the input reads as it did. -/
def planLooksUptoRow : OpenClaim := { program := "ytldbjoegfcmfkaa", sum := "262a09bee572761a1dedba7920d63a96b13b49fe9ec01afd8a3247e908384775", func := "parclose/parcloselaw31.PlanLooks", spec := "planLooks", unfollowed := true, recurses := true, apart := false, narrowed := true }
def PlanLooksUptoSaid : Prop := planLooksUptoRow.holds Try.pinned (OpenSpec.upto planLooksSpec)

end Rows
end Go.Proofs.Ytldbjoegfcmfkaa
