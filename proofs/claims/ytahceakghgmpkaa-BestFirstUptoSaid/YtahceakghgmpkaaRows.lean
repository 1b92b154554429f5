/-
  No cell of these rows narrows 'for every input' (looked for: loops, veiled, ifaces, maps, wideKeys, modest, calm, conditions, laid).
  DERIVED. THE GIVEN ROWS OF THIS SEAT. 8 by the template 'for every input the law returns true; each argument reads behind the call as it read before'; 0 by the template 'total and deterministic' (their statements: YtahceakghgmpkaaTotals.lean).
  GIVEN WITH THE SEED: the statements are not yours to turn. If you find one false, say at which input.
  Laid BY PROGRAM, IN A SANDBOX (cutbox-rows.mjs): the forced cells as the released guide's own fill.sh prints them over the translation 40d9efc5139ae93b… (all of the seat's roots in one cut). By AI agents, Wed Nov 11 2026. No macro, syntax, notation, axiom, sorry.
-/
import Derived.Test.YtahceakghgmpkaaChecked
import GoSem.Claim
import GoSem.ClaimJoined
import GoSem.ClaimMapViews
import Derived.JoinedTies
import Derived.KernelRfl
namespace Go.Proofs.Ytahceakghgmpkaa
/- THE CELL 'sum', in the pinned program and in every row, IS THE sha256 OF THE DUMP (.gsa) THAT YtahceakghgmpkaaProg.lean LOADS. Nothing in Lean hashes anything: it is a label: what it is worth is what the hold of that sum in a sandbox is worth. -/
noncomputable def Try.pinned : Pinned := { name := "ytahceakghgmpkaa", sum := "40d9efc5139ae93b609aec459984b3415eae4ab683315cf1ca66110764974682", checked := Try.checked }
namespace Rows
def none {H : Type} : Left H := { results := [], args := [] }

/-- 'kindredlaw10.BestNames': WHATEVER THE INPUT: true; the input reads as it did. -/
def bestNamesSpec : ChangeSpec := { name := "bestNames", fn := fun _ => fun
  | [] => { results := [.lit (.bool true)], args := [] }
  | _ => none }
def bestNamesRow : OpenClaim := { program := "ytahceakghgmpkaa", sum := "40d9efc5139ae93b609aec459984b3415eae4ab683315cf1ca66110764974682", func := "kindred/kindredlaw10.BestNames", spec := "bestNames", plainKeys := false, apart := false }
def BestNamesSaid : Prop := bestNamesRow.holds Try.pinned (OpenSpec.ofChange bestNamesSpec)

/-- ITS FALSE NEIGHBOUR: 'it returns false'. Refute it at one input. -/
def bestNamesWrong : ChangeSpec := { name := "bestNames", fn := fun _ => fun
  | [] => { results := [.lit (.bool false)], args := [] }
  | _ => none }
def BestNamesWrongFalsely : Prop := bestNamesRow.holds Try.pinned (OpenSpec.ofChange bestNamesWrong)

/-- 'kindredlaw10.BestBall': WHATEVER THE INPUT: true; the input reads as it did. -/
def bestBallSpec : ChangeSpec := { name := "bestBall", fn := fun _ => fun
  | [d1, d2] => { results := [.lit (.bool true)], args := [d1, d2] }
  | _ => none }
def bestBallRow : OpenClaim := { program := "ytahceakghgmpkaa", sum := "40d9efc5139ae93b609aec459984b3415eae4ab683315cf1ca66110764974682", func := "kindred/kindredlaw10.BestBall", spec := "bestBall", unfollowed := true, recurses := true, plainKeys := false, apart := false }
def BestBallSaid : Prop := bestBallRow.holds Try.pinned (OpenSpec.ofChange bestBallSpec)

/-- ITS FALSE NEIGHBOUR: 'it returns false'. Refute it at one input. -/
def bestBallWrong : ChangeSpec := { name := "bestBall", fn := fun _ => fun
  | [d1, d2] => { results := [.lit (.bool false)], args := [d1, d2] }
  | _ => none }
def BestBallWrongFalsely : Prop := bestBallRow.holds Try.pinned (OpenSpec.ofChange bestBallWrong)

/-- 'kindredlaw10.BestSet': WHATEVER THE INPUT: true; the input reads as it did. -/
def bestSetSpec : ChangeSpec := { name := "bestSet", fn := fun _ => fun
  | [d1, d2] => { results := [.lit (.bool true)], args := [d1, d2] }
  | _ => none }
def bestSetRow : OpenClaim := { program := "ytahceakghgmpkaa", sum := "40d9efc5139ae93b609aec459984b3415eae4ab683315cf1ca66110764974682", func := "kindred/kindredlaw10.BestSet", spec := "bestSet", unfollowed := true, recurses := true, plainKeys := false, apart := false }
def BestSetSaid : Prop := bestSetRow.holds Try.pinned (OpenSpec.ofChange bestSetSpec)

/-- ITS FALSE NEIGHBOUR: 'it returns false'. Refute it at one input. -/
def bestSetWrong : ChangeSpec := { name := "bestSet", fn := fun _ => fun
  | [d1, d2] => { results := [.lit (.bool false)], args := [d1, d2] }
  | _ => none }
def BestSetWrongFalsely : Prop := bestSetRow.holds Try.pinned (OpenSpec.ofChange bestSetWrong)

/-- 'kindredlaw10.BestTop': WHATEVER THE INPUT: true; the input reads as it did. -/
def bestTopSpec : ChangeSpec := { name := "bestTop", fn := fun _ => fun
  | [d1, d2] => { results := [.lit (.bool true)], args := [d1, d2] }
  | _ => none }
def bestTopRow : OpenClaim := { program := "ytahceakghgmpkaa", sum := "40d9efc5139ae93b609aec459984b3415eae4ab683315cf1ca66110764974682", func := "kindred/kindredlaw10.BestTop", spec := "bestTop", unfollowed := true, recurses := true, plainKeys := false, apart := false }
def BestTopSaid : Prop := bestTopRow.holds Try.pinned (OpenSpec.ofChange bestTopSpec)

/-- ITS FALSE NEIGHBOUR: 'it returns false'. Refute it at one input. -/
def bestTopWrong : ChangeSpec := { name := "bestTop", fn := fun _ => fun
  | [d1, d2] => { results := [.lit (.bool false)], args := [d1, d2] }
  | _ => none }
def BestTopWrongFalsely : Prop := bestTopRow.holds Try.pinned (OpenSpec.ofChange bestTopWrong)

/-- 'kindredlaw10.BestWorst': WHATEVER THE INPUT: true; the input reads as it did. -/
def bestWorstSpec : ChangeSpec := { name := "bestWorst", fn := fun _ => fun
  | [d1, d2] => { results := [.lit (.bool true)], args := [d1, d2] }
  | _ => none }
def bestWorstRow : OpenClaim := { program := "ytahceakghgmpkaa", sum := "40d9efc5139ae93b609aec459984b3415eae4ab683315cf1ca66110764974682", func := "kindred/kindredlaw10.BestWorst", spec := "bestWorst", unfollowed := true, recurses := true, plainKeys := false, apart := false }
def BestWorstSaid : Prop := bestWorstRow.holds Try.pinned (OpenSpec.ofChange bestWorstSpec)

/-- ITS FALSE NEIGHBOUR: 'it returns false'. Refute it at one input. -/
def bestWorstWrong : ChangeSpec := { name := "bestWorst", fn := fun _ => fun
  | [d1, d2] => { results := [.lit (.bool false)], args := [d1, d2] }
  | _ => none }
def BestWorstWrongFalsely : Prop := bestWorstRow.holds Try.pinned (OpenSpec.ofChange bestWorstWrong)

/-- 'kindredlaw10.BestFirst': WHATEVER THE INPUT: true; the input reads as it did. -/
def bestFirstSpec : ChangeSpec := { name := "bestFirst", fn := fun _ => fun
  | [d1, d2] => { results := [.lit (.bool true)], args := [d1, d2] }
  | _ => none }
def bestFirstRow : OpenClaim := { program := "ytahceakghgmpkaa", sum := "40d9efc5139ae93b609aec459984b3415eae4ab683315cf1ca66110764974682", func := "kindred/kindredlaw10.BestFirst", spec := "bestFirst", unfollowed := true, recurses := true, plainKeys := false, apart := false }
def BestFirstSaid : Prop := bestFirstRow.holds Try.pinned (OpenSpec.ofChange bestFirstSpec)

/-- ITS FALSE NEIGHBOUR: 'it returns false'. Refute it at one input. -/
def bestFirstWrong : ChangeSpec := { name := "bestFirst", fn := fun _ => fun
  | [d1, d2] => { results := [.lit (.bool false)], args := [d1, d2] }
  | _ => none }
def BestFirstWrongFalsely : Prop := bestFirstRow.holds Try.pinned (OpenSpec.ofChange bestFirstWrong)

/-- 'kindredlaw10.BestParts': WHATEVER THE INPUT: true; the input reads as it did. -/
def bestPartsSpec : ChangeSpec := { name := "bestParts", fn := fun _ => fun
  | [d1, d2] => { results := [.lit (.bool true)], args := [d1, d2] }
  | _ => none }
def bestPartsRow : OpenClaim := { program := "ytahceakghgmpkaa", sum := "40d9efc5139ae93b609aec459984b3415eae4ab683315cf1ca66110764974682", func := "kindred/kindredlaw10.BestParts", spec := "bestParts", unfollowed := true, recurses := true, plainKeys := false, apart := false }
def BestPartsSaid : Prop := bestPartsRow.holds Try.pinned (OpenSpec.ofChange bestPartsSpec)

/-- ITS FALSE NEIGHBOUR: 'it returns false'. Refute it at one input. -/
def bestPartsWrong : ChangeSpec := { name := "bestParts", fn := fun _ => fun
  | [d1, d2] => { results := [.lit (.bool false)], args := [d1, d2] }
  | _ => none }
def BestPartsWrongFalsely : Prop := bestPartsRow.holds Try.pinned (OpenSpec.ofChange bestPartsWrong)

/-- 'kindredlaw10.BestWithin': WHATEVER THE INPUT: true; the input reads as it did. -/
def bestWithinSpec : ChangeSpec := { name := "bestWithin", fn := fun _ => fun
  | [d1, d2, d3] => { results := [.lit (.bool true)], args := [d1, d2, d3] }
  | _ => none }
def bestWithinRow : OpenClaim := { program := "ytahceakghgmpkaa", sum := "40d9efc5139ae93b609aec459984b3415eae4ab683315cf1ca66110764974682", func := "kindred/kindredlaw10.BestWithin", spec := "bestWithin", unfollowed := true, recurses := true, plainKeys := false, apart := false }
def BestWithinSaid : Prop := bestWithinRow.holds Try.pinned (OpenSpec.ofChange bestWithinSpec)

/-- ITS FALSE NEIGHBOUR: 'it returns false'. Refute it at one input. -/
def bestWithinWrong : ChangeSpec := { name := "bestWithin", fn := fun _ => fun
  | [d1, d2, d3] => { results := [.lit (.bool false)], args := [d1, d2, d3] }
  | _ => none }
def BestWithinWrongFalsely : Prop := bestWithinRow.holds Try.pinned (OpenSpec.ofChange bestWithinWrong)

/- THE SECOND FORM. 'bulk': how many values and letters a reading holds, each counted each time it is reached (what is shared counts as often as it is met; a slice's spare places count too). A statement '..UptoSaid' is the law's where the arguments, and the package variables that the reading takes, are together of bulk at most 1048576: NARROWER than '..Said'. Prove '..Said' where nothing that the law and all that it calls make is longer than what came in: it says more and counts as full. Else prove '..UptoSaid'. A law counts once. -/
mutual
def uptoBulk {H : Type} : DataW H → Nat
  | .lit (.string bytes) => bytes.length + 1
  | .lit _ => 1
  | .nil => 1
  | .ptr d => uptoBulk d + 1
  | .slice elems spare => uptoBulkAll elems + uptoBulkAll spare + 1
  | .agg parts => uptoBulkAll parts + 1
  | .iface _ d => uptoBulk d + 1
  | .map entries => uptoBulkEntries entries + 1
  | .held _ => 1
def uptoBulkAll {H : Type} : List (DataW H) → Nat
  | [] => 0
  | d :: r => uptoBulk d + uptoBulkAll r
def uptoBulkEntries {H : Type} : List (Lit × DataW H) → Nat
  | [] => 0
  | x :: r => uptoBulkEntry x + uptoBulkEntries r
def uptoBulkEntry {H : Type} : Lit × DataW H → Nat
  | (.string bytes, d) => bytes.length + uptoBulk d + 1
  | (_, d) => uptoBulk d + 1
 end
def uptoSmall : (H : Type) → List (DataW H) → Bool := fun _ ds => decide (uptoBulkAll ds ≤ 1048576)
def OpenSpec.upto (s : _root_.Go.ChangeSpec) : _root_.Go.OpenSpec := { _root_.Go.OpenSpec.ofChange s with cond := some uptoSmall }

/-- 'kindredlaw10.BestNames', WHERE WHAT IT READS IS OF BULK AT MOST 1048576: true; the input reads as it did. -/
def bestNamesUptoRow : OpenClaim := { program := "ytahceakghgmpkaa", sum := "40d9efc5139ae93b609aec459984b3415eae4ab683315cf1ca66110764974682", func := "kindred/kindredlaw10.BestNames", spec := "bestNames", plainKeys := false, apart := false, narrowed := true }
def BestNamesUptoSaid : Prop := bestNamesUptoRow.holds Try.pinned (OpenSpec.upto bestNamesSpec)

/-- 'kindredlaw10.BestBall', WHERE WHAT IT READS IS OF BULK AT MOST 1048576: true; the input reads as it did. -/
def bestBallUptoRow : OpenClaim := { program := "ytahceakghgmpkaa", sum := "40d9efc5139ae93b609aec459984b3415eae4ab683315cf1ca66110764974682", func := "kindred/kindredlaw10.BestBall", spec := "bestBall", unfollowed := true, recurses := true, plainKeys := false, apart := false, narrowed := true }
def BestBallUptoSaid : Prop := bestBallUptoRow.holds Try.pinned (OpenSpec.upto bestBallSpec)

/-- 'kindredlaw10.BestSet', WHERE WHAT IT READS IS OF BULK AT MOST 1048576: true; the input reads as it did. -/
def bestSetUptoRow : OpenClaim := { program := "ytahceakghgmpkaa", sum := "40d9efc5139ae93b609aec459984b3415eae4ab683315cf1ca66110764974682", func := "kindred/kindredlaw10.BestSet", spec := "bestSet", unfollowed := true, recurses := true, plainKeys := false, apart := false, narrowed := true }
def BestSetUptoSaid : Prop := bestSetUptoRow.holds Try.pinned (OpenSpec.upto bestSetSpec)

/-- 'kindredlaw10.BestTop', WHERE WHAT IT READS IS OF BULK AT MOST 1048576: true; the input reads as it did. -/
def bestTopUptoRow : OpenClaim := { program := "ytahceakghgmpkaa", sum := "40d9efc5139ae93b609aec459984b3415eae4ab683315cf1ca66110764974682", func := "kindred/kindredlaw10.BestTop", spec := "bestTop", unfollowed := true, recurses := true, plainKeys := false, apart := false, narrowed := true }
def BestTopUptoSaid : Prop := bestTopUptoRow.holds Try.pinned (OpenSpec.upto bestTopSpec)

/-- 'kindredlaw10.BestWorst', WHERE WHAT IT READS IS OF BULK AT MOST 1048576: true; the input reads as it did. -/
def bestWorstUptoRow : OpenClaim := { program := "ytahceakghgmpkaa", sum := "40d9efc5139ae93b609aec459984b3415eae4ab683315cf1ca66110764974682", func := "kindred/kindredlaw10.BestWorst", spec := "bestWorst", unfollowed := true, recurses := true, plainKeys := false, apart := false, narrowed := true }
def BestWorstUptoSaid : Prop := bestWorstUptoRow.holds Try.pinned (OpenSpec.upto bestWorstSpec)

/-- 'kindredlaw10.BestFirst', WHERE WHAT IT READS IS OF BULK AT MOST 1048576: true; the input reads as it did. -/
def bestFirstUptoRow : OpenClaim := { program := "ytahceakghgmpkaa", sum := "40d9efc5139ae93b609aec459984b3415eae4ab683315cf1ca66110764974682", func := "kindred/kindredlaw10.BestFirst", spec := "bestFirst", unfollowed := true, recurses := true, plainKeys := false, apart := false, narrowed := true }
def BestFirstUptoSaid : Prop := bestFirstUptoRow.holds Try.pinned (OpenSpec.upto bestFirstSpec)

/-- 'kindredlaw10.BestParts', WHERE WHAT IT READS IS OF BULK AT MOST 1048576: true; the input reads as it did. -/
def bestPartsUptoRow : OpenClaim := { program := "ytahceakghgmpkaa", sum := "40d9efc5139ae93b609aec459984b3415eae4ab683315cf1ca66110764974682", func := "kindred/kindredlaw10.BestParts", spec := "bestParts", unfollowed := true, recurses := true, plainKeys := false, apart := false, narrowed := true }
def BestPartsUptoSaid : Prop := bestPartsUptoRow.holds Try.pinned (OpenSpec.upto bestPartsSpec)

/-- 'kindredlaw10.BestWithin', WHERE WHAT IT READS IS OF BULK AT MOST 1048576: true; the input reads as it did. -/
def bestWithinUptoRow : OpenClaim := { program := "ytahceakghgmpkaa", sum := "40d9efc5139ae93b609aec459984b3415eae4ab683315cf1ca66110764974682", func := "kindred/kindredlaw10.BestWithin", spec := "bestWithin", unfollowed := true, recurses := true, plainKeys := false, apart := false, narrowed := true }
def BestWithinUptoSaid : Prop := bestWithinUptoRow.holds Try.pinned (OpenSpec.upto bestWithinSpec)

end Rows
end Go.Proofs.Ytahceakghgmpkaa
