/-
  No cell of these rows narrows 'for every input' (looked for: loops, veiled, ifaces, maps, wideKeys, modest, calm, conditions, laid).
  DERIVED. THE GIVEN ROWS OF THIS SEAT. 8 by the template 'for every input the law returns true; each argument reads behind the call as it read before'; 0 by the template 'total and deterministic' (their statements: YtabhjkaheghbhaaTotals.lean).
  GIVEN WITH THE SEED: the statements are not yours to turn. If you find one false, say at which input.
  Laid BY PROGRAM, IN A SANDBOX (cutbox-rows.mjs): the forced cells as the released guide's own fill.sh prints them over the translation 30fa5535df50b917… (all of the seat's roots in one cut). By AI agents, Wed Nov 11 2026. No macro, syntax, notation, axiom, sorry.
-/
import Derived.Test.YtabhjkaheghbhaaChecked
import GoSem.Claim
import GoSem.ClaimJoined
import GoSem.ClaimMapViews
import Derived.JoinedTies
import Derived.KernelRfl
namespace Go.Proofs.Ytabhjkaheghbhaa
/- THE CELL 'sum', in the pinned program and in every row, IS THE sha256 OF THE DUMP (.gsa) THAT YtabhjkaheghbhaaProg.lean LOADS. Nothing in Lean hashes anything: it is a label: what it is worth is what the hold of that sum in a sandbox is worth. -/
noncomputable def Try.pinned : Pinned := { name := "ytabhjkaheghbhaa", sum := "30fa5535df50b917f306e51ca4e6af0fbafe9df7035c37e60df44dc458e5e628", checked := Try.checked }
namespace Rows
def none {H : Type} : Left H := { results := [], args := [] }

/-- 'kindredlaw18.WireNames': WHATEVER THE INPUT: true; the input reads as it did. -/
def wireNamesSpec : ChangeSpec := { name := "wireNames", fn := fun _ => fun
  | [] => { results := [.lit (.bool true)], args := [] }
  | _ => none }
def wireNamesRow : OpenClaim := { program := "ytabhjkaheghbhaa", sum := "30fa5535df50b917f306e51ca4e6af0fbafe9df7035c37e60df44dc458e5e628", func := "kindred/kindredlaw18.WireNames", spec := "wireNames", apart := false }
def WireNamesSaid : Prop := wireNamesRow.holds Try.pinned (OpenSpec.ofChange wireNamesSpec)

/-- ITS FALSE NEIGHBOUR: 'it returns false'. Refute it at one input. -/
def wireNamesWrong : ChangeSpec := { name := "wireNames", fn := fun _ => fun
  | [] => { results := [.lit (.bool false)], args := [] }
  | _ => none }
def WireNamesWrongFalsely : Prop := wireNamesRow.holds Try.pinned (OpenSpec.ofChange wireNamesWrong)

/-- 'kindredlaw18.WireAsked': WHATEVER THE INPUT: true; the input reads as it did. -/
def wireAskedSpec : ChangeSpec := { name := "wireAsked", fn := fun _ => fun
  | [d] => { results := [.lit (.bool true)], args := [d] }
  | _ => none }
def wireAskedRow : OpenClaim := { program := "ytabhjkaheghbhaa", sum := "30fa5535df50b917f306e51ca4e6af0fbafe9df7035c37e60df44dc458e5e628", func := "kindred/kindredlaw18.WireAsked", spec := "wireAsked", inPlace := ["internal/abi.NoEscape"], unfollowed := true, recurses := true, apart := false }
def WireAskedSaid : Prop := wireAskedRow.holds Try.pinned (OpenSpec.ofChange wireAskedSpec)

/-- ITS FALSE NEIGHBOUR: 'it returns false'. Refute it at one input. -/
def wireAskedWrong : ChangeSpec := { name := "wireAsked", fn := fun _ => fun
  | [d] => { results := [.lit (.bool false)], args := [d] }
  | _ => none }
def WireAskedWrongFalsely : Prop := wireAskedRow.holds Try.pinned (OpenSpec.ofChange wireAskedWrong)

/-- 'kindredlaw18.WireTell': WHATEVER THE INPUT: true; the input reads as it did. -/
def wireTellSpec : ChangeSpec := { name := "wireTell", fn := fun _ => fun
  | [d1, d2] => { results := [.lit (.bool true)], args := [d1, d2] }
  | _ => none }
def wireTellRow : OpenClaim := { program := "ytabhjkaheghbhaa", sum := "30fa5535df50b917f306e51ca4e6af0fbafe9df7035c37e60df44dc458e5e628", func := "kindred/kindredlaw18.WireTell", spec := "wireTell", inPlace := ["internal/abi.NoEscape"], unfollowed := true, recurses := true, apart := false }
def WireTellSaid : Prop := wireTellRow.holds Try.pinned (OpenSpec.ofChange wireTellSpec)

/-- ITS FALSE NEIGHBOUR: 'it returns false'. Refute it at one input. -/
def wireTellWrong : ChangeSpec := { name := "wireTell", fn := fun _ => fun
  | [d1, d2] => { results := [.lit (.bool false)], args := [d1, d2] }
  | _ => none }
def WireTellWrongFalsely : Prop := wireTellRow.holds Try.pinned (OpenSpec.ofChange wireTellWrong)

/-- 'kindredlaw18.WireTold': WHATEVER THE INPUT: true; the input reads as it did. -/
def wireToldSpec : ChangeSpec := { name := "wireTold", fn := fun _ => fun
  | [d] => { results := [.lit (.bool true)], args := [d] }
  | _ => none }
def wireToldRow : OpenClaim := { program := "ytabhjkaheghbhaa", sum := "30fa5535df50b917f306e51ca4e6af0fbafe9df7035c37e60df44dc458e5e628", func := "kindred/kindredlaw18.WireTold", spec := "wireTold", inPlace := ["internal/abi.NoEscape"], unfollowed := true, recurses := true, apart := false }
def WireToldSaid : Prop := wireToldRow.holds Try.pinned (OpenSpec.ofChange wireToldSpec)

/-- ITS FALSE NEIGHBOUR: 'it returns false'. Refute it at one input. -/
def wireToldWrong : ChangeSpec := { name := "wireTold", fn := fun _ => fun
  | [d] => { results := [.lit (.bool false)], args := [d] }
  | _ => none }
def WireToldWrongFalsely : Prop := wireToldRow.holds Try.pinned (OpenSpec.ofChange wireToldWrong)

/-- 'kindredlaw18.WireAsk': WHATEVER THE INPUT: true; the input reads as it did. -/
def wireAskSpec : ChangeSpec := { name := "wireAsk", fn := fun _ => fun
  | [d] => { results := [.lit (.bool true)], args := [d] }
  | _ => none }
def wireAskRow : OpenClaim := { program := "ytabhjkaheghbhaa", sum := "30fa5535df50b917f306e51ca4e6af0fbafe9df7035c37e60df44dc458e5e628", func := "kindred/kindredlaw18.WireAsk", spec := "wireAsk", inPlace := ["internal/abi.NoEscape"], unfollowed := true, recurses := true, apart := false }
def WireAskSaid : Prop := wireAskRow.holds Try.pinned (OpenSpec.ofChange wireAskSpec)

/-- ITS FALSE NEIGHBOUR: 'it returns false'. Refute it at one input. -/
def wireAskWrong : ChangeSpec := { name := "wireAsk", fn := fun _ => fun
  | [d] => { results := [.lit (.bool false)], args := [d] }
  | _ => none }
def WireAskWrongFalsely : Prop := wireAskRow.holds Try.pinned (OpenSpec.ofChange wireAskWrong)

/-- 'kindredlaw18.WireBack': WHATEVER THE INPUT: true; the input reads as it did. -/
def wireBackSpec : ChangeSpec := { name := "wireBack", fn := fun _ => fun
  | [d1, d2, d3, d4] => { results := [.lit (.bool true)], args := [d1, d2, d3, d4] }
  | _ => none }
def wireBackRow : OpenClaim := { program := "ytabhjkaheghbhaa", sum := "30fa5535df50b917f306e51ca4e6af0fbafe9df7035c37e60df44dc458e5e628", func := "kindred/kindredlaw18.WireBack", spec := "wireBack", inPlace := ["internal/abi.NoEscape"], unfollowed := true, recurses := true, apart := false }
def WireBackSaid : Prop := wireBackRow.holds Try.pinned (OpenSpec.ofChange wireBackSpec)

/-- ITS FALSE NEIGHBOUR: 'it returns false'. Refute it at one input. -/
def wireBackWrong : ChangeSpec := { name := "wireBack", fn := fun _ => fun
  | [d1, d2, d3, d4] => { results := [.lit (.bool false)], args := [d1, d2, d3, d4] }
  | _ => none }
def WireBackWrongFalsely : Prop := wireBackRow.holds Try.pinned (OpenSpec.ofChange wireBackWrong)

/-- 'kindredlaw18.WireOnly': WHATEVER THE INPUT: true; the input reads as it did. -/
def wireOnlySpec : ChangeSpec := { name := "wireOnly", fn := fun _ => fun
  | [d] => { results := [.lit (.bool true)], args := [d] }
  | _ => none }
def wireOnlyRow : OpenClaim := { program := "ytabhjkaheghbhaa", sum := "30fa5535df50b917f306e51ca4e6af0fbafe9df7035c37e60df44dc458e5e628", func := "kindred/kindredlaw18.WireOnly", spec := "wireOnly", inPlace := ["internal/abi.NoEscape"], unfollowed := true, recurses := true, apart := false }
def WireOnlySaid : Prop := wireOnlyRow.holds Try.pinned (OpenSpec.ofChange wireOnlySpec)

/-- ITS FALSE NEIGHBOUR: 'it returns false'. Refute it at one input. -/
def wireOnlyWrong : ChangeSpec := { name := "wireOnly", fn := fun _ => fun
  | [d] => { results := [.lit (.bool false)], args := [d] }
  | _ => none }
def WireOnlyWrongFalsely : Prop := wireOnlyRow.holds Try.pinned (OpenSpec.ofChange wireOnlyWrong)

/-- 'kindredlaw18.WireMust': WHATEVER THE INPUT: true; the input reads as it did. -/
def wireMustSpec : ChangeSpec := { name := "wireMust", fn := fun _ => fun
  | [d1, d2, d3, d4, d5, d6, d7, d8, d9] => { results := [.lit (.bool true)], args := [d1, d2, d3, d4, d5, d6, d7, d8, d9] }
  | _ => none }
def wireMustRow : OpenClaim := { program := "ytabhjkaheghbhaa", sum := "30fa5535df50b917f306e51ca4e6af0fbafe9df7035c37e60df44dc458e5e628", func := "kindred/kindredlaw18.WireMust", spec := "wireMust", inPlace := ["internal/abi.NoEscape"], unfollowed := true, recurses := true, apart := false }
def WireMustSaid : Prop := wireMustRow.holds Try.pinned (OpenSpec.ofChange wireMustSpec)

/-- ITS FALSE NEIGHBOUR: 'it returns false'. Refute it at one input. -/
def wireMustWrong : ChangeSpec := { name := "wireMust", fn := fun _ => fun
  | [d1, d2, d3, d4, d5, d6, d7, d8, d9] => { results := [.lit (.bool false)], args := [d1, d2, d3, d4, d5, d6, d7, d8, d9] }
  | _ => none }
def WireMustWrongFalsely : Prop := wireMustRow.holds Try.pinned (OpenSpec.ofChange wireMustWrong)

/- THE SECOND FORM. 'bulk': how many values and letters a reading holds, each counted each time it is reached (what is shared counts as often as it is met; a slice's spare places count too). A statement '..UptoSaid' is the law's where the arguments, and the package variables that the reading takes, are together of bulk at most 1048576: NARROWER than '..Said'. Prove '..Said' where nothing that the law and all that it calls make is longer than what came in: it says more and counts as full. Else prove '..UptoSaid'. A law counts once. -/
mutual
def uptoBulk {H : Type} : DataW H → Nat
  | .lit (.string bytes) => bytes.length + 1
  | .lit _ => 1
  | .nil => 1
  | .ptr d => uptoBulk d + 1
  | .slice elems spare => uptoBulkAll elems + uptoBulkAll spare + 1
  | .agg parts => uptoBulkAll parts + 1
  | .iface _ d => uptoBulk d + 1
  | .map entries => uptoBulkEntries entries + 1
  | .held _ => 1
def uptoBulkAll {H : Type} : List (DataW H) → Nat
  | [] => 0
  | d :: r => uptoBulk d + uptoBulkAll r
def uptoBulkEntries {H : Type} : List (Lit × DataW H) → Nat
  | [] => 0
  | x :: r => uptoBulkEntry x + uptoBulkEntries r
def uptoBulkEntry {H : Type} : Lit × DataW H → Nat
  | (.string bytes, d) => bytes.length + uptoBulk d + 1
  | (_, d) => uptoBulk d + 1
 end
def uptoSmall : (H : Type) → List (DataW H) → Bool := fun _ ds => decide (uptoBulkAll ds ≤ 1048576)
def OpenSpec.upto (s : _root_.Go.ChangeSpec) : _root_.Go.OpenSpec := { _root_.Go.OpenSpec.ofChange s with cond := some uptoSmall }

/-- 'kindredlaw18.WireNames', WHERE WHAT IT READS IS OF BULK AT MOST 1048576: true; the input reads as it did. -/
def wireNamesUptoRow : OpenClaim := { program := "ytabhjkaheghbhaa", sum := "30fa5535df50b917f306e51ca4e6af0fbafe9df7035c37e60df44dc458e5e628", func := "kindred/kindredlaw18.WireNames", spec := "wireNames", apart := false, narrowed := true }
def WireNamesUptoSaid : Prop := wireNamesUptoRow.holds Try.pinned (OpenSpec.upto wireNamesSpec)

/-- 'kindredlaw18.WireAsked', WHERE WHAT IT READS IS OF BULK AT MOST 1048576: true; the input reads as it did. -/
def wireAskedUptoRow : OpenClaim := { program := "ytabhjkaheghbhaa", sum := "30fa5535df50b917f306e51ca4e6af0fbafe9df7035c37e60df44dc458e5e628", func := "kindred/kindredlaw18.WireAsked", spec := "wireAsked", inPlace := ["internal/abi.NoEscape"], unfollowed := true, recurses := true, apart := false, narrowed := true }
def WireAskedUptoSaid : Prop := wireAskedUptoRow.holds Try.pinned (OpenSpec.upto wireAskedSpec)

/-- 'kindredlaw18.WireTell', WHERE WHAT IT READS IS OF BULK AT MOST 1048576: true; the input reads as it did. -/
def wireTellUptoRow : OpenClaim := { program := "ytabhjkaheghbhaa", sum := "30fa5535df50b917f306e51ca4e6af0fbafe9df7035c37e60df44dc458e5e628", func := "kindred/kindredlaw18.WireTell", spec := "wireTell", inPlace := ["internal/abi.NoEscape"], unfollowed := true, recurses := true, apart := false, narrowed := true }
def WireTellUptoSaid : Prop := wireTellUptoRow.holds Try.pinned (OpenSpec.upto wireTellSpec)

/-- 'kindredlaw18.WireTold', WHERE WHAT IT READS IS OF BULK AT MOST 1048576: true; the input reads as it did. -/
def wireToldUptoRow : OpenClaim := { program := "ytabhjkaheghbhaa", sum := "30fa5535df50b917f306e51ca4e6af0fbafe9df7035c37e60df44dc458e5e628", func := "kindred/kindredlaw18.WireTold", spec := "wireTold", inPlace := ["internal/abi.NoEscape"], unfollowed := true, recurses := true, apart := false, narrowed := true }
def WireToldUptoSaid : Prop := wireToldUptoRow.holds Try.pinned (OpenSpec.upto wireToldSpec)

/-- 'kindredlaw18.WireAsk', WHERE WHAT IT READS IS OF BULK AT MOST 1048576: true; the input reads as it did. -/
def wireAskUptoRow : OpenClaim := { program := "ytabhjkaheghbhaa", sum := "30fa5535df50b917f306e51ca4e6af0fbafe9df7035c37e60df44dc458e5e628", func := "kindred/kindredlaw18.WireAsk", spec := "wireAsk", inPlace := ["internal/abi.NoEscape"], unfollowed := true, recurses := true, apart := false, narrowed := true }
def WireAskUptoSaid : Prop := wireAskUptoRow.holds Try.pinned (OpenSpec.upto wireAskSpec)

/-- 'kindredlaw18.WireBack', WHERE WHAT IT READS IS OF BULK AT MOST 1048576: true; the input reads as it did. -/
def wireBackUptoRow : OpenClaim := { program := "ytabhjkaheghbhaa", sum := "30fa5535df50b917f306e51ca4e6af0fbafe9df7035c37e60df44dc458e5e628", func := "kindred/kindredlaw18.WireBack", spec := "wireBack", inPlace := ["internal/abi.NoEscape"], unfollowed := true, recurses := true, apart := false, narrowed := true }
def WireBackUptoSaid : Prop := wireBackUptoRow.holds Try.pinned (OpenSpec.upto wireBackSpec)

/-- 'kindredlaw18.WireOnly', WHERE WHAT IT READS IS OF BULK AT MOST 1048576: true; the input reads as it did. -/
def wireOnlyUptoRow : OpenClaim := { program := "ytabhjkaheghbhaa", sum := "30fa5535df50b917f306e51ca4e6af0fbafe9df7035c37e60df44dc458e5e628", func := "kindred/kindredlaw18.WireOnly", spec := "wireOnly", inPlace := ["internal/abi.NoEscape"], unfollowed := true, recurses := true, apart := false, narrowed := true }
def WireOnlyUptoSaid : Prop := wireOnlyUptoRow.holds Try.pinned (OpenSpec.upto wireOnlySpec)

/-- 'kindredlaw18.WireMust', WHERE WHAT IT READS IS OF BULK AT MOST 1048576: true; the input reads as it did. -/
def wireMustUptoRow : OpenClaim := { program := "ytabhjkaheghbhaa", sum := "30fa5535df50b917f306e51ca4e6af0fbafe9df7035c37e60df44dc458e5e628", func := "kindred/kindredlaw18.WireMust", spec := "wireMust", inPlace := ["internal/abi.NoEscape"], unfollowed := true, recurses := true, apart := false, narrowed := true }
def WireMustUptoSaid : Prop := wireMustUptoRow.holds Try.pinned (OpenSpec.upto wireMustSpec)

end Rows
end Go.Proofs.Ytabhjkaheghbhaa
