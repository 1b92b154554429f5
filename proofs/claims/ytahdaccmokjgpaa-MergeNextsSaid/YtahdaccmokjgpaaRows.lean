/-
  No cell of these rows narrows 'for every input' (looked for: loops, veiled, ifaces, maps, wideKeys, modest, calm, conditions, laid).
  DERIVED. THE GIVEN ROWS OF THIS SEAT. 7 by the template 'for every input the law returns true; each argument reads behind the call as it read before'; 0 by the template 'total and deterministic' (their statements: YtahdaccmokjgpaaTotals.lean).
  GIVEN WITH THE SEED: the statements are not yours to turn. If you find one false, say at which input.
  Laid BY PROGRAM, IN A SANDBOX (cutbox-rows.mjs): the forced cells as the released guide's own fill.sh prints them over the translation 87bdffec8ced1bbf… (all of the seat's roots in one cut). By AI agents, Wed Nov 11 2026. No macro, syntax, notation, axiom, sorry.
-/
import Derived.Test.YtahdaccmokjgpaaChecked
import GoSem.Claim
import GoSem.ClaimJoined
import GoSem.ClaimMapViews
import Derived.JoinedTies
import Derived.KernelRfl
namespace Go.Proofs.Ytahdaccmokjgpaa
/- THE CELL 'sum', in the pinned program and in every row, IS THE sha256 OF THE DUMP (.gsa) THAT YtahdaccmokjgpaaProg.lean LOADS. Nothing in Lean hashes anything: it is a label: what it is worth is what the hold of that sum in a sandbox is worth. -/
noncomputable def Try.pinned : Pinned := { name := "ytahdaccmokjgpaa", sum := "87bdffec8ced1bbfe7138854b086ebb18d9466a91977041682df40f6e8d43f21", checked := Try.checked }
namespace Rows
def none {H : Type} : Left H := { results := [], args := [] }

/-- 'kindredlaw7.MergeNames': WHATEVER THE INPUT: true; the input reads as it did. -/
def mergeNamesSpec : ChangeSpec := { name := "mergeNames", fn := fun _ => fun
  | [] => { results := [.lit (.bool true)], args := [] }
  | _ => none }
def mergeNamesRow : OpenClaim := { program := "ytahdaccmokjgpaa", sum := "87bdffec8ced1bbfe7138854b086ebb18d9466a91977041682df40f6e8d43f21", func := "kindred/kindredlaw7.MergeNames", spec := "mergeNames", apart := false }
def MergeNamesSaid : Prop := mergeNamesRow.holds Try.pinned (OpenSpec.ofChange mergeNamesSpec)

/-- ITS FALSE NEIGHBOUR: 'it returns false'. Refute it at one input. -/
def mergeNamesWrong : ChangeSpec := { name := "mergeNames", fn := fun _ => fun
  | [] => { results := [.lit (.bool false)], args := [] }
  | _ => none }
def MergeNamesWrongFalsely : Prop := mergeNamesRow.holds Try.pinned (OpenSpec.ofChange mergeNamesWrong)

/-- 'kindredlaw7.MergeOrder': WHATEVER THE INPUT: true; the input reads as it did. -/
def mergeOrderSpec : ChangeSpec := { name := "mergeOrder", fn := fun _ => fun
  | [d1, d2, d3] => { results := [.lit (.bool true)], args := [d1, d2, d3] }
  | _ => none }
def mergeOrderRow : OpenClaim := { program := "ytahdaccmokjgpaa", sum := "87bdffec8ced1bbfe7138854b086ebb18d9466a91977041682df40f6e8d43f21", func := "kindred/kindredlaw7.MergeOrder", spec := "mergeOrder", apart := false }
def MergeOrderSaid : Prop := mergeOrderRow.holds Try.pinned (OpenSpec.ofChange mergeOrderSpec)

/-- ITS FALSE NEIGHBOUR: 'it returns false'. Refute it at one input. -/
def mergeOrderWrong : ChangeSpec := { name := "mergeOrder", fn := fun _ => fun
  | [d1, d2, d3] => { results := [.lit (.bool false)], args := [d1, d2, d3] }
  | _ => none }
def MergeOrderWrongFalsely : Prop := mergeOrderRow.holds Try.pinned (OpenSpec.ofChange mergeOrderWrong)

/-- 'kindredlaw7.MergeNexts': WHATEVER THE INPUT: true; the input reads as it did. -/
def mergeNextsSpec : ChangeSpec := { name := "mergeNexts", fn := fun _ => fun
  | [d1, d2, d3] => { results := [.lit (.bool true)], args := [d1, d2, d3] }
  | _ => none }
def mergeNextsRow : OpenClaim := { program := "ytahdaccmokjgpaa", sum := "87bdffec8ced1bbfe7138854b086ebb18d9466a91977041682df40f6e8d43f21", func := "kindred/kindredlaw7.MergeNexts", spec := "mergeNexts", unfollowed := true, recurses := true, apart := false }
def MergeNextsSaid : Prop := mergeNextsRow.holds Try.pinned (OpenSpec.ofChange mergeNextsSpec)

/-- ITS FALSE NEIGHBOUR: 'it returns false'. Refute it at one input. -/
def mergeNextsWrong : ChangeSpec := { name := "mergeNexts", fn := fun _ => fun
  | [d1, d2, d3] => { results := [.lit (.bool false)], args := [d1, d2, d3] }
  | _ => none }
def MergeNextsWrongFalsely : Prop := mergeNextsRow.holds Try.pinned (OpenSpec.ofChange mergeNextsWrong)

/-- 'kindredlaw7.MergeLists': WHATEVER THE INPUT: true; the input reads as it did. -/
def mergeListsSpec : ChangeSpec := { name := "mergeLists", fn := fun _ => fun
  | [d1, d2] => { results := [.lit (.bool true)], args := [d1, d2] }
  | _ => none }
def mergeListsRow : OpenClaim := { program := "ytahdaccmokjgpaa", sum := "87bdffec8ced1bbfe7138854b086ebb18d9466a91977041682df40f6e8d43f21", func := "kindred/kindredlaw7.MergeLists", spec := "mergeLists", unfollowed := true, recurses := true, apart := false }
def MergeListsSaid : Prop := mergeListsRow.holds Try.pinned (OpenSpec.ofChange mergeListsSpec)

/-- ITS FALSE NEIGHBOUR: 'it returns false'. Refute it at one input. -/
def mergeListsWrong : ChangeSpec := { name := "mergeLists", fn := fun _ => fun
  | [d1, d2] => { results := [.lit (.bool false)], args := [d1, d2] }
  | _ => none }
def MergeListsWrongFalsely : Prop := mergeListsRow.holds Try.pinned (OpenSpec.ofChange mergeListsWrong)

/-- 'kindredlaw7.MergeLastWord': WHATEVER THE INPUT: true; the input reads as it did. -/
def mergeLastWordSpec : ChangeSpec := { name := "mergeLastWord", fn := fun _ => fun
  | [d1, d2] => { results := [.lit (.bool true)], args := [d1, d2] }
  | _ => none }
def mergeLastWordRow : OpenClaim := { program := "ytahdaccmokjgpaa", sum := "87bdffec8ced1bbfe7138854b086ebb18d9466a91977041682df40f6e8d43f21", func := "kindred/kindredlaw7.MergeLastWord", spec := "mergeLastWord", unfollowed := true, recurses := true, apart := false }
def MergeLastWordSaid : Prop := mergeLastWordRow.holds Try.pinned (OpenSpec.ofChange mergeLastWordSpec)

/-- ITS FALSE NEIGHBOUR: 'it returns false'. Refute it at one input. -/
def mergeLastWordWrong : ChangeSpec := { name := "mergeLastWord", fn := fun _ => fun
  | [d1, d2] => { results := [.lit (.bool false)], args := [d1, d2] }
  | _ => none }
def MergeLastWordWrongFalsely : Prop := mergeLastWordRow.holds Try.pinned (OpenSpec.ofChange mergeLastWordWrong)

/-- 'kindredlaw7.MergeGroups': WHATEVER THE INPUT: true; the input reads as it did. -/
def mergeGroupsSpec : ChangeSpec := { name := "mergeGroups", fn := fun _ => fun
  | [d1, d2, d3, d4, d5] => { results := [.lit (.bool true)], args := [d1, d2, d3, d4, d5] }
  | _ => none }
def mergeGroupsRow : OpenClaim := { program := "ytahdaccmokjgpaa", sum := "87bdffec8ced1bbfe7138854b086ebb18d9466a91977041682df40f6e8d43f21", func := "kindred/kindredlaw7.MergeGroups", spec := "mergeGroups", unfollowed := true, recurses := true, apart := false }
def MergeGroupsSaid : Prop := mergeGroupsRow.holds Try.pinned (OpenSpec.ofChange mergeGroupsSpec)

/-- ITS FALSE NEIGHBOUR: 'it returns false'. Refute it at one input. -/
def mergeGroupsWrong : ChangeSpec := { name := "mergeGroups", fn := fun _ => fun
  | [d1, d2, d3, d4, d5] => { results := [.lit (.bool false)], args := [d1, d2, d3, d4, d5] }
  | _ => none }
def MergeGroupsWrongFalsely : Prop := mergeGroupsRow.holds Try.pinned (OpenSpec.ofChange mergeGroupsWrong)

/-- 'kindredlaw7.MergeOneByOne': WHATEVER THE INPUT: true; the input reads as it did. -/
def mergeOneByOneSpec : ChangeSpec := { name := "mergeOneByOne", fn := fun _ => fun
  | [d1, d2, d3] => { results := [.lit (.bool true)], args := [d1, d2, d3] }
  | _ => none }
def mergeOneByOneRow : OpenClaim := { program := "ytahdaccmokjgpaa", sum := "87bdffec8ced1bbfe7138854b086ebb18d9466a91977041682df40f6e8d43f21", func := "kindred/kindredlaw7.MergeOneByOne", spec := "mergeOneByOne", unfollowed := true, recurses := true, apart := false }
def MergeOneByOneSaid : Prop := mergeOneByOneRow.holds Try.pinned (OpenSpec.ofChange mergeOneByOneSpec)

/-- ITS FALSE NEIGHBOUR: 'it returns false'. Refute it at one input. -/
def mergeOneByOneWrong : ChangeSpec := { name := "mergeOneByOne", fn := fun _ => fun
  | [d1, d2, d3] => { results := [.lit (.bool false)], args := [d1, d2, d3] }
  | _ => none }
def MergeOneByOneWrongFalsely : Prop := mergeOneByOneRow.holds Try.pinned (OpenSpec.ofChange mergeOneByOneWrong)

/- THE SECOND FORM. 'bulk': how many values and letters a reading holds, each counted each time it is reached (what is shared counts as often as it is met; a slice's spare places count too). A statement '..UptoSaid' is the law's where the arguments, and the package variables that the reading takes, are together of bulk at most 1048576: NARROWER than '..Said'. Prove '..Said' where nothing that the law and all that it calls make is longer than what came in: it says more and counts as full. Else prove '..UptoSaid'. A law counts once. -/
mutual
def uptoBulk {H : Type} : DataW H → Nat
  | .lit (.string bytes) => bytes.length + 1
  | .lit _ => 1
  | .nil => 1
  | .ptr d => uptoBulk d + 1
  | .slice elems spare => uptoBulkAll elems + uptoBulkAll spare + 1
  | .agg parts => uptoBulkAll parts + 1
  | .iface _ d => uptoBulk d + 1
  | .map entries => uptoBulkEntries entries + 1
  | .held _ => 1
def uptoBulkAll {H : Type} : List (DataW H) → Nat
  | [] => 0
  | d :: r => uptoBulk d + uptoBulkAll r
def uptoBulkEntries {H : Type} : List (Lit × DataW H) → Nat
  | [] => 0
  | x :: r => uptoBulkEntry x + uptoBulkEntries r
def uptoBulkEntry {H : Type} : Lit × DataW H → Nat
  | (.string bytes, d) => bytes.length + uptoBulk d + 1
  | (_, d) => uptoBulk d + 1
 end
def uptoSmall : (H : Type) → List (DataW H) → Bool := fun _ ds => decide (uptoBulkAll ds ≤ 1048576)
def OpenSpec.upto (s : _root_.Go.ChangeSpec) : _root_.Go.OpenSpec := { _root_.Go.OpenSpec.ofChange s with cond := some uptoSmall }

/-- 'kindredlaw7.MergeNames', WHERE WHAT IT READS IS OF BULK AT MOST 1048576: true; the input reads as it did. -/
def mergeNamesUptoRow : OpenClaim := { program := "ytahdaccmokjgpaa", sum := "87bdffec8ced1bbfe7138854b086ebb18d9466a91977041682df40f6e8d43f21", func := "kindred/kindredlaw7.MergeNames", spec := "mergeNames", apart := false, narrowed := true }
def MergeNamesUptoSaid : Prop := mergeNamesUptoRow.holds Try.pinned (OpenSpec.upto mergeNamesSpec)

/-- 'kindredlaw7.MergeOrder', WHERE WHAT IT READS IS OF BULK AT MOST 1048576: true; the input reads as it did. -/
def mergeOrderUptoRow : OpenClaim := { program := "ytahdaccmokjgpaa", sum := "87bdffec8ced1bbfe7138854b086ebb18d9466a91977041682df40f6e8d43f21", func := "kindred/kindredlaw7.MergeOrder", spec := "mergeOrder", apart := false, narrowed := true }
def MergeOrderUptoSaid : Prop := mergeOrderUptoRow.holds Try.pinned (OpenSpec.upto mergeOrderSpec)

/-- 'kindredlaw7.MergeNexts', WHERE WHAT IT READS IS OF BULK AT MOST 1048576: true; the input reads as it did. -/
def mergeNextsUptoRow : OpenClaim := { program := "ytahdaccmokjgpaa", sum := "87bdffec8ced1bbfe7138854b086ebb18d9466a91977041682df40f6e8d43f21", func := "kindred/kindredlaw7.MergeNexts", spec := "mergeNexts", unfollowed := true, recurses := true, apart := false, narrowed := true }
def MergeNextsUptoSaid : Prop := mergeNextsUptoRow.holds Try.pinned (OpenSpec.upto mergeNextsSpec)

/-- 'kindredlaw7.MergeLists', WHERE WHAT IT READS IS OF BULK AT MOST 1048576: true; the input reads as it did. -/
def mergeListsUptoRow : OpenClaim := { program := "ytahdaccmokjgpaa", sum := "87bdffec8ced1bbfe7138854b086ebb18d9466a91977041682df40f6e8d43f21", func := "kindred/kindredlaw7.MergeLists", spec := "mergeLists", unfollowed := true, recurses := true, apart := false, narrowed := true }
def MergeListsUptoSaid : Prop := mergeListsUptoRow.holds Try.pinned (OpenSpec.upto mergeListsSpec)

/-- 'kindredlaw7.MergeLastWord', WHERE WHAT IT READS IS OF BULK AT MOST 1048576: true; the input reads as it did. -/
def mergeLastWordUptoRow : OpenClaim := { program := "ytahdaccmokjgpaa", sum := "87bdffec8ced1bbfe7138854b086ebb18d9466a91977041682df40f6e8d43f21", func := "kindred/kindredlaw7.MergeLastWord", spec := "mergeLastWord", unfollowed := true, recurses := true, apart := false, narrowed := true }
def MergeLastWordUptoSaid : Prop := mergeLastWordUptoRow.holds Try.pinned (OpenSpec.upto mergeLastWordSpec)

/-- 'kindredlaw7.MergeGroups', WHERE WHAT IT READS IS OF BULK AT MOST 1048576: true; the input reads as it did. -/
def mergeGroupsUptoRow : OpenClaim := { program := "ytahdaccmokjgpaa", sum := "87bdffec8ced1bbfe7138854b086ebb18d9466a91977041682df40f6e8d43f21", func := "kindred/kindredlaw7.MergeGroups", spec := "mergeGroups", unfollowed := true, recurses := true, apart := false, narrowed := true }
def MergeGroupsUptoSaid : Prop := mergeGroupsUptoRow.holds Try.pinned (OpenSpec.upto mergeGroupsSpec)

/-- 'kindredlaw7.MergeOneByOne', WHERE WHAT IT READS IS OF BULK AT MOST 1048576: true; the input reads as it did. -/
def mergeOneByOneUptoRow : OpenClaim := { program := "ytahdaccmokjgpaa", sum := "87bdffec8ced1bbfe7138854b086ebb18d9466a91977041682df40f6e8d43f21", func := "kindred/kindredlaw7.MergeOneByOne", spec := "mergeOneByOne", unfollowed := true, recurses := true, apart := false, narrowed := true }
def MergeOneByOneUptoSaid : Prop := mergeOneByOneUptoRow.holds Try.pinned (OpenSpec.upto mergeOneByOneSpec)

end Rows
end Go.Proofs.Ytahdaccmokjgpaa
