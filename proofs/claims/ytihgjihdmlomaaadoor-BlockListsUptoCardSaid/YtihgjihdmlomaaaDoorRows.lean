/-
  NARROWER THAN 'FOR EVERY INPUT', by the rows' own cells (each row's printed sentence says how): BlockBuild: laid · BlockTwo: laid · BlockFound: laid · BlockSpoilt: laid · BlockLists: laid · BlockBack: laid · BlockOpens: laid · BlockLittle: laid.
  DERIVED. THE GIVEN ROWS OF THIS SEAT. 8 by the template 'for every input the law returns true; each argument reads behind the call as it read before'; 0 by the template 'total and deterministic' (their statements: YtihgjihdmlomaaaDoorTotals.lean).
  GIVEN WITH THE SEED: the statements are not yours to turn. If you find one false, say at which input.
  Laid BY PROGRAM, IN A SANDBOX (cutbox-rows.mjs): the forced cells as the released guide's own fill.sh prints them over the translation 3190ed77e7c4da58… (all of the seat's roots in one cut). By AI agents, Wed Nov 11 2026. No macro, syntax, notation, axiom, sorry.
-/
import Derived.Test.YtihgjihdmlomaaaDoorChecked
import GoSem.Claim
import GoSem.ClaimJoined
import GoSem.ClaimMapViews
import Derived.JoinedTies
import Derived.KernelRfl
namespace Go.Proofs.YtihgjihdmlomaaaDoor
/- THE CELL 'sum', in the pinned program and in every row, IS THE sha256 OF THE DUMP (.gsa) THAT YtihgjihdmlomaaaDoorProg.lean LOADS. Nothing in Lean hashes anything: it is a label: what it is worth is what the hold of that sum in a sandbox is worth. -/
noncomputable def Tryd.pinned : Pinned := { name := "ytihgjihdmlomaaadoor", sum := "3190ed77e7c4da58373b4b08303c7a8056f3a8ebcf83aa0becb97afe0194c916", checked := Tryd.checked }
namespace Rows
def none {H : Type} : Left H := { results := [], args := [] }

/- WHAT THE LISTED PACKAGE-LEVEL VARIABLES READ AS WHEN THE CALL BEGINS. Each datum BY PROGRAM (the guide's laid-datum.mjs) off the statement by which the dump's own 'gosem.cut.vars' lays the variable. In a bare row this is a premise. The card (YtihgjihdmlomaaaDoorCards.lean) ties it to the program's text. -/
def laid_kindred_seal_table {H : Type} : DataW H := .agg [.lit (.int .u32 0), .lit (.int .u32 274646895), .lit (.int .u32 549293790), .lit (.int .u32 820201905), .lit (.int .u32 1098587580), .lit (.int .u32 1361435347), .lit (.int .u32 1640403810), .lit (.int .u32 1905808397), .lit (.int .u32 2197175160), .lit (.int .u32 2460548119), .lit (.int .u32 2722870694), .lit (.int .u32 2987750089), .lit (.int .u32 3280807620), .lit (.int .u32 3553878443), .lit (.int .u32 3811616794), .lit (.int .u32 4084100981)]

/-- 'kindredlaw6.BlockBuild': WHATEVER THE INPUT: true; the input reads as it did. -/
def blockBuildSpec : ChangeSpec := { name := "blockBuild", fn := fun _ => fun
  | [d1, d2] => { results := [.lit (.bool true)], args := [d1, d2] }
  | _ => none }
def blockBuildRow : OpenClaim := { program := "ytihgjihdmlomaaadoor", sum := "3190ed77e7c4da58373b4b08303c7a8056f3a8ebcf83aa0becb97afe0194c916", func := "kindred/kindredlaw6.BlockBuild", spec := "blockBuild", inPlace := ["internal/bytealg.abigen_runtime_cmpstring", "internal/abi.NoEscape"], named := ["kindred/seal.table"], apart := false, laid := [("kindred/seal.table", laid_kindred_seal_table)] }
def BlockBuildSaid : Prop := blockBuildRow.holds Tryd.pinned (OpenSpec.ofChange blockBuildSpec)

/-- ITS FALSE NEIGHBOUR: 'it returns false'. Refute it at one input. -/
def blockBuildWrong : ChangeSpec := { name := "blockBuild", fn := fun _ => fun
  | [d1, d2] => { results := [.lit (.bool false)], args := [d1, d2] }
  | _ => none }
def BlockBuildWrongFalsely : Prop := blockBuildRow.holds Tryd.pinned (OpenSpec.ofChange blockBuildWrong)

/-- 'kindredlaw6.BlockTwo': WHATEVER THE INPUT: true; the input reads as it did. -/
def blockTwoSpec : ChangeSpec := { name := "blockTwo", fn := fun _ => fun
  | [d1, d2, d3] => { results := [.lit (.bool true)], args := [d1, d2, d3] }
  | _ => none }
def blockTwoRow : OpenClaim := { program := "ytihgjihdmlomaaadoor", sum := "3190ed77e7c4da58373b4b08303c7a8056f3a8ebcf83aa0becb97afe0194c916", func := "kindred/kindredlaw6.BlockTwo", spec := "blockTwo", inPlace := ["internal/bytealg.abigen_runtime_cmpstring", "internal/abi.NoEscape"], unfollowed := true, recurses := true, named := ["kindred/seal.table"], apart := false, laid := [("kindred/seal.table", laid_kindred_seal_table)] }
def BlockTwoSaid : Prop := blockTwoRow.holds Tryd.pinned (OpenSpec.ofChange blockTwoSpec)

/-- ITS FALSE NEIGHBOUR: 'it returns false'. Refute it at one input. -/
def blockTwoWrong : ChangeSpec := { name := "blockTwo", fn := fun _ => fun
  | [d1, d2, d3] => { results := [.lit (.bool false)], args := [d1, d2, d3] }
  | _ => none }
def BlockTwoWrongFalsely : Prop := blockTwoRow.holds Tryd.pinned (OpenSpec.ofChange blockTwoWrong)

/-- 'kindredlaw6.BlockFound': WHATEVER THE INPUT: true; the input reads as it did. -/
def blockFoundSpec : ChangeSpec := { name := "blockFound", fn := fun _ => fun
  | [d1, d2, d3, d4, d5] => { results := [.lit (.bool true)], args := [d1, d2, d3, d4, d5] }
  | _ => none }
def blockFoundRow : OpenClaim := { program := "ytihgjihdmlomaaadoor", sum := "3190ed77e7c4da58373b4b08303c7a8056f3a8ebcf83aa0becb97afe0194c916", func := "kindred/kindredlaw6.BlockFound", spec := "blockFound", inPlace := ["internal/bytealg.abigen_runtime_cmpstring", "internal/abi.NoEscape"], unfollowed := true, recurses := true, named := ["kindred/seal.table"], apart := false, laid := [("kindred/seal.table", laid_kindred_seal_table)] }
def BlockFoundSaid : Prop := blockFoundRow.holds Tryd.pinned (OpenSpec.ofChange blockFoundSpec)

/-- ITS FALSE NEIGHBOUR: 'it returns false'. Refute it at one input. -/
def blockFoundWrong : ChangeSpec := { name := "blockFound", fn := fun _ => fun
  | [d1, d2, d3, d4, d5] => { results := [.lit (.bool false)], args := [d1, d2, d3, d4, d5] }
  | _ => none }
def BlockFoundWrongFalsely : Prop := blockFoundRow.holds Tryd.pinned (OpenSpec.ofChange blockFoundWrong)

/-- 'kindredlaw6.BlockSpoilt': WHATEVER THE INPUT: true; the input reads as it did. -/
def blockSpoiltSpec : ChangeSpec := { name := "blockSpoilt", fn := fun _ => fun
  | [d1, d2, d3, d4, d5] => { results := [.lit (.bool true)], args := [d1, d2, d3, d4, d5] }
  | _ => none }
def blockSpoiltRow : OpenClaim := { program := "ytihgjihdmlomaaadoor", sum := "3190ed77e7c4da58373b4b08303c7a8056f3a8ebcf83aa0becb97afe0194c916", func := "kindred/kindredlaw6.BlockSpoilt", spec := "blockSpoilt", inPlace := ["internal/bytealg.abigen_runtime_cmpstring", "internal/abi.NoEscape"], unfollowed := true, recurses := true, named := ["kindred/seal.table"], apart := false, laid := [("kindred/seal.table", laid_kindred_seal_table)] }
def BlockSpoiltSaid : Prop := blockSpoiltRow.holds Tryd.pinned (OpenSpec.ofChange blockSpoiltSpec)

/-- ITS FALSE NEIGHBOUR: 'it returns false'. Refute it at one input. -/
def blockSpoiltWrong : ChangeSpec := { name := "blockSpoilt", fn := fun _ => fun
  | [d1, d2, d3, d4, d5] => { results := [.lit (.bool false)], args := [d1, d2, d3, d4, d5] }
  | _ => none }
def BlockSpoiltWrongFalsely : Prop := blockSpoiltRow.holds Tryd.pinned (OpenSpec.ofChange blockSpoiltWrong)

/-- 'kindredlaw6.BlockLists': WHATEVER THE INPUT: true; the input reads as it did. -/
def blockListsSpec : ChangeSpec := { name := "blockLists", fn := fun _ => fun
  | [d1, d2] => { results := [.lit (.bool true)], args := [d1, d2] }
  | _ => none }
def blockListsRow : OpenClaim := { program := "ytihgjihdmlomaaadoor", sum := "3190ed77e7c4da58373b4b08303c7a8056f3a8ebcf83aa0becb97afe0194c916", func := "kindred/kindredlaw6.BlockLists", spec := "blockLists", inPlace := ["internal/bytealg.abigen_runtime_cmpstring", "internal/abi.NoEscape"], unfollowed := true, recurses := true, named := ["kindred/seal.table"], apart := false, laid := [("kindred/seal.table", laid_kindred_seal_table)] }
def BlockListsSaid : Prop := blockListsRow.holds Tryd.pinned (OpenSpec.ofChange blockListsSpec)

/-- ITS FALSE NEIGHBOUR: 'it returns false'. Refute it at one input. -/
def blockListsWrong : ChangeSpec := { name := "blockLists", fn := fun _ => fun
  | [d1, d2] => { results := [.lit (.bool false)], args := [d1, d2] }
  | _ => none }
def BlockListsWrongFalsely : Prop := blockListsRow.holds Tryd.pinned (OpenSpec.ofChange blockListsWrong)

/-- 'kindredlaw6.BlockBack': WHATEVER THE INPUT: true; the input reads as it did. -/
def blockBackSpec : ChangeSpec := { name := "blockBack", fn := fun _ => fun
  | [d1, d2, d3] => { results := [.lit (.bool true)], args := [d1, d2, d3] }
  | _ => none }
def blockBackRow : OpenClaim := { program := "ytihgjihdmlomaaadoor", sum := "3190ed77e7c4da58373b4b08303c7a8056f3a8ebcf83aa0becb97afe0194c916", func := "kindred/kindredlaw6.BlockBack", spec := "blockBack", inPlace := ["internal/bytealg.abigen_runtime_cmpstring", "internal/abi.NoEscape"], unfollowed := true, recurses := true, named := ["kindred/seal.table"], apart := false, laid := [("kindred/seal.table", laid_kindred_seal_table)] }
def BlockBackSaid : Prop := blockBackRow.holds Tryd.pinned (OpenSpec.ofChange blockBackSpec)

/-- ITS FALSE NEIGHBOUR: 'it returns false'. Refute it at one input. -/
def blockBackWrong : ChangeSpec := { name := "blockBack", fn := fun _ => fun
  | [d1, d2, d3] => { results := [.lit (.bool false)], args := [d1, d2, d3] }
  | _ => none }
def BlockBackWrongFalsely : Prop := blockBackRow.holds Tryd.pinned (OpenSpec.ofChange blockBackWrong)

/-- 'kindredlaw6.BlockOpens': WHATEVER THE INPUT: true; the input reads as it did. -/
def blockOpensSpec : ChangeSpec := { name := "blockOpens", fn := fun _ => fun
  | [d1, d2] => { results := [.lit (.bool true)], args := [d1, d2] }
  | _ => none }
def blockOpensRow : OpenClaim := { program := "ytihgjihdmlomaaadoor", sum := "3190ed77e7c4da58373b4b08303c7a8056f3a8ebcf83aa0becb97afe0194c916", func := "kindred/kindredlaw6.BlockOpens", spec := "blockOpens", inPlace := ["internal/bytealg.abigen_runtime_cmpstring", "internal/abi.NoEscape"], unfollowed := true, recurses := true, named := ["kindred/seal.table"], apart := false, laid := [("kindred/seal.table", laid_kindred_seal_table)] }
def BlockOpensSaid : Prop := blockOpensRow.holds Tryd.pinned (OpenSpec.ofChange blockOpensSpec)

/-- ITS FALSE NEIGHBOUR: 'it returns false'. Refute it at one input. -/
def blockOpensWrong : ChangeSpec := { name := "blockOpens", fn := fun _ => fun
  | [d1, d2] => { results := [.lit (.bool false)], args := [d1, d2] }
  | _ => none }
def BlockOpensWrongFalsely : Prop := blockOpensRow.holds Tryd.pinned (OpenSpec.ofChange blockOpensWrong)

/-- 'kindredlaw6.BlockLittle': WHATEVER THE INPUT: true; the input reads as it did. -/
def blockLittleSpec : ChangeSpec := { name := "blockLittle", fn := fun _ => fun
  | [d1, d2, d3, d4] => { results := [.lit (.bool true)], args := [d1, d2, d3, d4] }
  | _ => none }
def blockLittleRow : OpenClaim := { program := "ytihgjihdmlomaaadoor", sum := "3190ed77e7c4da58373b4b08303c7a8056f3a8ebcf83aa0becb97afe0194c916", func := "kindred/kindredlaw6.BlockLittle", spec := "blockLittle", inPlace := ["internal/bytealg.abigen_runtime_cmpstring", "internal/abi.NoEscape"], unfollowed := true, recurses := true, named := ["kindred/seal.table"], apart := false, laid := [("kindred/seal.table", laid_kindred_seal_table)] }
def BlockLittleSaid : Prop := blockLittleRow.holds Tryd.pinned (OpenSpec.ofChange blockLittleSpec)

/-- ITS FALSE NEIGHBOUR: 'it returns false'. Refute it at one input. -/
def blockLittleWrong : ChangeSpec := { name := "blockLittle", fn := fun _ => fun
  | [d1, d2, d3, d4] => { results := [.lit (.bool false)], args := [d1, d2, d3, d4] }
  | _ => none }
def BlockLittleWrongFalsely : Prop := blockLittleRow.holds Tryd.pinned (OpenSpec.ofChange blockLittleWrong)

/- THE SECOND FORM. 'bulk': how many values and letters a reading holds, each counted each time it is reached (what is shared counts as often as it is met; a slice's spare places count too). A statement '..UptoSaid' is the law's where the arguments, and the package variables that the reading takes, are together of bulk at most 1048576: NARROWER than '..Said'. Prove '..Said' where nothing that the law and all that it calls make is longer than what came in: it says more and counts as full. Else prove '..UptoSaid'. A law counts once. -/
mutual
def uptoBulk {H : Type} : DataW H → Nat
  | .lit (.string bytes) => bytes.length + 1
  | .lit _ => 1
  | .nil => 1
  | .ptr d => uptoBulk d + 1
  | .slice elems spare => uptoBulkAll elems + uptoBulkAll spare + 1
  | .agg parts => uptoBulkAll parts + 1
  | .iface _ d => uptoBulk d + 1
  | .map entries => uptoBulkEntries entries + 1
  | .held _ => 1
def uptoBulkAll {H : Type} : List (DataW H) → Nat
  | [] => 0
  | d :: r => uptoBulk d + uptoBulkAll r
def uptoBulkEntries {H : Type} : List (Lit × DataW H) → Nat
  | [] => 0
  | x :: r => uptoBulkEntry x + uptoBulkEntries r
def uptoBulkEntry {H : Type} : Lit × DataW H → Nat
  | (.string bytes, d) => bytes.length + uptoBulk d + 1
  | (_, d) => uptoBulk d + 1
 end
def uptoSmall : (H : Type) → List (DataW H) → Bool := fun _ ds => decide (uptoBulkAll ds ≤ 1048576)
def OpenSpec.upto (s : _root_.Go.ChangeSpec) : _root_.Go.OpenSpec := { _root_.Go.OpenSpec.ofChange s with cond := some uptoSmall }

/-- 'kindredlaw6.BlockBuild', WHERE WHAT IT READS IS OF BULK AT MOST 1048576: true; the input reads as it did. -/
def blockBuildUptoRow : OpenClaim := { program := "ytihgjihdmlomaaadoor", sum := "3190ed77e7c4da58373b4b08303c7a8056f3a8ebcf83aa0becb97afe0194c916", func := "kindred/kindredlaw6.BlockBuild", spec := "blockBuild", inPlace := ["internal/bytealg.abigen_runtime_cmpstring", "internal/abi.NoEscape"], named := ["kindred/seal.table"], apart := false, laid := [("kindred/seal.table", laid_kindred_seal_table)], narrowed := true }
def BlockBuildUptoSaid : Prop := blockBuildUptoRow.holds Tryd.pinned (OpenSpec.upto blockBuildSpec)

/-- 'kindredlaw6.BlockTwo', WHERE WHAT IT READS IS OF BULK AT MOST 1048576: true; the input reads as it did. -/
def blockTwoUptoRow : OpenClaim := { program := "ytihgjihdmlomaaadoor", sum := "3190ed77e7c4da58373b4b08303c7a8056f3a8ebcf83aa0becb97afe0194c916", func := "kindred/kindredlaw6.BlockTwo", spec := "blockTwo", inPlace := ["internal/bytealg.abigen_runtime_cmpstring", "internal/abi.NoEscape"], unfollowed := true, recurses := true, named := ["kindred/seal.table"], apart := false, laid := [("kindred/seal.table", laid_kindred_seal_table)], narrowed := true }
def BlockTwoUptoSaid : Prop := blockTwoUptoRow.holds Tryd.pinned (OpenSpec.upto blockTwoSpec)

/-- 'kindredlaw6.BlockFound', WHERE WHAT IT READS IS OF BULK AT MOST 1048576: true; the input reads as it did. -/
def blockFoundUptoRow : OpenClaim := { program := "ytihgjihdmlomaaadoor", sum := "3190ed77e7c4da58373b4b08303c7a8056f3a8ebcf83aa0becb97afe0194c916", func := "kindred/kindredlaw6.BlockFound", spec := "blockFound", inPlace := ["internal/bytealg.abigen_runtime_cmpstring", "internal/abi.NoEscape"], unfollowed := true, recurses := true, named := ["kindred/seal.table"], apart := false, laid := [("kindred/seal.table", laid_kindred_seal_table)], narrowed := true }
def BlockFoundUptoSaid : Prop := blockFoundUptoRow.holds Tryd.pinned (OpenSpec.upto blockFoundSpec)

/-- 'kindredlaw6.BlockSpoilt', WHERE WHAT IT READS IS OF BULK AT MOST 1048576: true; the input reads as it did. -/
def blockSpoiltUptoRow : OpenClaim := { program := "ytihgjihdmlomaaadoor", sum := "3190ed77e7c4da58373b4b08303c7a8056f3a8ebcf83aa0becb97afe0194c916", func := "kindred/kindredlaw6.BlockSpoilt", spec := "blockSpoilt", inPlace := ["internal/bytealg.abigen_runtime_cmpstring", "internal/abi.NoEscape"], unfollowed := true, recurses := true, named := ["kindred/seal.table"], apart := false, laid := [("kindred/seal.table", laid_kindred_seal_table)], narrowed := true }
def BlockSpoiltUptoSaid : Prop := blockSpoiltUptoRow.holds Tryd.pinned (OpenSpec.upto blockSpoiltSpec)

/-- 'kindredlaw6.BlockLists', WHERE WHAT IT READS IS OF BULK AT MOST 1048576: true; the input reads as it did. -/
def blockListsUptoRow : OpenClaim := { program := "ytihgjihdmlomaaadoor", sum := "3190ed77e7c4da58373b4b08303c7a8056f3a8ebcf83aa0becb97afe0194c916", func := "kindred/kindredlaw6.BlockLists", spec := "blockLists", inPlace := ["internal/bytealg.abigen_runtime_cmpstring", "internal/abi.NoEscape"], unfollowed := true, recurses := true, named := ["kindred/seal.table"], apart := false, laid := [("kindred/seal.table", laid_kindred_seal_table)], narrowed := true }
def BlockListsUptoSaid : Prop := blockListsUptoRow.holds Tryd.pinned (OpenSpec.upto blockListsSpec)

/-- 'kindredlaw6.BlockBack', WHERE WHAT IT READS IS OF BULK AT MOST 1048576: true; the input reads as it did. -/
def blockBackUptoRow : OpenClaim := { program := "ytihgjihdmlomaaadoor", sum := "3190ed77e7c4da58373b4b08303c7a8056f3a8ebcf83aa0becb97afe0194c916", func := "kindred/kindredlaw6.BlockBack", spec := "blockBack", inPlace := ["internal/bytealg.abigen_runtime_cmpstring", "internal/abi.NoEscape"], unfollowed := true, recurses := true, named := ["kindred/seal.table"], apart := false, laid := [("kindred/seal.table", laid_kindred_seal_table)], narrowed := true }
def BlockBackUptoSaid : Prop := blockBackUptoRow.holds Tryd.pinned (OpenSpec.upto blockBackSpec)

/-- 'kindredlaw6.BlockOpens', WHERE WHAT IT READS IS OF BULK AT MOST 1048576: true; the input reads as it did. -/
def blockOpensUptoRow : OpenClaim := { program := "ytihgjihdmlomaaadoor", sum := "3190ed77e7c4da58373b4b08303c7a8056f3a8ebcf83aa0becb97afe0194c916", func := "kindred/kindredlaw6.BlockOpens", spec := "blockOpens", inPlace := ["internal/bytealg.abigen_runtime_cmpstring", "internal/abi.NoEscape"], unfollowed := true, recurses := true, named := ["kindred/seal.table"], apart := false, laid := [("kindred/seal.table", laid_kindred_seal_table)], narrowed := true }
def BlockOpensUptoSaid : Prop := blockOpensUptoRow.holds Tryd.pinned (OpenSpec.upto blockOpensSpec)

/-- 'kindredlaw6.BlockLittle', WHERE WHAT IT READS IS OF BULK AT MOST 1048576: true; the input reads as it did. -/
def blockLittleUptoRow : OpenClaim := { program := "ytihgjihdmlomaaadoor", sum := "3190ed77e7c4da58373b4b08303c7a8056f3a8ebcf83aa0becb97afe0194c916", func := "kindred/kindredlaw6.BlockLittle", spec := "blockLittle", inPlace := ["internal/bytealg.abigen_runtime_cmpstring", "internal/abi.NoEscape"], unfollowed := true, recurses := true, named := ["kindred/seal.table"], apart := false, laid := [("kindred/seal.table", laid_kindred_seal_table)], narrowed := true }
def BlockLittleUptoSaid : Prop := blockLittleUptoRow.holds Tryd.pinned (OpenSpec.upto blockLittleSpec)

end Rows
end Go.Proofs.YtihgjihdmlomaaaDoor
