/-
  NARROWER THAN 'FOR EVERY INPUT', by the rows' own cells (each row's printed sentence says how): SealSums: laid · SealFrame: laid · SealParse: laid · SealFrames: laid · SealJoins: laid · SealSpoilt: laid · SealOnly: laid · SealTorn: laid.
  DERIVED. THE GIVEN ROWS OF THIS SEAT. 8 by the template 'for every input the law returns true; each argument reads behind the call as it read before'; 0 by the template 'total and deterministic' (their statements: YtebbmifpidbdlaaDoorTotals.lean).
  GIVEN WITH THE SEED: the statements are not yours to turn. If you find one false, say at which input.
  Laid BY PROGRAM, IN A SANDBOX (cutbox-rows.mjs): the forced cells as the released guide's own fill.sh prints them over the translation cf423d5bb8147f8f… (all of the seat's roots in one cut). By AI agents, Wed Nov 11 2026. No macro, syntax, notation, axiom, sorry.
-/
import Derived.Test.YtebbmifpidbdlaaDoorChecked
import GoSem.Claim
import GoSem.ClaimJoined
import GoSem.ClaimMapViews
import Derived.JoinedTies
import Derived.KernelRfl
namespace Go.Proofs.YtebbmifpidbdlaaDoor
/- THE CELL 'sum', in the pinned program and in every row, IS THE sha256 OF THE DUMP (.gsa) THAT YtebbmifpidbdlaaDoorProg.lean LOADS. Nothing in Lean hashes anything: it is a label: what it is worth is what the hold of that sum in a sandbox is worth. -/
noncomputable def Tryd.pinned : Pinned := { name := "ytebbmifpidbdlaadoor", sum := "cf423d5bb8147f8f23742b68b1292e0f392e89368b85f61c7f7d42cc0ad9af5b", checked := Tryd.checked }
namespace Rows
def none {H : Type} : Left H := { results := [], args := [] }

/- WHAT THE LISTED PACKAGE-LEVEL VARIABLES READ AS WHEN THE CALL BEGINS. Each datum BY PROGRAM (the guide's laid-datum.mjs) off the statement by which the dump's own 'gosem.cut.vars' lays the variable. In a bare row this is a premise. The card (YtebbmifpidbdlaaDoorCards.lean) ties it to the program's text. -/
def laid_kindred_seal_table {H : Type} : DataW H := .agg [.lit (.int .u32 0), .lit (.int .u32 274646895), .lit (.int .u32 549293790), .lit (.int .u32 820201905), .lit (.int .u32 1098587580), .lit (.int .u32 1361435347), .lit (.int .u32 1640403810), .lit (.int .u32 1905808397), .lit (.int .u32 2197175160), .lit (.int .u32 2460548119), .lit (.int .u32 2722870694), .lit (.int .u32 2987750089), .lit (.int .u32 3280807620), .lit (.int .u32 3553878443), .lit (.int .u32 3811616794), .lit (.int .u32 4084100981)]

/-- 'kindredlaw3.SealSums': WHATEVER THE INPUT: true; the input reads as it did. -/
def sealSumsSpec : ChangeSpec := { name := "sealSums", fn := fun _ => fun
  | [d1, d2] => { results := [.lit (.bool true)], args := [d1, d2] }
  | _ => none }
def sealSumsRow : OpenClaim := { program := "ytebbmifpidbdlaadoor", sum := "cf423d5bb8147f8f23742b68b1292e0f392e89368b85f61c7f7d42cc0ad9af5b", func := "kindred/kindredlaw3.SealSums", spec := "sealSums", named := ["kindred/seal.table"], apart := false, laid := [("kindred/seal.table", laid_kindred_seal_table)] }
def SealSumsSaid : Prop := sealSumsRow.holds Tryd.pinned (OpenSpec.ofChange sealSumsSpec)

/-- ITS FALSE NEIGHBOUR: 'it returns false'. Refute it at one input. -/
def sealSumsWrong : ChangeSpec := { name := "sealSums", fn := fun _ => fun
  | [d1, d2] => { results := [.lit (.bool false)], args := [d1, d2] }
  | _ => none }
def SealSumsWrongFalsely : Prop := sealSumsRow.holds Tryd.pinned (OpenSpec.ofChange sealSumsWrong)

/-- 'kindredlaw3.SealFrame': WHATEVER THE INPUT: true; the input reads as it did. -/
def sealFrameSpec : ChangeSpec := { name := "sealFrame", fn := fun _ => fun
  | [d1, d2] => { results := [.lit (.bool true)], args := [d1, d2] }
  | _ => none }
def sealFrameRow : OpenClaim := { program := "ytebbmifpidbdlaadoor", sum := "cf423d5bb8147f8f23742b68b1292e0f392e89368b85f61c7f7d42cc0ad9af5b", func := "kindred/kindredlaw3.SealFrame", spec := "sealFrame", named := ["kindred/seal.table"], apart := false, laid := [("kindred/seal.table", laid_kindred_seal_table)] }
def SealFrameSaid : Prop := sealFrameRow.holds Tryd.pinned (OpenSpec.ofChange sealFrameSpec)

/-- ITS FALSE NEIGHBOUR: 'it returns false'. Refute it at one input. -/
def sealFrameWrong : ChangeSpec := { name := "sealFrame", fn := fun _ => fun
  | [d1, d2] => { results := [.lit (.bool false)], args := [d1, d2] }
  | _ => none }
def SealFrameWrongFalsely : Prop := sealFrameRow.holds Tryd.pinned (OpenSpec.ofChange sealFrameWrong)

/-- 'kindredlaw3.SealParse': WHATEVER THE INPUT: true; the input reads as it did. -/
def sealParseSpec : ChangeSpec := { name := "sealParse", fn := fun _ => fun
  | [d1, d2] => { results := [.lit (.bool true)], args := [d1, d2] }
  | _ => none }
def sealParseRow : OpenClaim := { program := "ytebbmifpidbdlaadoor", sum := "cf423d5bb8147f8f23742b68b1292e0f392e89368b85f61c7f7d42cc0ad9af5b", func := "kindred/kindredlaw3.SealParse", spec := "sealParse", unfollowed := true, recurses := true, named := ["kindred/seal.table"], apart := false, laid := [("kindred/seal.table", laid_kindred_seal_table)] }
def SealParseSaid : Prop := sealParseRow.holds Tryd.pinned (OpenSpec.ofChange sealParseSpec)

/-- ITS FALSE NEIGHBOUR: 'it returns false'. Refute it at one input. -/
def sealParseWrong : ChangeSpec := { name := "sealParse", fn := fun _ => fun
  | [d1, d2] => { results := [.lit (.bool false)], args := [d1, d2] }
  | _ => none }
def SealParseWrongFalsely : Prop := sealParseRow.holds Tryd.pinned (OpenSpec.ofChange sealParseWrong)

/-- 'kindredlaw3.SealFrames': WHATEVER THE INPUT: true; the input reads as it did. -/
def sealFramesSpec : ChangeSpec := { name := "sealFrames", fn := fun _ => fun
  | [d] => { results := [.lit (.bool true)], args := [d] }
  | _ => none }
def sealFramesRow : OpenClaim := { program := "ytebbmifpidbdlaadoor", sum := "cf423d5bb8147f8f23742b68b1292e0f392e89368b85f61c7f7d42cc0ad9af5b", func := "kindred/kindredlaw3.SealFrames", spec := "sealFrames", unfollowed := true, recurses := true, named := ["kindred/seal.table"], apart := false, laid := [("kindred/seal.table", laid_kindred_seal_table)] }
def SealFramesSaid : Prop := sealFramesRow.holds Tryd.pinned (OpenSpec.ofChange sealFramesSpec)

/-- ITS FALSE NEIGHBOUR: 'it returns false'. Refute it at one input. -/
def sealFramesWrong : ChangeSpec := { name := "sealFrames", fn := fun _ => fun
  | [d] => { results := [.lit (.bool false)], args := [d] }
  | _ => none }
def SealFramesWrongFalsely : Prop := sealFramesRow.holds Tryd.pinned (OpenSpec.ofChange sealFramesWrong)

/-- 'kindredlaw3.SealJoins': WHATEVER THE INPUT: true; the input reads as it did. -/
def sealJoinsSpec : ChangeSpec := { name := "sealJoins", fn := fun _ => fun
  | [d1, d2] => { results := [.lit (.bool true)], args := [d1, d2] }
  | _ => none }
def sealJoinsRow : OpenClaim := { program := "ytebbmifpidbdlaadoor", sum := "cf423d5bb8147f8f23742b68b1292e0f392e89368b85f61c7f7d42cc0ad9af5b", func := "kindred/kindredlaw3.SealJoins", spec := "sealJoins", unfollowed := true, recurses := true, named := ["kindred/seal.table"], apart := false, laid := [("kindred/seal.table", laid_kindred_seal_table)] }
def SealJoinsSaid : Prop := sealJoinsRow.holds Tryd.pinned (OpenSpec.ofChange sealJoinsSpec)

/-- ITS FALSE NEIGHBOUR: 'it returns false'. Refute it at one input. -/
def sealJoinsWrong : ChangeSpec := { name := "sealJoins", fn := fun _ => fun
  | [d1, d2] => { results := [.lit (.bool false)], args := [d1, d2] }
  | _ => none }
def SealJoinsWrongFalsely : Prop := sealJoinsRow.holds Tryd.pinned (OpenSpec.ofChange sealJoinsWrong)

/-- 'kindredlaw3.SealSpoilt': WHATEVER THE INPUT: true; the input reads as it did. -/
def sealSpoiltSpec : ChangeSpec := { name := "sealSpoilt", fn := fun _ => fun
  | [d1, d2, d3, d4, d5] => { results := [.lit (.bool true)], args := [d1, d2, d3, d4, d5] }
  | _ => none }
def sealSpoiltRow : OpenClaim := { program := "ytebbmifpidbdlaadoor", sum := "cf423d5bb8147f8f23742b68b1292e0f392e89368b85f61c7f7d42cc0ad9af5b", func := "kindred/kindredlaw3.SealSpoilt", spec := "sealSpoilt", unfollowed := true, recurses := true, named := ["kindred/seal.table"], apart := false, laid := [("kindred/seal.table", laid_kindred_seal_table)] }
def SealSpoiltSaid : Prop := sealSpoiltRow.holds Tryd.pinned (OpenSpec.ofChange sealSpoiltSpec)

/-- ITS FALSE NEIGHBOUR: 'it returns false'. Refute it at one input. -/
def sealSpoiltWrong : ChangeSpec := { name := "sealSpoilt", fn := fun _ => fun
  | [d1, d2, d3, d4, d5] => { results := [.lit (.bool false)], args := [d1, d2, d3, d4, d5] }
  | _ => none }
def SealSpoiltWrongFalsely : Prop := sealSpoiltRow.holds Tryd.pinned (OpenSpec.ofChange sealSpoiltWrong)

/-- 'kindredlaw3.SealOnly': WHATEVER THE INPUT: true; the input reads as it did. -/
def sealOnlySpec : ChangeSpec := { name := "sealOnly", fn := fun _ => fun
  | [d1, d2, d3, d4] => { results := [.lit (.bool true)], args := [d1, d2, d3, d4] }
  | _ => none }
def sealOnlyRow : OpenClaim := { program := "ytebbmifpidbdlaadoor", sum := "cf423d5bb8147f8f23742b68b1292e0f392e89368b85f61c7f7d42cc0ad9af5b", func := "kindred/kindredlaw3.SealOnly", spec := "sealOnly", unfollowed := true, recurses := true, named := ["kindred/seal.table"], apart := false, laid := [("kindred/seal.table", laid_kindred_seal_table)] }
def SealOnlySaid : Prop := sealOnlyRow.holds Tryd.pinned (OpenSpec.ofChange sealOnlySpec)

/-- ITS FALSE NEIGHBOUR: 'it returns false'. Refute it at one input. -/
def sealOnlyWrong : ChangeSpec := { name := "sealOnly", fn := fun _ => fun
  | [d1, d2, d3, d4] => { results := [.lit (.bool false)], args := [d1, d2, d3, d4] }
  | _ => none }
def SealOnlyWrongFalsely : Prop := sealOnlyRow.holds Tryd.pinned (OpenSpec.ofChange sealOnlyWrong)

/-- 'kindredlaw3.SealTorn': WHATEVER THE INPUT: true; the input reads as it did. -/
def sealTornSpec : ChangeSpec := { name := "sealTorn", fn := fun _ => fun
  | [d1, d2, d3, d4, d5] => { results := [.lit (.bool true)], args := [d1, d2, d3, d4, d5] }
  | _ => none }
def sealTornRow : OpenClaim := { program := "ytebbmifpidbdlaadoor", sum := "cf423d5bb8147f8f23742b68b1292e0f392e89368b85f61c7f7d42cc0ad9af5b", func := "kindred/kindredlaw3.SealTorn", spec := "sealTorn", unfollowed := true, recurses := true, named := ["kindred/seal.table"], apart := false, laid := [("kindred/seal.table", laid_kindred_seal_table)] }
def SealTornSaid : Prop := sealTornRow.holds Tryd.pinned (OpenSpec.ofChange sealTornSpec)

/-- ITS FALSE NEIGHBOUR: 'it returns false'. Refute it at one input. -/
def sealTornWrong : ChangeSpec := { name := "sealTorn", fn := fun _ => fun
  | [d1, d2, d3, d4, d5] => { results := [.lit (.bool false)], args := [d1, d2, d3, d4, d5] }
  | _ => none }
def SealTornWrongFalsely : Prop := sealTornRow.holds Tryd.pinned (OpenSpec.ofChange sealTornWrong)

/- THE SECOND FORM. 'bulk': how many values and letters a reading holds, each counted each time it is reached (what is shared counts as often as it is met; a slice's spare places count too). A statement '..UptoSaid' is the law's where the arguments, and the package variables that the reading takes, are together of bulk at most 1048576: NARROWER than '..Said'. Prove '..Said' where nothing that the law and all that it calls make is longer than what came in: it says more and counts as full. Else prove '..UptoSaid'. A law counts once. -/
mutual
def uptoBulk {H : Type} : DataW H → Nat
  | .lit (.string bytes) => bytes.length + 1
  | .lit _ => 1
  | .nil => 1
  | .ptr d => uptoBulk d + 1
  | .slice elems spare => uptoBulkAll elems + uptoBulkAll spare + 1
  | .agg parts => uptoBulkAll parts + 1
  | .iface _ d => uptoBulk d + 1
  | .map entries => uptoBulkEntries entries + 1
  | .held _ => 1
def uptoBulkAll {H : Type} : List (DataW H) → Nat
  | [] => 0
  | d :: r => uptoBulk d + uptoBulkAll r
def uptoBulkEntries {H : Type} : List (Lit × DataW H) → Nat
  | [] => 0
  | x :: r => uptoBulkEntry x + uptoBulkEntries r
def uptoBulkEntry {H : Type} : Lit × DataW H → Nat
  | (.string bytes, d) => bytes.length + uptoBulk d + 1
  | (_, d) => uptoBulk d + 1
 end
def uptoSmall : (H : Type) → List (DataW H) → Bool := fun _ ds => decide (uptoBulkAll ds ≤ 1048576)
def OpenSpec.upto (s : _root_.Go.ChangeSpec) : _root_.Go.OpenSpec := { _root_.Go.OpenSpec.ofChange s with cond := some uptoSmall }

/-- 'kindredlaw3.SealSums', WHERE WHAT IT READS IS OF BULK AT MOST 1048576: true; the input reads as it did. -/
def sealSumsUptoRow : OpenClaim := { program := "ytebbmifpidbdlaadoor", sum := "cf423d5bb8147f8f23742b68b1292e0f392e89368b85f61c7f7d42cc0ad9af5b", func := "kindred/kindredlaw3.SealSums", spec := "sealSums", named := ["kindred/seal.table"], apart := false, laid := [("kindred/seal.table", laid_kindred_seal_table)], narrowed := true }
def SealSumsUptoSaid : Prop := sealSumsUptoRow.holds Tryd.pinned (OpenSpec.upto sealSumsSpec)

/-- 'kindredlaw3.SealFrame', WHERE WHAT IT READS IS OF BULK AT MOST 1048576: true; the input reads as it did. -/
def sealFrameUptoRow : OpenClaim := { program := "ytebbmifpidbdlaadoor", sum := "cf423d5bb8147f8f23742b68b1292e0f392e89368b85f61c7f7d42cc0ad9af5b", func := "kindred/kindredlaw3.SealFrame", spec := "sealFrame", named := ["kindred/seal.table"], apart := false, laid := [("kindred/seal.table", laid_kindred_seal_table)], narrowed := true }
def SealFrameUptoSaid : Prop := sealFrameUptoRow.holds Tryd.pinned (OpenSpec.upto sealFrameSpec)

/-- 'kindredlaw3.SealParse', WHERE WHAT IT READS IS OF BULK AT MOST 1048576: true; the input reads as it did. -/
def sealParseUptoRow : OpenClaim := { program := "ytebbmifpidbdlaadoor", sum := "cf423d5bb8147f8f23742b68b1292e0f392e89368b85f61c7f7d42cc0ad9af5b", func := "kindred/kindredlaw3.SealParse", spec := "sealParse", unfollowed := true, recurses := true, named := ["kindred/seal.table"], apart := false, laid := [("kindred/seal.table", laid_kindred_seal_table)], narrowed := true }
def SealParseUptoSaid : Prop := sealParseUptoRow.holds Tryd.pinned (OpenSpec.upto sealParseSpec)

/-- 'kindredlaw3.SealFrames', WHERE WHAT IT READS IS OF BULK AT MOST 1048576: true; the input reads as it did. -/
def sealFramesUptoRow : OpenClaim := { program := "ytebbmifpidbdlaadoor", sum := "cf423d5bb8147f8f23742b68b1292e0f392e89368b85f61c7f7d42cc0ad9af5b", func := "kindred/kindredlaw3.SealFrames", spec := "sealFrames", unfollowed := true, recurses := true, named := ["kindred/seal.table"], apart := false, laid := [("kindred/seal.table", laid_kindred_seal_table)], narrowed := true }
def SealFramesUptoSaid : Prop := sealFramesUptoRow.holds Tryd.pinned (OpenSpec.upto sealFramesSpec)

/-- 'kindredlaw3.SealJoins', WHERE WHAT IT READS IS OF BULK AT MOST 1048576: true; the input reads as it did. -/
def sealJoinsUptoRow : OpenClaim := { program := "ytebbmifpidbdlaadoor", sum := "cf423d5bb8147f8f23742b68b1292e0f392e89368b85f61c7f7d42cc0ad9af5b", func := "kindred/kindredlaw3.SealJoins", spec := "sealJoins", unfollowed := true, recurses := true, named := ["kindred/seal.table"], apart := false, laid := [("kindred/seal.table", laid_kindred_seal_table)], narrowed := true }
def SealJoinsUptoSaid : Prop := sealJoinsUptoRow.holds Tryd.pinned (OpenSpec.upto sealJoinsSpec)

/-- 'kindredlaw3.SealSpoilt', WHERE WHAT IT READS IS OF BULK AT MOST 1048576: true; the input reads as it did. -/
def sealSpoiltUptoRow : OpenClaim := { program := "ytebbmifpidbdlaadoor", sum := "cf423d5bb8147f8f23742b68b1292e0f392e89368b85f61c7f7d42cc0ad9af5b", func := "kindred/kindredlaw3.SealSpoilt", spec := "sealSpoilt", unfollowed := true, recurses := true, named := ["kindred/seal.table"], apart := false, laid := [("kindred/seal.table", laid_kindred_seal_table)], narrowed := true }
def SealSpoiltUptoSaid : Prop := sealSpoiltUptoRow.holds Tryd.pinned (OpenSpec.upto sealSpoiltSpec)

/-- 'kindredlaw3.SealOnly', WHERE WHAT IT READS IS OF BULK AT MOST 1048576: true; the input reads as it did. -/
def sealOnlyUptoRow : OpenClaim := { program := "ytebbmifpidbdlaadoor", sum := "cf423d5bb8147f8f23742b68b1292e0f392e89368b85f61c7f7d42cc0ad9af5b", func := "kindred/kindredlaw3.SealOnly", spec := "sealOnly", unfollowed := true, recurses := true, named := ["kindred/seal.table"], apart := false, laid := [("kindred/seal.table", laid_kindred_seal_table)], narrowed := true }
def SealOnlyUptoSaid : Prop := sealOnlyUptoRow.holds Tryd.pinned (OpenSpec.upto sealOnlySpec)

/-- 'kindredlaw3.SealTorn', WHERE WHAT IT READS IS OF BULK AT MOST 1048576: true; the input reads as it did. -/
def sealTornUptoRow : OpenClaim := { program := "ytebbmifpidbdlaadoor", sum := "cf423d5bb8147f8f23742b68b1292e0f392e89368b85f61c7f7d42cc0ad9af5b", func := "kindred/kindredlaw3.SealTorn", spec := "sealTorn", unfollowed := true, recurses := true, named := ["kindred/seal.table"], apart := false, laid := [("kindred/seal.table", laid_kindred_seal_table)], narrowed := true }
def SealTornUptoSaid : Prop := sealTornUptoRow.holds Tryd.pinned (OpenSpec.upto sealTornSpec)

end Rows
end Go.Proofs.YtebbmifpidbdlaaDoor
