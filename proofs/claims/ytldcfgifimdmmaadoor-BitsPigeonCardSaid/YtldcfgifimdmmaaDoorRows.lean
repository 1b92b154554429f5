/-
  NARROWER THAN 'FOR EVERY INPUT', by the rows' own cells (each row's printed sentence says how): BitsMetric: laid · BitsFlips: laid · BitsCodes: laid · BitsPigeon: laid.
  DERIVED. THE GIVEN ROWS OF THIS SEAT. 4 by the template 'for every input the law returns true; each argument reads behind the call as it read before'; 0 by the template 'total and deterministic' (their statements: YtldcfgifimdmmaaDoorTotals.lean).
  GIVEN WITH THE SEED: the statements are not yours to turn. If you find one false, say at which input.
  Laid BY PROGRAM, IN A SANDBOX (cutbox-rows.mjs): the forced cells as the released guide's own fill.sh prints them over the translation ab16adc11c47c9a8… (all of the seat's roots in one cut). By AI agents, Wed Nov 11 2026. No macro, syntax, notation, axiom, sorry.
-/
import Derived.Test.YtldcfgifimdmmaaDoorChecked
import GoSem.Claim
import GoSem.ClaimJoined
import GoSem.ClaimMapViews
import Derived.JoinedTies
import Derived.KernelRfl
namespace Go.Proofs.YtldcfgifimdmmaaDoor
/- THE CELL 'sum', in the pinned program and in every row, IS THE sha256 OF THE DUMP (.gsa) THAT YtldcfgifimdmmaaDoorProg.lean LOADS. Nothing in Lean hashes anything: it is a label: what it is worth is what the hold of that sum in a sandbox is worth. -/
noncomputable def Tryd.pinned : Pinned := { name := "ytldcfgifimdmmaadoor", sum := "ab16adc11c47c9a8775e49459f8d740eef8c4740dd482dfdba296951aed8bed4", checked := Tryd.checked }
namespace Rows
def none {H : Type} : Left H := { results := [], args := [] }

/- WHAT THE LISTED PACKAGE-LEVEL VARIABLES READ AS WHEN THE CALL BEGINS. Each datum BY PROGRAM (the guide's laid-datum.mjs) off the statement by which the dump's own 'gosem.cut.vars' lays the variable. In a bare row this is a premise. The card (YtldcfgifimdmmaaDoorCards.lean) ties it to the program's text. -/
def laid_kindred_bits_ones {H : Type} : DataW H := .agg [.lit (.int .i64 0), .lit (.int .i64 1), .lit (.int .i64 1), .lit (.int .i64 2), .lit (.int .i64 1), .lit (.int .i64 2), .lit (.int .i64 2), .lit (.int .i64 3), .lit (.int .i64 1), .lit (.int .i64 2), .lit (.int .i64 2), .lit (.int .i64 3), .lit (.int .i64 2), .lit (.int .i64 3), .lit (.int .i64 3), .lit (.int .i64 4)]

/-- 'kindredlaw1.BitsMetric': WHATEVER THE INPUT: true; the input reads as it did. -/
def bitsMetricSpec : ChangeSpec := { name := "bitsMetric", fn := fun _ => fun
  | [d1, d2, d3] => { results := [.lit (.bool true)], args := [d1, d2, d3] }
  | _ => none }
def bitsMetricRow : OpenClaim := { program := "ytldcfgifimdmmaadoor", sum := "ab16adc11c47c9a8775e49459f8d740eef8c4740dd482dfdba296951aed8bed4", func := "kindred/kindredlaw1.BitsMetric", spec := "bitsMetric", named := ["kindred/bits.ones"], apart := false, laid := [("kindred/bits.ones", laid_kindred_bits_ones)] }
def BitsMetricSaid : Prop := bitsMetricRow.holds Tryd.pinned (OpenSpec.ofChange bitsMetricSpec)

/-- ITS FALSE NEIGHBOUR: 'it returns false'. Refute it at one input. -/
def bitsMetricWrong : ChangeSpec := { name := "bitsMetric", fn := fun _ => fun
  | [d1, d2, d3] => { results := [.lit (.bool false)], args := [d1, d2, d3] }
  | _ => none }
def BitsMetricWrongFalsely : Prop := bitsMetricRow.holds Tryd.pinned (OpenSpec.ofChange bitsMetricWrong)

/-- 'kindredlaw1.BitsFlips': WHATEVER THE INPUT: true; the input reads as it did. -/
def bitsFlipsSpec : ChangeSpec := { name := "bitsFlips", fn := fun _ => fun
  | [d1, d2] => { results := [.lit (.bool true)], args := [d1, d2] }
  | _ => none }
def bitsFlipsRow : OpenClaim := { program := "ytldcfgifimdmmaadoor", sum := "ab16adc11c47c9a8775e49459f8d740eef8c4740dd482dfdba296951aed8bed4", func := "kindred/kindredlaw1.BitsFlips", spec := "bitsFlips", named := ["kindred/bits.ones"], apart := false, laid := [("kindred/bits.ones", laid_kindred_bits_ones)] }
def BitsFlipsSaid : Prop := bitsFlipsRow.holds Tryd.pinned (OpenSpec.ofChange bitsFlipsSpec)

/-- ITS FALSE NEIGHBOUR: 'it returns false'. Refute it at one input. -/
def bitsFlipsWrong : ChangeSpec := { name := "bitsFlips", fn := fun _ => fun
  | [d1, d2] => { results := [.lit (.bool false)], args := [d1, d2] }
  | _ => none }
def BitsFlipsWrongFalsely : Prop := bitsFlipsRow.holds Tryd.pinned (OpenSpec.ofChange bitsFlipsWrong)

/-- 'kindredlaw1.BitsCodes': WHATEVER THE INPUT: true; the input reads as it did. -/
def bitsCodesSpec : ChangeSpec := { name := "bitsCodes", fn := fun _ => fun
  | [d1, d2, d3] => { results := [.lit (.bool true)], args := [d1, d2, d3] }
  | _ => none }
def bitsCodesRow : OpenClaim := { program := "ytldcfgifimdmmaadoor", sum := "ab16adc11c47c9a8775e49459f8d740eef8c4740dd482dfdba296951aed8bed4", func := "kindred/kindredlaw1.BitsCodes", spec := "bitsCodes", named := ["kindred/bits.ones"], apart := false, laid := [("kindred/bits.ones", laid_kindred_bits_ones)] }
def BitsCodesSaid : Prop := bitsCodesRow.holds Tryd.pinned (OpenSpec.ofChange bitsCodesSpec)

/-- ITS FALSE NEIGHBOUR: 'it returns false'. Refute it at one input. -/
def bitsCodesWrong : ChangeSpec := { name := "bitsCodes", fn := fun _ => fun
  | [d1, d2, d3] => { results := [.lit (.bool false)], args := [d1, d2, d3] }
  | _ => none }
def BitsCodesWrongFalsely : Prop := bitsCodesRow.holds Tryd.pinned (OpenSpec.ofChange bitsCodesWrong)

/-- 'kindredlaw1.BitsPigeon': WHATEVER THE INPUT: true; the input reads as it did. -/
def bitsPigeonSpec : ChangeSpec := { name := "bitsPigeon", fn := fun _ => fun
  | [d1, d2, d3, d4] => { results := [.lit (.bool true)], args := [d1, d2, d3, d4] }
  | _ => none }
def bitsPigeonRow : OpenClaim := { program := "ytldcfgifimdmmaadoor", sum := "ab16adc11c47c9a8775e49459f8d740eef8c4740dd482dfdba296951aed8bed4", func := "kindred/kindredlaw1.BitsPigeon", spec := "bitsPigeon", unfollowed := true, recurses := true, named := ["kindred/bits.ones"], apart := false, laid := [("kindred/bits.ones", laid_kindred_bits_ones)] }
def BitsPigeonSaid : Prop := bitsPigeonRow.holds Tryd.pinned (OpenSpec.ofChange bitsPigeonSpec)

/-- ITS FALSE NEIGHBOUR: 'it returns false'. Refute it at one input. -/
def bitsPigeonWrong : ChangeSpec := { name := "bitsPigeon", fn := fun _ => fun
  | [d1, d2, d3, d4] => { results := [.lit (.bool false)], args := [d1, d2, d3, d4] }
  | _ => none }
def BitsPigeonWrongFalsely : Prop := bitsPigeonRow.holds Tryd.pinned (OpenSpec.ofChange bitsPigeonWrong)

/- THE SECOND FORM. 'bulk': how many values and letters a reading holds, each counted each time it is reached (what is shared counts as often as it is met; a slice's spare places count too). A statement '..UptoSaid' is the law's where the arguments, and the package variables that the reading takes, are together of bulk at most 1048576: NARROWER than '..Said'. Prove '..Said' where nothing that the law and all that it calls make is longer than what came in: it says more and counts as full. Else prove '..UptoSaid'. A law counts once. -/
mutual
def uptoBulk {H : Type} : DataW H → Nat
  | .lit (.string bytes) => bytes.length + 1
  | .lit _ => 1
  | .nil => 1
  | .ptr d => uptoBulk d + 1
  | .slice elems spare => uptoBulkAll elems + uptoBulkAll spare + 1
  | .agg parts => uptoBulkAll parts + 1
  | .iface _ d => uptoBulk d + 1
  | .map entries => uptoBulkEntries entries + 1
  | .held _ => 1
def uptoBulkAll {H : Type} : List (DataW H) → Nat
  | [] => 0
  | d :: r => uptoBulk d + uptoBulkAll r
def uptoBulkEntries {H : Type} : List (Lit × DataW H) → Nat
  | [] => 0
  | x :: r => uptoBulkEntry x + uptoBulkEntries r
def uptoBulkEntry {H : Type} : Lit × DataW H → Nat
  | (.string bytes, d) => bytes.length + uptoBulk d + 1
  | (_, d) => uptoBulk d + 1
 end
def uptoSmall : (H : Type) → List (DataW H) → Bool := fun _ ds => decide (uptoBulkAll ds ≤ 1048576)
def OpenSpec.upto (s : _root_.Go.ChangeSpec) : _root_.Go.OpenSpec := { _root_.Go.OpenSpec.ofChange s with cond := some uptoSmall }

/-- 'kindredlaw1.BitsMetric', WHERE WHAT IT READS IS OF BULK AT MOST 1048576: true; the input reads as it did. -/
def bitsMetricUptoRow : OpenClaim := { program := "ytldcfgifimdmmaadoor", sum := "ab16adc11c47c9a8775e49459f8d740eef8c4740dd482dfdba296951aed8bed4", func := "kindred/kindredlaw1.BitsMetric", spec := "bitsMetric", named := ["kindred/bits.ones"], apart := false, laid := [("kindred/bits.ones", laid_kindred_bits_ones)], narrowed := true }
def BitsMetricUptoSaid : Prop := bitsMetricUptoRow.holds Tryd.pinned (OpenSpec.upto bitsMetricSpec)

/-- 'kindredlaw1.BitsFlips', WHERE WHAT IT READS IS OF BULK AT MOST 1048576: true; the input reads as it did. -/
def bitsFlipsUptoRow : OpenClaim := { program := "ytldcfgifimdmmaadoor", sum := "ab16adc11c47c9a8775e49459f8d740eef8c4740dd482dfdba296951aed8bed4", func := "kindred/kindredlaw1.BitsFlips", spec := "bitsFlips", named := ["kindred/bits.ones"], apart := false, laid := [("kindred/bits.ones", laid_kindred_bits_ones)], narrowed := true }
def BitsFlipsUptoSaid : Prop := bitsFlipsUptoRow.holds Tryd.pinned (OpenSpec.upto bitsFlipsSpec)

/-- 'kindredlaw1.BitsCodes', WHERE WHAT IT READS IS OF BULK AT MOST 1048576: true; the input reads as it did. -/
def bitsCodesUptoRow : OpenClaim := { program := "ytldcfgifimdmmaadoor", sum := "ab16adc11c47c9a8775e49459f8d740eef8c4740dd482dfdba296951aed8bed4", func := "kindred/kindredlaw1.BitsCodes", spec := "bitsCodes", named := ["kindred/bits.ones"], apart := false, laid := [("kindred/bits.ones", laid_kindred_bits_ones)], narrowed := true }
def BitsCodesUptoSaid : Prop := bitsCodesUptoRow.holds Tryd.pinned (OpenSpec.upto bitsCodesSpec)

/-- 'kindredlaw1.BitsPigeon', WHERE WHAT IT READS IS OF BULK AT MOST 1048576: true; the input reads as it did. -/
def bitsPigeonUptoRow : OpenClaim := { program := "ytldcfgifimdmmaadoor", sum := "ab16adc11c47c9a8775e49459f8d740eef8c4740dd482dfdba296951aed8bed4", func := "kindred/kindredlaw1.BitsPigeon", spec := "bitsPigeon", unfollowed := true, recurses := true, named := ["kindred/bits.ones"], apart := false, laid := [("kindred/bits.ones", laid_kindred_bits_ones)], narrowed := true }
def BitsPigeonUptoSaid : Prop := bitsPigeonUptoRow.holds Tryd.pinned (OpenSpec.upto bitsPigeonSpec)

end Rows
end Go.Proofs.YtldcfgifimdmmaaDoor
