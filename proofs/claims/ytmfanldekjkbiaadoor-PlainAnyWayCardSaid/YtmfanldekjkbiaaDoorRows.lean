/-
  NARROWER THAN 'FOR EVERY INPUT', by the rows' own cells (each row's printed sentence says how): PlainTriangle: laid · PlainLooks: laid · PlainAnyWay: laid · PlainRefuses: laid.
  DERIVED. THE GIVEN ROWS OF THIS SEAT. 4 by the template 'for every input the law returns true; each argument reads behind the call as it read before'; 0 by the template 'total and deterministic' (their statements: YtmfanldekjkbiaaDoorTotals.lean).
  GIVEN WITH THE SEED: the statements are not yours to turn. If you find one false, say at which input.
  Laid BY PROGRAM, IN A SANDBOX (cutbox-rows.mjs): the forced cells as the released guide's own fill.sh prints them over the translation 1e625724ddb7ce67… (all of the seat's roots in one cut). By AI agents, Wed Nov 11 2026. No macro, syntax, notation, axiom, sorry.
-/
import Derived.Test.YtmfanldekjkbiaaDoorChecked
import GoSem.Claim
import GoSem.ClaimJoined
import GoSem.ClaimMapViews
import Derived.JoinedTies
import Derived.KernelRfl
namespace Go.Proofs.YtmfanldekjkbiaaDoor
/- THE CELL 'sum', in the pinned program and in every row, IS THE sha256 OF THE DUMP (.gsa) THAT YtmfanldekjkbiaaDoorProg.lean LOADS. Nothing in Lean hashes anything: it is a label: what it is worth is what the hold of that sum in a sandbox is worth. -/
noncomputable def Tryd.pinned : Pinned := { name := "ytmfanldekjkbiaadoor", sum := "1e625724ddb7ce67174baea48234887180ba7263e3f92aa13a7285561ca4ca9c", checked := Tryd.checked }
namespace Rows
def none {H : Type} : Left H := { results := [], args := [] }

/- WHAT THE LISTED PACKAGE-LEVEL VARIABLES READ AS WHEN THE CALL BEGINS. Each datum BY PROGRAM (the guide's laid-datum.mjs) off the statement by which the dump's own 'gosem.cut.vars' lays the variable. In a bare row this is a premise. The card (YtmfanldekjkbiaaDoorCards.lean) ties it to the program's text. -/
def laid_kindred_bits_ones {H : Type} : DataW H := .agg [.lit (.int .i64 0), .lit (.int .i64 1), .lit (.int .i64 1), .lit (.int .i64 2), .lit (.int .i64 1), .lit (.int .i64 2), .lit (.int .i64 2), .lit (.int .i64 3), .lit (.int .i64 1), .lit (.int .i64 2), .lit (.int .i64 2), .lit (.int .i64 3), .lit (.int .i64 2), .lit (.int .i64 3), .lit (.int .i64 3), .lit (.int .i64 4)]

/-- 'kindredlaw13.PlainTriangle': WHATEVER THE INPUT: true; the input reads as it did. -/
def plainTriangleSpec : ChangeSpec := { name := "plainTriangle", fn := fun _ => fun
  | [d1, d2, d3, d4, d5] => { results := [.lit (.bool true)], args := [d1, d2, d3, d4, d5] }
  | _ => none }
def plainTriangleRow : OpenClaim := { program := "ytmfanldekjkbiaadoor", sum := "1e625724ddb7ce67174baea48234887180ba7263e3f92aa13a7285561ca4ca9c", func := "kindred/kindredlaw13.PlainTriangle", spec := "plainTriangle", unfollowed := true, recurses := true, named := ["kindred/bits.ones"], plainKeys := false, apart := false, laid := [("kindred/bits.ones", laid_kindred_bits_ones)] }
def PlainTriangleSaid : Prop := plainTriangleRow.holds Tryd.pinned (OpenSpec.ofChange plainTriangleSpec)

/-- ITS FALSE NEIGHBOUR: 'it returns false'. Refute it at one input. -/
def plainTriangleWrong : ChangeSpec := { name := "plainTriangle", fn := fun _ => fun
  | [d1, d2, d3, d4, d5] => { results := [.lit (.bool false)], args := [d1, d2, d3, d4, d5] }
  | _ => none }
def PlainTriangleWrongFalsely : Prop := plainTriangleRow.holds Tryd.pinned (OpenSpec.ofChange plainTriangleWrong)

/-- 'kindredlaw13.PlainLooks': WHATEVER THE INPUT: true; the input reads as it did. -/
def plainLooksSpec : ChangeSpec := { name := "plainLooks", fn := fun _ => fun
  | [d1, d2, d3, d4, d5] => { results := [.lit (.bool true)], args := [d1, d2, d3, d4, d5] }
  | _ => none }
def plainLooksRow : OpenClaim := { program := "ytmfanldekjkbiaadoor", sum := "1e625724ddb7ce67174baea48234887180ba7263e3f92aa13a7285561ca4ca9c", func := "kindred/kindredlaw13.PlainLooks", spec := "plainLooks", unfollowed := true, recurses := true, named := ["kindred/bits.ones"], plainKeys := false, apart := false, laid := [("kindred/bits.ones", laid_kindred_bits_ones)] }
def PlainLooksSaid : Prop := plainLooksRow.holds Tryd.pinned (OpenSpec.ofChange plainLooksSpec)

/-- ITS FALSE NEIGHBOUR: 'it returns false'. Refute it at one input. -/
def plainLooksWrong : ChangeSpec := { name := "plainLooks", fn := fun _ => fun
  | [d1, d2, d3, d4, d5] => { results := [.lit (.bool false)], args := [d1, d2, d3, d4, d5] }
  | _ => none }
def PlainLooksWrongFalsely : Prop := plainLooksRow.holds Tryd.pinned (OpenSpec.ofChange plainLooksWrong)

/-- 'kindredlaw13.PlainAnyWay': WHATEVER THE INPUT: true; the input reads as it did. -/
def plainAnyWaySpec : ChangeSpec := { name := "plainAnyWay", fn := fun _ => fun
  | [d1, d2, d3, d4, d5] => { results := [.lit (.bool true)], args := [d1, d2, d3, d4, d5] }
  | _ => none }
def plainAnyWayRow : OpenClaim := { program := "ytmfanldekjkbiaadoor", sum := "1e625724ddb7ce67174baea48234887180ba7263e3f92aa13a7285561ca4ca9c", func := "kindred/kindredlaw13.PlainAnyWay", spec := "plainAnyWay", inPlace := ["maps.clone"], unfollowed := true, recurses := true, named := ["kindred/bits.ones"], plainKeys := false, apart := false, laid := [("kindred/bits.ones", laid_kindred_bits_ones)] }
def PlainAnyWaySaid : Prop := plainAnyWayRow.holds Tryd.pinned (OpenSpec.ofChange plainAnyWaySpec)

/-- ITS FALSE NEIGHBOUR: 'it returns false'. Refute it at one input. -/
def plainAnyWayWrong : ChangeSpec := { name := "plainAnyWay", fn := fun _ => fun
  | [d1, d2, d3, d4, d5] => { results := [.lit (.bool false)], args := [d1, d2, d3, d4, d5] }
  | _ => none }
def PlainAnyWayWrongFalsely : Prop := plainAnyWayRow.holds Tryd.pinned (OpenSpec.ofChange plainAnyWayWrong)

/-- 'kindredlaw13.PlainRefuses': WHATEVER THE INPUT: true; the input reads as it did. -/
def plainRefusesSpec : ChangeSpec := { name := "plainRefuses", fn := fun _ => fun
  | [d1, d2, d3, d4, d5, d6] => { results := [.lit (.bool true)], args := [d1, d2, d3, d4, d5, d6] }
  | _ => none }
def plainRefusesRow : OpenClaim := { program := "ytmfanldekjkbiaadoor", sum := "1e625724ddb7ce67174baea48234887180ba7263e3f92aa13a7285561ca4ca9c", func := "kindred/kindredlaw13.PlainRefuses", spec := "plainRefuses", unfollowed := true, recurses := true, named := ["kindred/bits.ones"], plainKeys := false, apart := false, laid := [("kindred/bits.ones", laid_kindred_bits_ones)] }
def PlainRefusesSaid : Prop := plainRefusesRow.holds Tryd.pinned (OpenSpec.ofChange plainRefusesSpec)

/-- ITS FALSE NEIGHBOUR: 'it returns false'. Refute it at one input. -/
def plainRefusesWrong : ChangeSpec := { name := "plainRefuses", fn := fun _ => fun
  | [d1, d2, d3, d4, d5, d6] => { results := [.lit (.bool false)], args := [d1, d2, d3, d4, d5, d6] }
  | _ => none }
def PlainRefusesWrongFalsely : Prop := plainRefusesRow.holds Tryd.pinned (OpenSpec.ofChange plainRefusesWrong)

/- THE SECOND FORM. 'bulk': how many values and letters a reading holds, each counted each time it is reached (what is shared counts as often as it is met; a slice's spare places count too). A statement '..UptoSaid' is the law's where the arguments, and the package variables that the reading takes, are together of bulk at most 1048576: NARROWER than '..Said'. Prove '..Said' where nothing that the law and all that it calls make is longer than what came in: it says more and counts as full. Else prove '..UptoSaid'. A law counts once. -/
mutual
def uptoBulk {H : Type} : DataW H → Nat
  | .lit (.string bytes) => bytes.length + 1
  | .lit _ => 1
  | .nil => 1
  | .ptr d => uptoBulk d + 1
  | .slice elems spare => uptoBulkAll elems + uptoBulkAll spare + 1
  | .agg parts => uptoBulkAll parts + 1
  | .iface _ d => uptoBulk d + 1
  | .map entries => uptoBulkEntries entries + 1
  | .held _ => 1
def uptoBulkAll {H : Type} : List (DataW H) → Nat
  | [] => 0
  | d :: r => uptoBulk d + uptoBulkAll r
def uptoBulkEntries {H : Type} : List (Lit × DataW H) → Nat
  | [] => 0
  | x :: r => uptoBulkEntry x + uptoBulkEntries r
def uptoBulkEntry {H : Type} : Lit × DataW H → Nat
  | (.string bytes, d) => bytes.length + uptoBulk d + 1
  | (_, d) => uptoBulk d + 1
 end
def uptoSmall : (H : Type) → List (DataW H) → Bool := fun _ ds => decide (uptoBulkAll ds ≤ 1048576)
def OpenSpec.upto (s : _root_.Go.ChangeSpec) : _root_.Go.OpenSpec := { _root_.Go.OpenSpec.ofChange s with cond := some uptoSmall }

/-- 'kindredlaw13.PlainTriangle', WHERE WHAT IT READS IS OF BULK AT MOST 1048576: true; the input reads as it did. -/
def plainTriangleUptoRow : OpenClaim := { program := "ytmfanldekjkbiaadoor", sum := "1e625724ddb7ce67174baea48234887180ba7263e3f92aa13a7285561ca4ca9c", func := "kindred/kindredlaw13.PlainTriangle", spec := "plainTriangle", unfollowed := true, recurses := true, named := ["kindred/bits.ones"], plainKeys := false, apart := false, laid := [("kindred/bits.ones", laid_kindred_bits_ones)], narrowed := true }
def PlainTriangleUptoSaid : Prop := plainTriangleUptoRow.holds Tryd.pinned (OpenSpec.upto plainTriangleSpec)

/-- 'kindredlaw13.PlainLooks', WHERE WHAT IT READS IS OF BULK AT MOST 1048576: true; the input reads as it did. -/
def plainLooksUptoRow : OpenClaim := { program := "ytmfanldekjkbiaadoor", sum := "1e625724ddb7ce67174baea48234887180ba7263e3f92aa13a7285561ca4ca9c", func := "kindred/kindredlaw13.PlainLooks", spec := "plainLooks", unfollowed := true, recurses := true, named := ["kindred/bits.ones"], plainKeys := false, apart := false, laid := [("kindred/bits.ones", laid_kindred_bits_ones)], narrowed := true }
def PlainLooksUptoSaid : Prop := plainLooksUptoRow.holds Tryd.pinned (OpenSpec.upto plainLooksSpec)

/-- 'kindredlaw13.PlainAnyWay', WHERE WHAT IT READS IS OF BULK AT MOST 1048576: true; the input reads as it did. -/
def plainAnyWayUptoRow : OpenClaim := { program := "ytmfanldekjkbiaadoor", sum := "1e625724ddb7ce67174baea48234887180ba7263e3f92aa13a7285561ca4ca9c", func := "kindred/kindredlaw13.PlainAnyWay", spec := "plainAnyWay", inPlace := ["maps.clone"], unfollowed := true, recurses := true, named := ["kindred/bits.ones"], plainKeys := false, apart := false, laid := [("kindred/bits.ones", laid_kindred_bits_ones)], narrowed := true }
def PlainAnyWayUptoSaid : Prop := plainAnyWayUptoRow.holds Tryd.pinned (OpenSpec.upto plainAnyWaySpec)

/-- 'kindredlaw13.PlainRefuses', WHERE WHAT IT READS IS OF BULK AT MOST 1048576: true; the input reads as it did. -/
def plainRefusesUptoRow : OpenClaim := { program := "ytmfanldekjkbiaadoor", sum := "1e625724ddb7ce67174baea48234887180ba7263e3f92aa13a7285561ca4ca9c", func := "kindred/kindredlaw13.PlainRefuses", spec := "plainRefuses", unfollowed := true, recurses := true, named := ["kindred/bits.ones"], plainKeys := false, apart := false, laid := [("kindred/bits.ones", laid_kindred_bits_ones)], narrowed := true }
def PlainRefusesUptoSaid : Prop := plainRefusesUptoRow.holds Tryd.pinned (OpenSpec.upto plainRefusesSpec)

end Rows
end Go.Proofs.YtmfanldekjkbiaaDoor
