/-
  DERIVED. GIVEN WITH THE SEED: THE CARDS: each row of YtmfanldekjkbiaaDoorRows.lean that lists a variable, with what it lists TIED to the program's text (the seventh form; the later family's looks); each row that meets fmt, with fmt's text TOLD by the authors' own Lean function (tested against real Go, not proved from fmt's source: count such statements apart). THE CARD IS WHAT COUNTS. Prove the row's statement (the work); the ties are given (YtmfanldekjkbiaaDoorTie.lean); close each card by the builder's one call (the guide's Derived/Test/ToyasCard.lean, 'card_holds'). Laid BY PROGRAM, IN A SANDBOX (cutbox-door.mjs). By AI agents, Wed Nov 11 2026. No macro, syntax, notation, axiom, sorry.
-/
import Derived.Test.YtmfanldekjkbiaaDoorRows
import GoSem.ClaimSeven
namespace Go.Proofs.YtmfanldekjkbiaaDoor
namespace Rows

/-- THE TIED CARD OF 'kindredlaw13.PlainTriangle'. -/
def plainTriangleCard : Claim7 := { stood := { row := plainTriangleRow, standIns := [], harness := (true, "a6fc59c53e008a4468ec07984c53af0f4e2e0af676436823d278795a12722fcc"), looks := true }, kinds := [], alts := [], laidByText := true, laidKinds := [.data], laidTests := true, laidLooks := .later }
def PlainTriangleCardSaid : Prop := Claim7.holds Tryd.pinned (.plain (OpenSpec.ofChange plainTriangleSpec)) plainTriangleCard

/-- THE TIED CARD OF 'kindredlaw13.PlainLooks'. -/
def plainLooksCard : Claim7 := { stood := { row := plainLooksRow, standIns := [], harness := (true, "a6fc59c53e008a4468ec07984c53af0f4e2e0af676436823d278795a12722fcc"), looks := true }, kinds := [], alts := [], laidByText := true, laidKinds := [.data], laidTests := true, laidLooks := .later }
def PlainLooksCardSaid : Prop := Claim7.holds Tryd.pinned (.plain (OpenSpec.ofChange plainLooksSpec)) plainLooksCard

/-- THE TIED CARD OF 'kindredlaw13.PlainAnyWay'. -/
def plainAnyWayCard : Claim7 := { stood := { row := plainAnyWayRow, standIns := [], harness := (true, "a6fc59c53e008a4468ec07984c53af0f4e2e0af676436823d278795a12722fcc"), looks := true }, kinds := [], alts := [], laidByText := true, laidKinds := [.data], laidTests := true, laidLooks := .later }
def PlainAnyWayCardSaid : Prop := Claim7.holds Tryd.pinned (.plain (OpenSpec.ofChange plainAnyWaySpec)) plainAnyWayCard

/-- THE TIED CARD OF 'kindredlaw13.PlainRefuses'. -/
def plainRefusesCard : Claim7 := { stood := { row := plainRefusesRow, standIns := [], harness := (true, "a6fc59c53e008a4468ec07984c53af0f4e2e0af676436823d278795a12722fcc"), looks := true }, kinds := [], alts := [], laidByText := true, laidKinds := [.data], laidTests := true, laidLooks := .later }
def PlainRefusesCardSaid : Prop := Claim7.holds Tryd.pinned (.plain (OpenSpec.ofChange plainRefusesSpec)) plainRefusesCard

/-- THE SECOND FORM's CARD OF 'kindredlaw13.PlainTriangle'. -/
def plainTriangleUptoCard : Claim7 := { stood := { row := plainTriangleUptoRow, standIns := [], harness := (true, "a6fc59c53e008a4468ec07984c53af0f4e2e0af676436823d278795a12722fcc"), looks := true }, kinds := [], alts := [], laidByText := true, laidKinds := [.data], laidTests := true, laidLooks := .later }
def PlainTriangleUptoCardSaid : Prop := Claim7.holds Tryd.pinned (.plain (OpenSpec.upto plainTriangleSpec)) plainTriangleUptoCard

/-- THE SECOND FORM's CARD OF 'kindredlaw13.PlainLooks'. -/
def plainLooksUptoCard : Claim7 := { stood := { row := plainLooksUptoRow, standIns := [], harness := (true, "a6fc59c53e008a4468ec07984c53af0f4e2e0af676436823d278795a12722fcc"), looks := true }, kinds := [], alts := [], laidByText := true, laidKinds := [.data], laidTests := true, laidLooks := .later }
def PlainLooksUptoCardSaid : Prop := Claim7.holds Tryd.pinned (.plain (OpenSpec.upto plainLooksSpec)) plainLooksUptoCard

/-- THE SECOND FORM's CARD OF 'kindredlaw13.PlainAnyWay'. -/
def plainAnyWayUptoCard : Claim7 := { stood := { row := plainAnyWayUptoRow, standIns := [], harness := (true, "a6fc59c53e008a4468ec07984c53af0f4e2e0af676436823d278795a12722fcc"), looks := true }, kinds := [], alts := [], laidByText := true, laidKinds := [.data], laidTests := true, laidLooks := .later }
def PlainAnyWayUptoCardSaid : Prop := Claim7.holds Tryd.pinned (.plain (OpenSpec.upto plainAnyWaySpec)) plainAnyWayUptoCard

/-- THE SECOND FORM's CARD OF 'kindredlaw13.PlainRefuses'. -/
def plainRefusesUptoCard : Claim7 := { stood := { row := plainRefusesUptoRow, standIns := [], harness := (true, "a6fc59c53e008a4468ec07984c53af0f4e2e0af676436823d278795a12722fcc"), looks := true }, kinds := [], alts := [], laidByText := true, laidKinds := [.data], laidTests := true, laidLooks := .later }
def PlainRefusesUptoCardSaid : Prop := Claim7.holds Tryd.pinned (.plain (OpenSpec.upto plainRefusesSpec)) plainRefusesUptoCard
end Rows
end Go.Proofs.YtmfanldekjkbiaaDoor
