/-
  DERIVED. GIVEN WITH THE SEED: THE CARDS: each row of YtebbmifpidbdlaaDoorRows.lean that lists a variable, with what it lists TIED to the program's text (the seventh form; the later family's looks); each row that meets fmt, with fmt's text TOLD by the authors' own Lean function (tested against real Go, not proved from fmt's source: count such statements apart). THE CARD IS WHAT COUNTS. Prove the row's statement (the work); the ties are given (YtebbmifpidbdlaaDoorTie.lean); close each card by the builder's one call (the guide's Derived/Test/ToyasCard.lean, 'card_holds'). Laid BY PROGRAM, IN A SANDBOX (cutbox-door.mjs). By AI agents, Wed Nov 11 2026. No macro, syntax, notation, axiom, sorry.
-/
import Derived.Test.YtebbmifpidbdlaaDoorRows
import GoSem.ClaimSeven
namespace Go.Proofs.YtebbmifpidbdlaaDoor
namespace Rows

/-- THE TIED CARD OF 'kindredlaw3.SealSums'. -/
def sealSumsCard : Claim7 := { stood := { row := sealSumsRow, standIns := [], harness := (true, "f1819a90df62ce43093070eec4630abd70d3b45af3ef0dddb0a4d78b0e4b88d0"), looks := false }, kinds := [], alts := [], laidByText := true, laidKinds := [.data], laidTests := true, laidLooks := .later }
def SealSumsCardSaid : Prop := Claim7.holds Tryd.pinned (.plain (OpenSpec.ofChange sealSumsSpec)) sealSumsCard

/-- THE TIED CARD OF 'kindredlaw3.SealFrame'. -/
def sealFrameCard : Claim7 := { stood := { row := sealFrameRow, standIns := [], harness := (true, "f1819a90df62ce43093070eec4630abd70d3b45af3ef0dddb0a4d78b0e4b88d0"), looks := false }, kinds := [], alts := [], laidByText := true, laidKinds := [.data], laidTests := true, laidLooks := .later }
def SealFrameCardSaid : Prop := Claim7.holds Tryd.pinned (.plain (OpenSpec.ofChange sealFrameSpec)) sealFrameCard

/-- THE TIED CARD OF 'kindredlaw3.SealParse'. -/
def sealParseCard : Claim7 := { stood := { row := sealParseRow, standIns := [], harness := (true, "f1819a90df62ce43093070eec4630abd70d3b45af3ef0dddb0a4d78b0e4b88d0"), looks := false }, kinds := [], alts := [], laidByText := true, laidKinds := [.data], laidTests := true, laidLooks := .later }
def SealParseCardSaid : Prop := Claim7.holds Tryd.pinned (.plain (OpenSpec.ofChange sealParseSpec)) sealParseCard

/-- THE TIED CARD OF 'kindredlaw3.SealFrames'. -/
def sealFramesCard : Claim7 := { stood := { row := sealFramesRow, standIns := [], harness := (true, "f1819a90df62ce43093070eec4630abd70d3b45af3ef0dddb0a4d78b0e4b88d0"), looks := false }, kinds := [], alts := [], laidByText := true, laidKinds := [.data], laidTests := true, laidLooks := .later }
def SealFramesCardSaid : Prop := Claim7.holds Tryd.pinned (.plain (OpenSpec.ofChange sealFramesSpec)) sealFramesCard

/-- THE TIED CARD OF 'kindredlaw3.SealJoins'. -/
def sealJoinsCard : Claim7 := { stood := { row := sealJoinsRow, standIns := [], harness := (true, "f1819a90df62ce43093070eec4630abd70d3b45af3ef0dddb0a4d78b0e4b88d0"), looks := false }, kinds := [], alts := [], laidByText := true, laidKinds := [.data], laidTests := true, laidLooks := .later }
def SealJoinsCardSaid : Prop := Claim7.holds Tryd.pinned (.plain (OpenSpec.ofChange sealJoinsSpec)) sealJoinsCard

/-- THE TIED CARD OF 'kindredlaw3.SealSpoilt'. -/
def sealSpoiltCard : Claim7 := { stood := { row := sealSpoiltRow, standIns := [], harness := (true, "f1819a90df62ce43093070eec4630abd70d3b45af3ef0dddb0a4d78b0e4b88d0"), looks := false }, kinds := [], alts := [], laidByText := true, laidKinds := [.data], laidTests := true, laidLooks := .later }
def SealSpoiltCardSaid : Prop := Claim7.holds Tryd.pinned (.plain (OpenSpec.ofChange sealSpoiltSpec)) sealSpoiltCard

/-- THE TIED CARD OF 'kindredlaw3.SealOnly'. -/
def sealOnlyCard : Claim7 := { stood := { row := sealOnlyRow, standIns := [], harness := (true, "f1819a90df62ce43093070eec4630abd70d3b45af3ef0dddb0a4d78b0e4b88d0"), looks := false }, kinds := [], alts := [], laidByText := true, laidKinds := [.data], laidTests := true, laidLooks := .later }
def SealOnlyCardSaid : Prop := Claim7.holds Tryd.pinned (.plain (OpenSpec.ofChange sealOnlySpec)) sealOnlyCard

/-- THE TIED CARD OF 'kindredlaw3.SealTorn'. -/
def sealTornCard : Claim7 := { stood := { row := sealTornRow, standIns := [], harness := (true, "f1819a90df62ce43093070eec4630abd70d3b45af3ef0dddb0a4d78b0e4b88d0"), looks := false }, kinds := [], alts := [], laidByText := true, laidKinds := [.data], laidTests := true, laidLooks := .later }
def SealTornCardSaid : Prop := Claim7.holds Tryd.pinned (.plain (OpenSpec.ofChange sealTornSpec)) sealTornCard

/-- THE SECOND FORM's CARD OF 'kindredlaw3.SealSums'. -/
def sealSumsUptoCard : Claim7 := { stood := { row := sealSumsUptoRow, standIns := [], harness := (true, "f1819a90df62ce43093070eec4630abd70d3b45af3ef0dddb0a4d78b0e4b88d0"), looks := false }, kinds := [], alts := [], laidByText := true, laidKinds := [.data], laidTests := true, laidLooks := .later }
def SealSumsUptoCardSaid : Prop := Claim7.holds Tryd.pinned (.plain (OpenSpec.upto sealSumsSpec)) sealSumsUptoCard

/-- THE SECOND FORM's CARD OF 'kindredlaw3.SealFrame'. -/
def sealFrameUptoCard : Claim7 := { stood := { row := sealFrameUptoRow, standIns := [], harness := (true, "f1819a90df62ce43093070eec4630abd70d3b45af3ef0dddb0a4d78b0e4b88d0"), looks := false }, kinds := [], alts := [], laidByText := true, laidKinds := [.data], laidTests := true, laidLooks := .later }
def SealFrameUptoCardSaid : Prop := Claim7.holds Tryd.pinned (.plain (OpenSpec.upto sealFrameSpec)) sealFrameUptoCard

/-- THE SECOND FORM's CARD OF 'kindredlaw3.SealParse'. -/
def sealParseUptoCard : Claim7 := { stood := { row := sealParseUptoRow, standIns := [], harness := (true, "f1819a90df62ce43093070eec4630abd70d3b45af3ef0dddb0a4d78b0e4b88d0"), looks := false }, kinds := [], alts := [], laidByText := true, laidKinds := [.data], laidTests := true, laidLooks := .later }
def SealParseUptoCardSaid : Prop := Claim7.holds Tryd.pinned (.plain (OpenSpec.upto sealParseSpec)) sealParseUptoCard

/-- THE SECOND FORM's CARD OF 'kindredlaw3.SealFrames'. -/
def sealFramesUptoCard : Claim7 := { stood := { row := sealFramesUptoRow, standIns := [], harness := (true, "f1819a90df62ce43093070eec4630abd70d3b45af3ef0dddb0a4d78b0e4b88d0"), looks := false }, kinds := [], alts := [], laidByText := true, laidKinds := [.data], laidTests := true, laidLooks := .later }
def SealFramesUptoCardSaid : Prop := Claim7.holds Tryd.pinned (.plain (OpenSpec.upto sealFramesSpec)) sealFramesUptoCard

/-- THE SECOND FORM's CARD OF 'kindredlaw3.SealJoins'. -/
def sealJoinsUptoCard : Claim7 := { stood := { row := sealJoinsUptoRow, standIns := [], harness := (true, "f1819a90df62ce43093070eec4630abd70d3b45af3ef0dddb0a4d78b0e4b88d0"), looks := false }, kinds := [], alts := [], laidByText := true, laidKinds := [.data], laidTests := true, laidLooks := .later }
def SealJoinsUptoCardSaid : Prop := Claim7.holds Tryd.pinned (.plain (OpenSpec.upto sealJoinsSpec)) sealJoinsUptoCard

/-- THE SECOND FORM's CARD OF 'kindredlaw3.SealSpoilt'. -/
def sealSpoiltUptoCard : Claim7 := { stood := { row := sealSpoiltUptoRow, standIns := [], harness := (true, "f1819a90df62ce43093070eec4630abd70d3b45af3ef0dddb0a4d78b0e4b88d0"), looks := false }, kinds := [], alts := [], laidByText := true, laidKinds := [.data], laidTests := true, laidLooks := .later }
def SealSpoiltUptoCardSaid : Prop := Claim7.holds Tryd.pinned (.plain (OpenSpec.upto sealSpoiltSpec)) sealSpoiltUptoCard

/-- THE SECOND FORM's CARD OF 'kindredlaw3.SealOnly'. -/
def sealOnlyUptoCard : Claim7 := { stood := { row := sealOnlyUptoRow, standIns := [], harness := (true, "f1819a90df62ce43093070eec4630abd70d3b45af3ef0dddb0a4d78b0e4b88d0"), looks := false }, kinds := [], alts := [], laidByText := true, laidKinds := [.data], laidTests := true, laidLooks := .later }
def SealOnlyUptoCardSaid : Prop := Claim7.holds Tryd.pinned (.plain (OpenSpec.upto sealOnlySpec)) sealOnlyUptoCard

/-- THE SECOND FORM's CARD OF 'kindredlaw3.SealTorn'. -/
def sealTornUptoCard : Claim7 := { stood := { row := sealTornUptoRow, standIns := [], harness := (true, "f1819a90df62ce43093070eec4630abd70d3b45af3ef0dddb0a4d78b0e4b88d0"), looks := false }, kinds := [], alts := [], laidByText := true, laidKinds := [.data], laidTests := true, laidLooks := .later }
def SealTornUptoCardSaid : Prop := Claim7.holds Tryd.pinned (.plain (OpenSpec.upto sealTornSpec)) sealTornUptoCard
end Rows
end Go.Proofs.YtebbmifpidbdlaaDoor
