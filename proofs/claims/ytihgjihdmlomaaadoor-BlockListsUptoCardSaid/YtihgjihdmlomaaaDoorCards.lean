/-
  DERIVED. GIVEN WITH THE SEED: THE CARDS: each row of YtihgjihdmlomaaaDoorRows.lean that lists a variable, with what it lists TIED to the program's text (the seventh form; the later family's looks); each row that meets fmt, with fmt's text TOLD by the authors' own Lean function (tested against real Go, not proved from fmt's source: count such statements apart). THE CARD IS WHAT COUNTS. Prove the row's statement (the work); the ties are given (YtihgjihdmlomaaaDoorTie.lean); close each card by the builder's one call (the guide's Derived/Test/ToyasCard.lean, 'card_holds'). Laid BY PROGRAM, IN A SANDBOX (cutbox-door.mjs). By AI agents, Wed Nov 11 2026. No macro, syntax, notation, axiom, sorry.
-/
import Derived.Test.YtihgjihdmlomaaaDoorRows
import GoSem.ClaimSeven
namespace Go.Proofs.YtihgjihdmlomaaaDoor
namespace Rows

/-- THE TIED CARD OF 'kindredlaw6.BlockBuild'. -/
def blockBuildCard : Claim7 := { stood := { row := blockBuildRow, standIns := [], harness := (true, "d618364e7d8234267d8eb7a3ff5e5fe7fe5b40e01c2523fbf67073aec251a5b9"), looks := false }, kinds := [], alts := [], laidByText := true, laidKinds := [.data], laidTests := true, laidLooks := .later }
def BlockBuildCardSaid : Prop := Claim7.holds Tryd.pinned (.plain (OpenSpec.ofChange blockBuildSpec)) blockBuildCard

/-- THE TIED CARD OF 'kindredlaw6.BlockTwo'. -/
def blockTwoCard : Claim7 := { stood := { row := blockTwoRow, standIns := [], harness := (true, "d618364e7d8234267d8eb7a3ff5e5fe7fe5b40e01c2523fbf67073aec251a5b9"), looks := false }, kinds := [], alts := [], laidByText := true, laidKinds := [.data], laidTests := true, laidLooks := .later }
def BlockTwoCardSaid : Prop := Claim7.holds Tryd.pinned (.plain (OpenSpec.ofChange blockTwoSpec)) blockTwoCard

/-- THE TIED CARD OF 'kindredlaw6.BlockFound'. -/
def blockFoundCard : Claim7 := { stood := { row := blockFoundRow, standIns := [], harness := (true, "d618364e7d8234267d8eb7a3ff5e5fe7fe5b40e01c2523fbf67073aec251a5b9"), looks := false }, kinds := [], alts := [], laidByText := true, laidKinds := [.data], laidTests := true, laidLooks := .later }
def BlockFoundCardSaid : Prop := Claim7.holds Tryd.pinned (.plain (OpenSpec.ofChange blockFoundSpec)) blockFoundCard

/-- THE TIED CARD OF 'kindredlaw6.BlockSpoilt'. -/
def blockSpoiltCard : Claim7 := { stood := { row := blockSpoiltRow, standIns := [], harness := (true, "d618364e7d8234267d8eb7a3ff5e5fe7fe5b40e01c2523fbf67073aec251a5b9"), looks := false }, kinds := [], alts := [], laidByText := true, laidKinds := [.data], laidTests := true, laidLooks := .later }
def BlockSpoiltCardSaid : Prop := Claim7.holds Tryd.pinned (.plain (OpenSpec.ofChange blockSpoiltSpec)) blockSpoiltCard

/-- THE TIED CARD OF 'kindredlaw6.BlockLists'. -/
def blockListsCard : Claim7 := { stood := { row := blockListsRow, standIns := [], harness := (true, "d618364e7d8234267d8eb7a3ff5e5fe7fe5b40e01c2523fbf67073aec251a5b9"), looks := false }, kinds := [], alts := [], laidByText := true, laidKinds := [.data], laidTests := true, laidLooks := .later }
def BlockListsCardSaid : Prop := Claim7.holds Tryd.pinned (.plain (OpenSpec.ofChange blockListsSpec)) blockListsCard

/-- THE TIED CARD OF 'kindredlaw6.BlockBack'. -/
def blockBackCard : Claim7 := { stood := { row := blockBackRow, standIns := [], harness := (true, "d618364e7d8234267d8eb7a3ff5e5fe7fe5b40e01c2523fbf67073aec251a5b9"), looks := false }, kinds := [], alts := [], laidByText := true, laidKinds := [.data], laidTests := true, laidLooks := .later }
def BlockBackCardSaid : Prop := Claim7.holds Tryd.pinned (.plain (OpenSpec.ofChange blockBackSpec)) blockBackCard

/-- THE TIED CARD OF 'kindredlaw6.BlockOpens'. -/
def blockOpensCard : Claim7 := { stood := { row := blockOpensRow, standIns := [], harness := (true, "d618364e7d8234267d8eb7a3ff5e5fe7fe5b40e01c2523fbf67073aec251a5b9"), looks := false }, kinds := [], alts := [], laidByText := true, laidKinds := [.data], laidTests := true, laidLooks := .later }
def BlockOpensCardSaid : Prop := Claim7.holds Tryd.pinned (.plain (OpenSpec.ofChange blockOpensSpec)) blockOpensCard

/-- THE TIED CARD OF 'kindredlaw6.BlockLittle'. -/
def blockLittleCard : Claim7 := { stood := { row := blockLittleRow, standIns := [], harness := (true, "d618364e7d8234267d8eb7a3ff5e5fe7fe5b40e01c2523fbf67073aec251a5b9"), looks := false }, kinds := [], alts := [], laidByText := true, laidKinds := [.data], laidTests := true, laidLooks := .later }
def BlockLittleCardSaid : Prop := Claim7.holds Tryd.pinned (.plain (OpenSpec.ofChange blockLittleSpec)) blockLittleCard

/-- THE SECOND FORM's CARD OF 'kindredlaw6.BlockBuild'. -/
def blockBuildUptoCard : Claim7 := { stood := { row := blockBuildUptoRow, standIns := [], harness := (true, "d618364e7d8234267d8eb7a3ff5e5fe7fe5b40e01c2523fbf67073aec251a5b9"), looks := false }, kinds := [], alts := [], laidByText := true, laidKinds := [.data], laidTests := true, laidLooks := .later }
def BlockBuildUptoCardSaid : Prop := Claim7.holds Tryd.pinned (.plain (OpenSpec.upto blockBuildSpec)) blockBuildUptoCard

/-- THE SECOND FORM's CARD OF 'kindredlaw6.BlockTwo'. -/
def blockTwoUptoCard : Claim7 := { stood := { row := blockTwoUptoRow, standIns := [], harness := (true, "d618364e7d8234267d8eb7a3ff5e5fe7fe5b40e01c2523fbf67073aec251a5b9"), looks := false }, kinds := [], alts := [], laidByText := true, laidKinds := [.data], laidTests := true, laidLooks := .later }
def BlockTwoUptoCardSaid : Prop := Claim7.holds Tryd.pinned (.plain (OpenSpec.upto blockTwoSpec)) blockTwoUptoCard

/-- THE SECOND FORM's CARD OF 'kindredlaw6.BlockFound'. -/
def blockFoundUptoCard : Claim7 := { stood := { row := blockFoundUptoRow, standIns := [], harness := (true, "d618364e7d8234267d8eb7a3ff5e5fe7fe5b40e01c2523fbf67073aec251a5b9"), looks := false }, kinds := [], alts := [], laidByText := true, laidKinds := [.data], laidTests := true, laidLooks := .later }
def BlockFoundUptoCardSaid : Prop := Claim7.holds Tryd.pinned (.plain (OpenSpec.upto blockFoundSpec)) blockFoundUptoCard

/-- THE SECOND FORM's CARD OF 'kindredlaw6.BlockSpoilt'. -/
def blockSpoiltUptoCard : Claim7 := { stood := { row := blockSpoiltUptoRow, standIns := [], harness := (true, "d618364e7d8234267d8eb7a3ff5e5fe7fe5b40e01c2523fbf67073aec251a5b9"), looks := false }, kinds := [], alts := [], laidByText := true, laidKinds := [.data], laidTests := true, laidLooks := .later }
def BlockSpoiltUptoCardSaid : Prop := Claim7.holds Tryd.pinned (.plain (OpenSpec.upto blockSpoiltSpec)) blockSpoiltUptoCard

/-- THE SECOND FORM's CARD OF 'kindredlaw6.BlockLists'. -/
def blockListsUptoCard : Claim7 := { stood := { row := blockListsUptoRow, standIns := [], harness := (true, "d618364e7d8234267d8eb7a3ff5e5fe7fe5b40e01c2523fbf67073aec251a5b9"), looks := false }, kinds := [], alts := [], laidByText := true, laidKinds := [.data], laidTests := true, laidLooks := .later }
def BlockListsUptoCardSaid : Prop := Claim7.holds Tryd.pinned (.plain (OpenSpec.upto blockListsSpec)) blockListsUptoCard

/-- THE SECOND FORM's CARD OF 'kindredlaw6.BlockBack'. -/
def blockBackUptoCard : Claim7 := { stood := { row := blockBackUptoRow, standIns := [], harness := (true, "d618364e7d8234267d8eb7a3ff5e5fe7fe5b40e01c2523fbf67073aec251a5b9"), looks := false }, kinds := [], alts := [], laidByText := true, laidKinds := [.data], laidTests := true, laidLooks := .later }
def BlockBackUptoCardSaid : Prop := Claim7.holds Tryd.pinned (.plain (OpenSpec.upto blockBackSpec)) blockBackUptoCard

/-- THE SECOND FORM's CARD OF 'kindredlaw6.BlockOpens'. -/
def blockOpensUptoCard : Claim7 := { stood := { row := blockOpensUptoRow, standIns := [], harness := (true, "d618364e7d8234267d8eb7a3ff5e5fe7fe5b40e01c2523fbf67073aec251a5b9"), looks := false }, kinds := [], alts := [], laidByText := true, laidKinds := [.data], laidTests := true, laidLooks := .later }
def BlockOpensUptoCardSaid : Prop := Claim7.holds Tryd.pinned (.plain (OpenSpec.upto blockOpensSpec)) blockOpensUptoCard

/-- THE SECOND FORM's CARD OF 'kindredlaw6.BlockLittle'. -/
def blockLittleUptoCard : Claim7 := { stood := { row := blockLittleUptoRow, standIns := [], harness := (true, "d618364e7d8234267d8eb7a3ff5e5fe7fe5b40e01c2523fbf67073aec251a5b9"), looks := false }, kinds := [], alts := [], laidByText := true, laidKinds := [.data], laidTests := true, laidLooks := .later }
def BlockLittleUptoCardSaid : Prop := Claim7.holds Tryd.pinned (.plain (OpenSpec.upto blockLittleSpec)) blockLittleUptoCard
end Rows
end Go.Proofs.YtihgjihdmlomaaaDoor
