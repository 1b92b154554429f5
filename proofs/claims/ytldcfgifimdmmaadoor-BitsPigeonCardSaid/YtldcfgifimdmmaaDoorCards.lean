/-
  DERIVED. GIVEN WITH THE SEED: THE CARDS: each row of YtldcfgifimdmmaaDoorRows.lean that lists a variable, with what it lists TIED to the program's text (the seventh form; the later family's looks); each row that meets fmt, with fmt's text TOLD by the authors' own Lean function (tested against real Go, not proved from fmt's source: count such statements apart). THE CARD IS WHAT COUNTS. Prove the row's statement (the work); the ties are given (YtldcfgifimdmmaaDoorTie.lean); close each card by the builder's one call (the guide's Derived/Test/ToyasCard.lean, 'card_holds'). Laid BY PROGRAM, IN A SANDBOX (cutbox-door.mjs). By AI agents, Wed Nov 11 2026. No macro, syntax, notation, axiom, sorry.
-/
import Derived.Test.YtldcfgifimdmmaaDoorRows
import GoSem.ClaimSeven
namespace Go.Proofs.YtldcfgifimdmmaaDoor
namespace Rows

/-- THE TIED CARD OF 'kindredlaw1.BitsMetric'. -/
def bitsMetricCard : Claim7 := { stood := { row := bitsMetricRow, standIns := [], harness := (true, "93b6d92f96a08c0a34d8f8492b13e2caa8009365199448f87c5c9030d37af962"), looks := false }, kinds := [], alts := [], laidByText := true, laidKinds := [.data], laidTests := true, laidLooks := .later }
def BitsMetricCardSaid : Prop := Claim7.holds Tryd.pinned (.plain (OpenSpec.ofChange bitsMetricSpec)) bitsMetricCard

/-- THE TIED CARD OF 'kindredlaw1.BitsFlips'. -/
def bitsFlipsCard : Claim7 := { stood := { row := bitsFlipsRow, standIns := [], harness := (true, "93b6d92f96a08c0a34d8f8492b13e2caa8009365199448f87c5c9030d37af962"), looks := false }, kinds := [], alts := [], laidByText := true, laidKinds := [.data], laidTests := true, laidLooks := .later }
def BitsFlipsCardSaid : Prop := Claim7.holds Tryd.pinned (.plain (OpenSpec.ofChange bitsFlipsSpec)) bitsFlipsCard

/-- THE TIED CARD OF 'kindredlaw1.BitsCodes'. -/
def bitsCodesCard : Claim7 := { stood := { row := bitsCodesRow, standIns := [], harness := (true, "93b6d92f96a08c0a34d8f8492b13e2caa8009365199448f87c5c9030d37af962"), looks := false }, kinds := [], alts := [], laidByText := true, laidKinds := [.data], laidTests := true, laidLooks := .later }
def BitsCodesCardSaid : Prop := Claim7.holds Tryd.pinned (.plain (OpenSpec.ofChange bitsCodesSpec)) bitsCodesCard

/-- THE TIED CARD OF 'kindredlaw1.BitsPigeon'. -/
def bitsPigeonCard : Claim7 := { stood := { row := bitsPigeonRow, standIns := [], harness := (true, "93b6d92f96a08c0a34d8f8492b13e2caa8009365199448f87c5c9030d37af962"), looks := false }, kinds := [], alts := [], laidByText := true, laidKinds := [.data], laidTests := true, laidLooks := .later }
def BitsPigeonCardSaid : Prop := Claim7.holds Tryd.pinned (.plain (OpenSpec.ofChange bitsPigeonSpec)) bitsPigeonCard

/-- THE SECOND FORM's CARD OF 'kindredlaw1.BitsMetric'. -/
def bitsMetricUptoCard : Claim7 := { stood := { row := bitsMetricUptoRow, standIns := [], harness := (true, "93b6d92f96a08c0a34d8f8492b13e2caa8009365199448f87c5c9030d37af962"), looks := false }, kinds := [], alts := [], laidByText := true, laidKinds := [.data], laidTests := true, laidLooks := .later }
def BitsMetricUptoCardSaid : Prop := Claim7.holds Tryd.pinned (.plain (OpenSpec.upto bitsMetricSpec)) bitsMetricUptoCard

/-- THE SECOND FORM's CARD OF 'kindredlaw1.BitsFlips'. -/
def bitsFlipsUptoCard : Claim7 := { stood := { row := bitsFlipsUptoRow, standIns := [], harness := (true, "93b6d92f96a08c0a34d8f8492b13e2caa8009365199448f87c5c9030d37af962"), looks := false }, kinds := [], alts := [], laidByText := true, laidKinds := [.data], laidTests := true, laidLooks := .later }
def BitsFlipsUptoCardSaid : Prop := Claim7.holds Tryd.pinned (.plain (OpenSpec.upto bitsFlipsSpec)) bitsFlipsUptoCard

/-- THE SECOND FORM's CARD OF 'kindredlaw1.BitsCodes'. -/
def bitsCodesUptoCard : Claim7 := { stood := { row := bitsCodesUptoRow, standIns := [], harness := (true, "93b6d92f96a08c0a34d8f8492b13e2caa8009365199448f87c5c9030d37af962"), looks := false }, kinds := [], alts := [], laidByText := true, laidKinds := [.data], laidTests := true, laidLooks := .later }
def BitsCodesUptoCardSaid : Prop := Claim7.holds Tryd.pinned (.plain (OpenSpec.upto bitsCodesSpec)) bitsCodesUptoCard

/-- THE SECOND FORM's CARD OF 'kindredlaw1.BitsPigeon'. -/
def bitsPigeonUptoCard : Claim7 := { stood := { row := bitsPigeonUptoRow, standIns := [], harness := (true, "93b6d92f96a08c0a34d8f8492b13e2caa8009365199448f87c5c9030d37af962"), looks := false }, kinds := [], alts := [], laidByText := true, laidKinds := [.data], laidTests := true, laidLooks := .later }
def BitsPigeonUptoCardSaid : Prop := Claim7.holds Tryd.pinned (.plain (OpenSpec.upto bitsPigeonSpec)) bitsPigeonUptoCard
end Rows
end Go.Proofs.YtldcfgifimdmmaaDoor
