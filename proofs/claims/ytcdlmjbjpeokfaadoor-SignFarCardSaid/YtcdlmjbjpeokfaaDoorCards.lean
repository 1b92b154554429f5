/-
  DERIVED. GIVEN WITH THE SEED: THE CARDS: each row of YtcdlmjbjpeokfaaDoorRows.lean that lists a variable, with what it lists TIED to the program's text (the seventh form; the later family's looks); each row that meets fmt, with fmt's text TOLD by the authors' own Lean function (tested against real Go, not proved from fmt's source: count such statements apart). THE CARD IS WHAT COUNTS. Prove the row's statement (the work); the ties are given (YtcdlmjbjpeokfaaDoorTie.lean); close each card by the builder's one call (the guide's Derived/Test/ToyasCard.lean, 'card_holds'). Laid BY PROGRAM, IN A SANDBOX (cutbox-door.mjs). By AI agents, Wed Nov 11 2026. No macro, syntax, notation, axiom, sorry.
-/
import Derived.Test.YtcdlmjbjpeokfaaDoorRows
import GoSem.ClaimSeven
namespace Go.Proofs.YtcdlmjbjpeokfaaDoor
namespace Rows

/-- THE TIED CARD OF 'kindredlaw19.SignFar'. -/
def signFarCard : Claim7 := { stood := { row := signFarRow, standIns := [], harness := (true, "47d8e59240280b2288a9003abc13c8326eb719e86d7a622ffbe381b62b96a468"), looks := false }, kinds := [], alts := [], laidByText := true, laidKinds := [.data], laidTests := true, laidLooks := .later }
def SignFarCardSaid : Prop := Claim7.holds Tryd.pinned (.plain (OpenSpec.ofChange signFarSpec)) signFarCard

/-- THE SECOND FORM's CARD OF 'kindredlaw19.SignFar'. -/
def signFarUptoCard : Claim7 := { stood := { row := signFarUptoRow, standIns := [], harness := (true, "47d8e59240280b2288a9003abc13c8326eb719e86d7a622ffbe381b62b96a468"), looks := false }, kinds := [], alts := [], laidByText := true, laidKinds := [.data], laidTests := true, laidLooks := .later }
def SignFarUptoCardSaid : Prop := Claim7.holds Tryd.pinned (.plain (OpenSpec.upto signFarSpec)) signFarUptoCard
end Rows
end Go.Proofs.YtcdlmjbjpeokfaaDoor
