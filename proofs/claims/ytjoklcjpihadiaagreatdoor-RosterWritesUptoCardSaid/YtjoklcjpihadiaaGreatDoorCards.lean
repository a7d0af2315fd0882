/-
  DERIVED. GIVEN WITH THE SEED: THE CARDS: each row of YtjoklcjpihadiaaGreatDoorRows.lean that lists a variable, with what it lists TIED to the program's text (the seventh form; the later family's looks); each row that meets fmt, with fmt's text TOLD by the authors' own Lean function (tested against real Go, not proved from fmt's source: count such statements apart). THE CARD IS WHAT COUNTS. Prove the row's statement (the work); the ties are given (YtjoklcjpihadiaaGreatDoorTie.lean); close each card by the builder's one call (the guide's Derived/Test/ToyasCard.lean, 'card_holds'). Laid BY PROGRAM, IN A SANDBOX (cutbox-door.mjs). By AI agents, Wed Nov 11 2026. No macro, syntax, notation, axiom, sorry.
-/
import Derived.Test.YtjoklcjpihadiaaGreatDoorRows
import GoSem.ClaimSeven
namespace Go.Proofs.YtjoklcjpihadiaaGreatDoor
namespace Rows

/-- THE TIED CARD OF 'sluicelaw07.RosterWrites'. -/
def rosterWritesCard : Claim7 := { stood := { row := rosterWritesRow, standIns := [], harness := (true, "1800623739f7696eaf5d43b3ad606451fbe37bf13d8f214f85cec6655bc45215"), looks := true }, kinds := [], alts := [], laidByText := true, laidKinds := [.data, .pinned], laidTests := true, laidLooks := .later }
def RosterWritesCardSaid : Prop := Claim7.holds Tryz.pinned (.plain (OpenSpec.ofChange rosterWritesSpec)) rosterWritesCard

/-- THE SECOND FORM's CARD OF 'sluicelaw07.RosterWrites'. -/
def rosterWritesUptoCard : Claim7 := { stood := { row := rosterWritesUptoRow, standIns := [], harness := (true, "1800623739f7696eaf5d43b3ad606451fbe37bf13d8f214f85cec6655bc45215"), looks := true }, kinds := [], alts := [], laidByText := true, laidKinds := [.data, .pinned], laidTests := true, laidLooks := .later }
def RosterWritesUptoCardSaid : Prop := Claim7.holds Tryz.pinned (.plain (OpenSpec.upto rosterWritesSpec)) rosterWritesUptoCard
end Rows
end Go.Proofs.YtjoklcjpihadiaaGreatDoor
