/-
  DERIVED. GIVEN WITH THE SEED: THE CARDS: each row of YtcefockebphbaaaGreatDoorRows.lean that lists a variable, with what it lists TIED to the program's text (the seventh form; the later family's looks); each row that meets fmt, with fmt's text TOLD by the authors' own Lean function (tested against real Go, not proved from fmt's source: count such statements apart). THE CARD IS WHAT COUNTS. Prove the row's statement (the work); the ties are given (YtcefockebphbaaaGreatDoorTie.lean); close each card by the builder's one call (the guide's Derived/Test/ToyasCard.lean, 'card_holds'). Laid BY PROGRAM, IN A SANDBOX (cutbox-door.mjs). By AI agents, Wed Nov 11 2026. No macro, syntax, notation, axiom, sorry.
-/
import Derived.Test.YtcefockebphbaaaGreatDoorRows
import GoSem.ClaimSeven
namespace Go.Proofs.YtcefockebphbaaaGreatDoor
namespace Rows

/-- THE TIED CARD OF 'sluicelaw09.SieveNil'. -/
def sieveNilCard : Claim7 := { stood := { row := sieveNilRow, standIns := [], harness := (true, "da5c9475b96bf31201a77efadf3831671d7008f90a38c4ab77f586743b7c8bf7"), looks := false }, kinds := [], alts := [], laidByText := true, laidKinds := [.data, .data, .data, .data], laidTests := true, laidLooks := .later }
def SieveNilCardSaid : Prop := Claim7.holds Tryz.pinned (.plain (OpenSpec.ofChange sieveNilSpec)) sieveNilCard

/-- THE SECOND FORM's CARD OF 'sluicelaw09.SieveNil'. -/
def sieveNilUptoCard : Claim7 := { stood := { row := sieveNilUptoRow, standIns := [], harness := (true, "da5c9475b96bf31201a77efadf3831671d7008f90a38c4ab77f586743b7c8bf7"), looks := false }, kinds := [], alts := [], laidByText := true, laidKinds := [.data, .data, .data, .data], laidTests := true, laidLooks := .later }
def SieveNilUptoCardSaid : Prop := Claim7.holds Tryz.pinned (.plain (OpenSpec.upto sieveNilSpec)) sieveNilUptoCard
end Rows
end Go.Proofs.YtcefockebphbaaaGreatDoor
