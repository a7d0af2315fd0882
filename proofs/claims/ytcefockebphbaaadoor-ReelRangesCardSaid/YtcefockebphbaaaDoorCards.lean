/-
  DERIVED. GIVEN WITH THE SEED: THE CARDS: each row of YtcefockebphbaaaDoorRows.lean that lists a variable, with what it lists TIED to the program's text (the seventh form; the later family's looks); each row that meets fmt, with fmt's text TOLD by the authors' own Lean function (tested against real Go, not proved from fmt's source: count such statements apart). THE CARD IS WHAT COUNTS. Prove the row's statement (the work); the ties are given (YtcefockebphbaaaDoorTie.lean); close each card by the builder's one call (the guide's Derived/Test/ToyasCard.lean, 'card_holds'). Laid BY PROGRAM, IN A SANDBOX (cutbox-door.mjs). By AI agents, Wed Nov 11 2026. No macro, syntax, notation, axiom, sorry.
-/
import Derived.Test.YtcefockebphbaaaDoorRows
import GoSem.ClaimSeven
namespace Go.Proofs.YtcefockebphbaaaDoor
namespace Rows

/-- THE TIED CARD OF 'sluicelaw06.ReelCut'. -/
def reelCutCard : Claim7 := { stood := { row := reelCutRow, standIns := [], harness := (true, "4377b84c00db96815df305e6331d7eda34069f7d5e1c5c464e1dfa39b2f95d75"), looks := false }, kinds := [], alts := [], laidByText := true, laidKinds := [.widerDeep, .data], laidTests := true, laidLooks := .later }
def ReelCutCardSaid : Prop := Claim7.holds Tryd.pinned (.plain (OpenSpec.ofChange reelCutSpec)) reelCutCard

/-- THE TIED CARD OF 'sluicelaw06.ReelRanges'. -/
def reelRangesCard : Claim7 := { stood := { row := reelRangesRow, standIns := [], harness := (true, "4377b84c00db96815df305e6331d7eda34069f7d5e1c5c464e1dfa39b2f95d75"), looks := false }, kinds := [], alts := [], laidByText := true, laidKinds := [.data], laidTests := true, laidLooks := .later }
def ReelRangesCardSaid : Prop := Claim7.holds Tryd.pinned (.plain (OpenSpec.ofChange reelRangesSpec)) reelRangesCard

/-- THE TIED CARD OF 'sluicelaw06.ReelTrue'. -/
def reelTrueCard : Claim7 := { stood := { row := reelTrueRow, standIns := [], harness := (true, "4377b84c00db96815df305e6331d7eda34069f7d5e1c5c464e1dfa39b2f95d75"), looks := false }, kinds := [], alts := [], laidByText := true, laidKinds := [.widerDeep, .data], laidTests := true, laidLooks := .later }
def ReelTrueCardSaid : Prop := Claim7.holds Tryd.pinned (.plain (OpenSpec.ofChange reelTrueSpec)) reelTrueCard

/-- THE SECOND FORM's CARD OF 'sluicelaw06.ReelCut'. -/
def reelCutUptoCard : Claim7 := { stood := { row := reelCutUptoRow, standIns := [], harness := (true, "4377b84c00db96815df305e6331d7eda34069f7d5e1c5c464e1dfa39b2f95d75"), looks := false }, kinds := [], alts := [], laidByText := true, laidKinds := [.widerDeep, .data], laidTests := true, laidLooks := .later }
def ReelCutUptoCardSaid : Prop := Claim7.holds Tryd.pinned (.plain (OpenSpec.upto reelCutSpec)) reelCutUptoCard

/-- THE SECOND FORM's CARD OF 'sluicelaw06.ReelRanges'. -/
def reelRangesUptoCard : Claim7 := { stood := { row := reelRangesUptoRow, standIns := [], harness := (true, "4377b84c00db96815df305e6331d7eda34069f7d5e1c5c464e1dfa39b2f95d75"), looks := false }, kinds := [], alts := [], laidByText := true, laidKinds := [.data], laidTests := true, laidLooks := .later }
def ReelRangesUptoCardSaid : Prop := Claim7.holds Tryd.pinned (.plain (OpenSpec.upto reelRangesSpec)) reelRangesUptoCard

/-- THE SECOND FORM's CARD OF 'sluicelaw06.ReelTrue'. -/
def reelTrueUptoCard : Claim7 := { stood := { row := reelTrueUptoRow, standIns := [], harness := (true, "4377b84c00db96815df305e6331d7eda34069f7d5e1c5c464e1dfa39b2f95d75"), looks := false }, kinds := [], alts := [], laidByText := true, laidKinds := [.widerDeep, .data], laidTests := true, laidLooks := .later }
def ReelTrueUptoCardSaid : Prop := Claim7.holds Tryd.pinned (.plain (OpenSpec.upto reelTrueSpec)) reelTrueUptoCard
end Rows
end Go.Proofs.YtcefockebphbaaaDoor
