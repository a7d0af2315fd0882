/-
  DERIVED. GIVEN WITH THE SEED: THE CARDS: each row of YtbcldnhfhioojaaDoorRows.lean that lists a variable, with what it lists TIED to the program's text (the seventh form; the later family's looks); each row that meets fmt, with fmt's text TOLD by the authors' own Lean function (tested against real Go, not proved from fmt's source: count such statements apart). THE CARD IS WHAT COUNTS. Prove the row's statement (the work); the ties are given (YtbcldnhfhioojaaDoorTie.lean); close each card by the builder's one call (the guide's Derived/Test/ToyasCard.lean, 'card_holds'). Laid BY PROGRAM, IN A SANDBOX (cutbox-door.mjs). By AI agents, Wed Nov 11 2026. No macro, syntax, notation, axiom, sorry.
-/
import Derived.Test.YtbcldnhfhioojaaDoorRows
import GoSem.ClaimSeven
namespace Go.Proofs.YtbcldnhfhioojaaDoor
namespace Rows

/-- THE TIED CARD OF 'sluicelaw06.ReelCut'. -/
def reelCutCard : Claim7 := { stood := { row := reelCutRow, standIns := [], harness := (true, "e53b4f526c282132bf60dc8c3222be006567a7604daf37d96df1def845962bb0"), looks := true }, kinds := [], alts := [], laidByText := true, laidKinds := [.widerDeep, .data], laidTests := true, laidLooks := .later }
def ReelCutCardSaid : Prop := Claim7.holds Tryd.pinned (.plain (OpenSpec.ofChange reelCutSpec)) reelCutCard

/-- THE TIED CARD OF 'sluicelaw06.ReelRanges'. -/
def reelRangesCard : Claim7 := { stood := { row := reelRangesRow, standIns := [], harness := (true, "e53b4f526c282132bf60dc8c3222be006567a7604daf37d96df1def845962bb0"), looks := true }, kinds := [], alts := [], laidByText := true, laidKinds := [.data], laidTests := true, laidLooks := .later }
def ReelRangesCardSaid : Prop := Claim7.holds Tryd.pinned (.plain (OpenSpec.ofChange reelRangesSpec)) reelRangesCard

/-- THE TIED CARD OF 'sluicelaw06.ReelTrue'. -/
def reelTrueCard : Claim7 := { stood := { row := reelTrueRow, standIns := [], harness := (true, "e53b4f526c282132bf60dc8c3222be006567a7604daf37d96df1def845962bb0"), looks := true }, kinds := [], alts := [], laidByText := true, laidKinds := [.widerDeep, .data], laidTests := true, laidLooks := .later }
def ReelTrueCardSaid : Prop := Claim7.holds Tryd.pinned (.plain (OpenSpec.ofChange reelTrueSpec)) reelTrueCard

/-- THE TIED CARD OF 'sluicelaw06.ReelNil'. -/
def reelNilCard : Claim7 := { stood := { row := reelNilRow, standIns := [], harness := (true, "e53b4f526c282132bf60dc8c3222be006567a7604daf37d96df1def845962bb0"), looks := true }, kinds := [], alts := [], laidByText := true, laidKinds := [.data], laidTests := true, laidLooks := .later }
def ReelNilCardSaid : Prop := Claim7.holds Tryd.pinned (.plain (OpenSpec.ofChange reelNilSpec)) reelNilCard

/-- THE SECOND FORM's CARD OF 'sluicelaw06.ReelCut'. -/
def reelCutUptoCard : Claim7 := { stood := { row := reelCutUptoRow, standIns := [], harness := (true, "e53b4f526c282132bf60dc8c3222be006567a7604daf37d96df1def845962bb0"), looks := true }, kinds := [], alts := [], laidByText := true, laidKinds := [.widerDeep, .data], laidTests := true, laidLooks := .later }
def ReelCutUptoCardSaid : Prop := Claim7.holds Tryd.pinned (.plain (OpenSpec.upto reelCutSpec)) reelCutUptoCard

/-- THE SECOND FORM's CARD OF 'sluicelaw06.ReelRanges'. -/
def reelRangesUptoCard : Claim7 := { stood := { row := reelRangesUptoRow, standIns := [], harness := (true, "e53b4f526c282132bf60dc8c3222be006567a7604daf37d96df1def845962bb0"), looks := true }, kinds := [], alts := [], laidByText := true, laidKinds := [.data], laidTests := true, laidLooks := .later }
def ReelRangesUptoCardSaid : Prop := Claim7.holds Tryd.pinned (.plain (OpenSpec.upto reelRangesSpec)) reelRangesUptoCard

/-- THE SECOND FORM's CARD OF 'sluicelaw06.ReelTrue'. -/
def reelTrueUptoCard : Claim7 := { stood := { row := reelTrueUptoRow, standIns := [], harness := (true, "e53b4f526c282132bf60dc8c3222be006567a7604daf37d96df1def845962bb0"), looks := true }, kinds := [], alts := [], laidByText := true, laidKinds := [.widerDeep, .data], laidTests := true, laidLooks := .later }
def ReelTrueUptoCardSaid : Prop := Claim7.holds Tryd.pinned (.plain (OpenSpec.upto reelTrueSpec)) reelTrueUptoCard

/-- THE SECOND FORM's CARD OF 'sluicelaw06.ReelNil'. -/
def reelNilUptoCard : Claim7 := { stood := { row := reelNilUptoRow, standIns := [], harness := (true, "e53b4f526c282132bf60dc8c3222be006567a7604daf37d96df1def845962bb0"), looks := true }, kinds := [], alts := [], laidByText := true, laidKinds := [.data], laidTests := true, laidLooks := .later }
def ReelNilUptoCardSaid : Prop := Claim7.holds Tryd.pinned (.plain (OpenSpec.upto reelNilSpec)) reelNilUptoCard
end Rows
end Go.Proofs.YtbcldnhfhioojaaDoor
