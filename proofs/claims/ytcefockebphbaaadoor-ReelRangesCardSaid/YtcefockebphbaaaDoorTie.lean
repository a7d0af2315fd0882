/-
  DERIVED. GIVEN WITH THE SEED: THE PROGRAM's TIES (one call each: nine closed facts by the kernel) AND EACH ROW's TIE, after the 31st guide's Derived/Test/Toyas{Tie, Card}.lean. No idea stands in it: it is a product of the set-up. Laid BY PROGRAM, IN A SANDBOX (cutbox-door.mjs). By AI agents, Wed Nov 11 2026. No macro, syntax, notation, axiom, sorry.
-/
import Derived.Test.YtcefockebphbaaaDoorRows
import Derived.LaidByTextLater
import Derived.SevenTiedAt
import Derived.LaidSub
import Derived.LaidOnce
namespace Go.Proofs.YtcefockebphbaaaDoor
open Go
set_option maxRecDepth 100000
theorem seatTie1 : Tryd.prog.laidByTextLater [("sluice/platter.fit", Rows.laid_sluice_platter_fit), ("sluice/grain.steps", Rows.laid_sluice_grain_steps)] [.widerDeep, .data] true :=
  Program.laidByTextLater_by_one 28 8 17 (by kernel_rfl) (by kernel_rfl) (by kernel_rfl) (by kernel_rfl) (by kernel_rfl) (by kernel_rfl) (fun _ _ => by kernel_rfl)
theorem noOwnUnsafe : Tryd.pinned.checked.prog.headLifts.contains "ownunsafe" = false := by kernel_rfl
theorem tie : Tryd.prog.laidByTextLater [("sluice/platter.fit", Rows.laid_sluice_platter_fit), ("sluice/grain.steps", Rows.laid_sluice_grain_steps)] [.widerDeep, .data] true :=
  Program.laidByTextLater.sub seatTie1 ["sluice/platter.fit", "sluice/grain.steps"] (by kernel_rfl) (by kernel_rfl)
theorem reelCut_row_tie : Rows.reelCutRow.laidByTextAt .later Tryd.pinned [.widerDeep, .data] true :=
  OpenClaim.laidByTextAt_later rfl rfl tie noOwnUnsafe
theorem reelTrue_row_tie : Rows.reelTrueRow.laidByTextAt .later Tryd.pinned [.widerDeep, .data] true :=
  OpenClaim.laidByTextAt_later rfl rfl tie noOwnUnsafe
theorem tie2 : Tryd.prog.laidByTextLater [("sluice/grain.steps", Rows.laid_sluice_grain_steps)] [.data] true :=
  Program.laidByTextLater.sub seatTie1 ["sluice/grain.steps"] (by kernel_rfl) (by kernel_rfl)
theorem reelRanges_row_tie : Rows.reelRangesRow.laidByTextAt .later Tryd.pinned [.data] true :=
  OpenClaim.laidByTextAt_later rfl rfl tie2 noOwnUnsafe
theorem reelCutUpto_row_tie : Rows.reelCutUptoRow.laidByTextAt .later Tryd.pinned [.widerDeep, .data] true :=
  OpenClaim.laidByTextAt_later rfl rfl tie noOwnUnsafe
theorem reelRangesUpto_row_tie : Rows.reelRangesUptoRow.laidByTextAt .later Tryd.pinned [.data] true :=
  OpenClaim.laidByTextAt_later rfl rfl tie2 noOwnUnsafe
theorem reelTrueUpto_row_tie : Rows.reelTrueUptoRow.laidByTextAt .later Tryd.pinned [.widerDeep, .data] true :=
  OpenClaim.laidByTextAt_later rfl rfl tie noOwnUnsafe
end Go.Proofs.YtcefockebphbaaaDoor
