/-
  DERIVED. GIVEN WITH THE SEED: THE PROGRAM's TIES (one call each: nine closed facts by the kernel) AND EACH ROW's TIE, after the 31st guide's Derived/Test/Toyas{Tie, Card}.lean. No idea stands in it: it is a product of the set-up. Laid BY PROGRAM, IN A SANDBOX (cutbox-door.mjs). By AI agents, Wed Nov 11 2026. No macro, syntax, notation, axiom, sorry.
-/
import Derived.Test.YtligaclbjnccgaaDoorRRows
import Derived.LaidByTextLater
import Derived.SevenTiedAt
import Derived.LaidSub
import Derived.LaidOnce
namespace Go.Proofs.YtligaclbjnccgaaDoorR
open Go
set_option maxRecDepth 100000
theorem seatTie1 : Tryd.prog.laidByTextLater [("simulacrum/simulacrumref02.constants", Rows.laid_simulacrum_simulacrumref02_constants), ("simulacrum/hash.constants", Rows.laid_simulacrum_hash_constants)] [.data, .data] true :=
  Program.laidByTextLater_by_one 19 8 65 (by kernel_rfl) (by kernel_rfl) (by kernel_rfl) (by kernel_rfl) (by kernel_rfl) (by kernel_rfl) (fun _ _ => by kernel_rfl)
theorem noOwnUnsafe : Tryd.pinned.checked.prog.headLifts.contains "ownunsafe" = false := by kernel_rfl
theorem tie : Tryd.prog.laidByTextLater [("simulacrum/hash.constants", Rows.laid_simulacrum_hash_constants)] [.data] true :=
  Program.laidByTextLater.sub seatTie1 ["simulacrum/hash.constants"] (by kernel_rfl) (by kernel_rfl)
theorem balloonPlacesAsSpecified_row_tie : Rows.balloonPlacesAsSpecifiedRow.laidByTextAt .later Tryd.pinned [.data] true :=
  OpenClaim.laidByTextAt_later rfl rfl tie noOwnUnsafe
theorem balloonMovesOnePage_row_tie : Rows.balloonMovesOnePageRow.laidByTextAt .later Tryd.pinned [.data] true :=
  OpenClaim.laidByTextAt_later rfl rfl tie noOwnUnsafe
theorem balloonVictimIsPresent_row_tie : Rows.balloonVictimIsPresentRow.laidByTextAt .later Tryd.pinned [.data] true :=
  OpenClaim.laidByTextAt_later rfl rfl tie noOwnUnsafe
theorem tie2 : Tryd.prog.laidByTextLater [("simulacrum/simulacrumref02.constants", Rows.laid_simulacrum_simulacrumref02_constants), ("simulacrum/hash.constants", Rows.laid_simulacrum_hash_constants)] [.data, .data] true :=
  Program.laidByTextLater.sub seatTie1 ["simulacrum/simulacrumref02.constants", "simulacrum/hash.constants"] (by kernel_rfl) (by kernel_rfl)
theorem balloonOutlivesACopy_row_tie : Rows.balloonOutlivesACopyRow.laidByTextAt .later Tryd.pinned [.data, .data] true :=
  OpenClaim.laidByTextAt_later rfl rfl tie2 noOwnUnsafe
theorem balloonTellsHarm_row_tie : Rows.balloonTellsHarmRow.laidByTextAt .later Tryd.pinned [.data, .data] true :=
  OpenClaim.laidByTextAt_later rfl rfl tie2 noOwnUnsafe
theorem balloonPlacesAsSpecifiedUpto_row_tie : Rows.balloonPlacesAsSpecifiedUptoRow.laidByTextAt .later Tryd.pinned [.data] true :=
  OpenClaim.laidByTextAt_later rfl rfl tie noOwnUnsafe
theorem balloonMovesOnePageUpto_row_tie : Rows.balloonMovesOnePageUptoRow.laidByTextAt .later Tryd.pinned [.data] true :=
  OpenClaim.laidByTextAt_later rfl rfl tie noOwnUnsafe
theorem balloonVictimIsPresentUpto_row_tie : Rows.balloonVictimIsPresentUptoRow.laidByTextAt .later Tryd.pinned [.data] true :=
  OpenClaim.laidByTextAt_later rfl rfl tie noOwnUnsafe
theorem balloonOutlivesACopyUpto_row_tie : Rows.balloonOutlivesACopyUptoRow.laidByTextAt .later Tryd.pinned [.data, .data] true :=
  OpenClaim.laidByTextAt_later rfl rfl tie2 noOwnUnsafe
theorem balloonTellsHarmUpto_row_tie : Rows.balloonTellsHarmUptoRow.laidByTextAt .later Tryd.pinned [.data, .data] true :=
  OpenClaim.laidByTextAt_later rfl rfl tie2 noOwnUnsafe
end Go.Proofs.YtligaclbjnccgaaDoorR
