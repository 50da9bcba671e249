/-
  DERIVED. GIVEN WITH THE SEED: THE CARDS: each row of YtligaclbjnccgaaDoorRRows.lean that lists a variable, with what it lists TIED to the program's text (the seventh form; the later family's looks); each row that meets fmt, with fmt's text TOLD by the authors' own Lean function (tested against real Go, not proved from fmt's source: count such statements apart). THE CARD IS WHAT COUNTS. Prove the row's statement (the work); the ties are given (YtligaclbjnccgaaDoorRTie.lean); close each card by the builder's one call (the guide's Derived/Test/ToyasCard.lean, 'card_holds'). Laid BY PROGRAM, IN A SANDBOX (cutbox-door.mjs). By AI agents, Wed Nov 11 2026. No macro, syntax, notation, axiom, sorry.
-/
import Derived.Test.YtligaclbjnccgaaDoorRRows
import GoSem.ClaimSeven
namespace Go.Proofs.YtligaclbjnccgaaDoorR
namespace Rows

/-- THE TIED CARD OF 'simulacrumlaw27.BalloonPlacesAsSpecified'. -/
def balloonPlacesAsSpecifiedCard : Claim7 := { stood := { row := balloonPlacesAsSpecifiedRow, standIns := [], harness := (true, "5e5f964c45c68c103706dea15ae04f86220d9b6777d552893cc02b0f23a39f71"), looks := false }, kinds := [], alts := [], laidByText := true, laidKinds := [.data], laidTests := true, laidLooks := .later }
def BalloonPlacesAsSpecifiedCardSaid : Prop := Claim7.holds Tryd.pinned (.plain (OpenSpec.ofChange balloonPlacesAsSpecifiedSpec)) balloonPlacesAsSpecifiedCard

/-- THE TIED CARD OF 'simulacrumlaw27.BalloonMovesOnePage'. -/
def balloonMovesOnePageCard : Claim7 := { stood := { row := balloonMovesOnePageRow, standIns := [], harness := (true, "5e5f964c45c68c103706dea15ae04f86220d9b6777d552893cc02b0f23a39f71"), looks := false }, kinds := [], alts := [], laidByText := true, laidKinds := [.data], laidTests := true, laidLooks := .later }
def BalloonMovesOnePageCardSaid : Prop := Claim7.holds Tryd.pinned (.plain (OpenSpec.ofChange balloonMovesOnePageSpec)) balloonMovesOnePageCard

/-- THE TIED CARD OF 'simulacrumlaw27.BalloonVictimIsPresent'. -/
def balloonVictimIsPresentCard : Claim7 := { stood := { row := balloonVictimIsPresentRow, standIns := [], harness := (true, "5e5f964c45c68c103706dea15ae04f86220d9b6777d552893cc02b0f23a39f71"), looks := false }, kinds := [], alts := [], laidByText := true, laidKinds := [.data], laidTests := true, laidLooks := .later }
def BalloonVictimIsPresentCardSaid : Prop := Claim7.holds Tryd.pinned (.plain (OpenSpec.ofChange balloonVictimIsPresentSpec)) balloonVictimIsPresentCard

/-- THE TIED CARD OF 'simulacrumlaw27.BalloonOutlivesACopy'. -/
def balloonOutlivesACopyCard : Claim7 := { stood := { row := balloonOutlivesACopyRow, standIns := [], harness := (true, "5e5f964c45c68c103706dea15ae04f86220d9b6777d552893cc02b0f23a39f71"), looks := false }, kinds := [], alts := [], laidByText := true, laidKinds := [.data, .data], laidTests := true, laidLooks := .later }
def BalloonOutlivesACopyCardSaid : Prop := Claim7.holds Tryd.pinned (.plain (OpenSpec.ofChange balloonOutlivesACopySpec)) balloonOutlivesACopyCard

/-- THE TIED CARD OF 'simulacrumlaw27.BalloonTellsHarm'. -/
def balloonTellsHarmCard : Claim7 := { stood := { row := balloonTellsHarmRow, standIns := [], harness := (true, "5e5f964c45c68c103706dea15ae04f86220d9b6777d552893cc02b0f23a39f71"), looks := false }, kinds := [], alts := [], laidByText := true, laidKinds := [.data, .data], laidTests := true, laidLooks := .later }
def BalloonTellsHarmCardSaid : Prop := Claim7.holds Tryd.pinned (.plain (OpenSpec.ofChange balloonTellsHarmSpec)) balloonTellsHarmCard

/-- THE SECOND FORM's CARD OF 'simulacrumlaw27.BalloonPlacesAsSpecified'. -/
def balloonPlacesAsSpecifiedUptoCard : Claim7 := { stood := { row := balloonPlacesAsSpecifiedUptoRow, standIns := [], harness := (true, "5e5f964c45c68c103706dea15ae04f86220d9b6777d552893cc02b0f23a39f71"), looks := false }, kinds := [], alts := [], laidByText := true, laidKinds := [.data], laidTests := true, laidLooks := .later }
def BalloonPlacesAsSpecifiedUptoCardSaid : Prop := Claim7.holds Tryd.pinned (.plain (OpenSpec.upto balloonPlacesAsSpecifiedSpec)) balloonPlacesAsSpecifiedUptoCard

/-- THE SECOND FORM's CARD OF 'simulacrumlaw27.BalloonMovesOnePage'. -/
def balloonMovesOnePageUptoCard : Claim7 := { stood := { row := balloonMovesOnePageUptoRow, standIns := [], harness := (true, "5e5f964c45c68c103706dea15ae04f86220d9b6777d552893cc02b0f23a39f71"), looks := false }, kinds := [], alts := [], laidByText := true, laidKinds := [.data], laidTests := true, laidLooks := .later }
def BalloonMovesOnePageUptoCardSaid : Prop := Claim7.holds Tryd.pinned (.plain (OpenSpec.upto balloonMovesOnePageSpec)) balloonMovesOnePageUptoCard

/-- THE SECOND FORM's CARD OF 'simulacrumlaw27.BalloonVictimIsPresent'. -/
def balloonVictimIsPresentUptoCard : Claim7 := { stood := { row := balloonVictimIsPresentUptoRow, standIns := [], harness := (true, "5e5f964c45c68c103706dea15ae04f86220d9b6777d552893cc02b0f23a39f71"), looks := false }, kinds := [], alts := [], laidByText := true, laidKinds := [.data], laidTests := true, laidLooks := .later }
def BalloonVictimIsPresentUptoCardSaid : Prop := Claim7.holds Tryd.pinned (.plain (OpenSpec.upto balloonVictimIsPresentSpec)) balloonVictimIsPresentUptoCard

/-- THE SECOND FORM's CARD OF 'simulacrumlaw27.BalloonOutlivesACopy'. -/
def balloonOutlivesACopyUptoCard : Claim7 := { stood := { row := balloonOutlivesACopyUptoRow, standIns := [], harness := (true, "5e5f964c45c68c103706dea15ae04f86220d9b6777d552893cc02b0f23a39f71"), looks := false }, kinds := [], alts := [], laidByText := true, laidKinds := [.data, .data], laidTests := true, laidLooks := .later }
def BalloonOutlivesACopyUptoCardSaid : Prop := Claim7.holds Tryd.pinned (.plain (OpenSpec.upto balloonOutlivesACopySpec)) balloonOutlivesACopyUptoCard

/-- THE SECOND FORM's CARD OF 'simulacrumlaw27.BalloonTellsHarm'. -/
def balloonTellsHarmUptoCard : Claim7 := { stood := { row := balloonTellsHarmUptoRow, standIns := [], harness := (true, "5e5f964c45c68c103706dea15ae04f86220d9b6777d552893cc02b0f23a39f71"), looks := false }, kinds := [], alts := [], laidByText := true, laidKinds := [.data, .data], laidTests := true, laidLooks := .later }
def BalloonTellsHarmUptoCardSaid : Prop := Claim7.holds Tryd.pinned (.plain (OpenSpec.upto balloonTellsHarmSpec)) balloonTellsHarmUptoCard
end Rows
end Go.Proofs.YtligaclbjnccgaaDoorR
