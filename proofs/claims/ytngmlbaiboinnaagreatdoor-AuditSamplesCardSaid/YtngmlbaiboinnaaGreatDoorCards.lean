/-
  DERIVED. GIVEN WITH THE SEED: THE CARDS: each row of YtngmlbaiboinnaaGreatDoorRows.lean that lists a variable, with what it lists TIED to the program's text (the seventh form; the later family's looks); each row that meets fmt, with fmt's text TOLD by the authors' own Lean function (tested against real Go, not proved from fmt's source: count such statements apart). THE CARD IS WHAT COUNTS. Prove the row's statement (the work); the ties are given (YtngmlbaiboinnaaGreatDoorTie.lean); close each card by the builder's one call (the guide's Derived/Test/ToyasCard.lean, 'card_holds'). Laid BY PROGRAM, IN A SANDBOX (cutbox-door.mjs). By AI agents, Wed Nov 11 2026. No macro, syntax, notation, axiom, sorry.
-/
import Derived.Test.YtngmlbaiboinnaaGreatDoorRows
import GoSem.ClaimSeven
namespace Go.Proofs.YtngmlbaiboinnaaGreatDoor
namespace Rows

/-- THE TIED CARD OF 'simulacrumlaw44.AuditSamples'. -/
def auditSamplesCard : Claim7 := { stood := { row := auditSamplesRow, standIns := [], harness := (true, "fbc4eeb0ce61d467ebcfe1001d4a902f01f82565ba7b4670866faca02e770882"), looks := true }, kinds := [], alts := [], laidByText := true, laidKinds := [.data, .data], laidTests := true, laidLooks := .later }
def AuditSamplesCardSaid : Prop := Claim7.holds Tryz.pinned (.plain (OpenSpec.ofChange auditSamplesSpec)) auditSamplesCard

/-- THE SECOND FORM's CARD OF 'simulacrumlaw44.AuditSamples'. -/
def auditSamplesUptoCard : Claim7 := { stood := { row := auditSamplesUptoRow, standIns := [], harness := (true, "fbc4eeb0ce61d467ebcfe1001d4a902f01f82565ba7b4670866faca02e770882"), looks := true }, kinds := [], alts := [], laidByText := true, laidKinds := [.data, .data], laidTests := true, laidLooks := .later }
def AuditSamplesUptoCardSaid : Prop := Claim7.holds Tryz.pinned (.plain (OpenSpec.upto auditSamplesSpec)) auditSamplesUptoCard
end Rows
end Go.Proofs.YtngmlbaiboinnaaGreatDoor
