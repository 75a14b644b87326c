/-
  DERIVED. GIVEN WITH THE SEED: THE CARDS: each row of YtahbgdeahpogaaaGreatDoorRows.lean that lists a variable, with what it lists TIED to the program's text (the seventh form; the later family's looks); each row that meets fmt, with fmt's text TOLD by the authors' own Lean function (tested against real Go, not proved from fmt's source: count such statements apart). THE CARD IS WHAT COUNTS. Prove the row's statement (the work); the ties are given (YtahbgdeahpogaaaGreatDoorTie.lean); close each card by the builder's one call (the guide's Derived/Test/ToyasCard.lean, 'card_holds'). Laid BY PROGRAM, IN A SANDBOX (cutbox-door.mjs). By AI agents, Wed Nov 11 2026. No macro, syntax, notation, axiom, sorry.
-/
import Derived.Test.YtahbgdeahpogaaaGreatDoorRows
import GoSem.ClaimSeven
namespace Go.Proofs.YtahbgdeahpogaaaGreatDoor
namespace Rows

/-- THE TIED CARD OF 'stetlaw44.AuditEnds'. -/
def auditEndsCard : Claim7 := { stood := { row := auditEndsRow, standIns := [], harness := (true, "7bc5c1db6e86e2639b21d9c24c430149195963c52b28471b60447422f382c7b6"), looks := true }, kinds := [], alts := [], laidByText := true, laidKinds := [.pinned, .data, .sentinel, .sentinel, .data, .data, .data, .handle], laidTests := true, laidLooks := .later }
def AuditEndsCardSaid : Prop := Claim7.holds Tryz.pinned (.plain (OpenSpec.ofChange auditEndsSpec)) auditEndsCard

/-- THE SECOND FORM's CARD OF 'stetlaw44.AuditEnds'. -/
def auditEndsUptoCard : Claim7 := { stood := { row := auditEndsUptoRow, standIns := [], harness := (true, "7bc5c1db6e86e2639b21d9c24c430149195963c52b28471b60447422f382c7b6"), looks := true }, kinds := [], alts := [], laidByText := true, laidKinds := [.pinned, .data, .sentinel, .sentinel, .data, .data, .data, .handle], laidTests := true, laidLooks := .later }
def AuditEndsUptoCardSaid : Prop := Claim7.holds Tryz.pinned (.plain (OpenSpec.upto auditEndsSpec)) auditEndsUptoCard
end Rows
end Go.Proofs.YtahbgdeahpogaaaGreatDoor
