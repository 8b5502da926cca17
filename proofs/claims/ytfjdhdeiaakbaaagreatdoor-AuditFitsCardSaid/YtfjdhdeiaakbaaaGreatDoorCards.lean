/-
  DERIVED. GIVEN WITH THE SEED: THE CARDS: each row of YtfjdhdeiaakbaaaGreatDoorRows.lean that lists a variable, with what it lists TIED to the program's text (the seventh form; the later family's looks); each row that meets fmt, with fmt's text TOLD by the authors' own Lean function (tested against real Go, not proved from fmt's source: count such statements apart). THE CARD IS WHAT COUNTS. Prove the row's statement (the work); the ties are given (YtfjdhdeiaakbaaaGreatDoorTie.lean); close each card by the builder's one call (the guide's Derived/Test/ToyasCard.lean, 'card_holds'). Laid BY PROGRAM, IN A SANDBOX (cutbox-door.mjs). By AI agents, Wed Nov 11 2026. No macro, syntax, notation, axiom, sorry.
-/
import Derived.Test.YtfjdhdeiaakbaaaGreatDoorRows
import GoSem.ClaimSeven
namespace Go.Proofs.YtfjdhdeiaakbaaaGreatDoor
namespace Rows

/-- THE TIED CARD OF 'ferrybridgelaw25.AuditSound'. -/
def auditSoundCard : Claim7 := { stood := { row := auditSoundRow, standIns := [], harness := (true, "7e6bf694527c6d3a6836bcc6df0f4963a9d1fc495512b4960d1050c770468813"), looks := true }, kinds := [], alts := [], laidByText := true, laidKinds := [.data, .data, .data, .sentinel, .sentinel, .data, .data], laidTests := true, laidLooks := .later }
def AuditSoundCardSaid : Prop := Claim7.holds Tryz.pinned (.plain (OpenSpec.ofChange auditSoundSpec)) auditSoundCard

/-- THE TIED CARD OF 'ferrybridgelaw25.AuditMoves'. -/
def auditMovesCard : Claim7 := { stood := { row := auditMovesRow, standIns := [], harness := (true, "7e6bf694527c6d3a6836bcc6df0f4963a9d1fc495512b4960d1050c770468813"), looks := true }, kinds := [], alts := [], laidByText := true, laidKinds := [.data, .data, .data, .sentinel, .sentinel, .data, .data], laidTests := true, laidLooks := .later }
def AuditMovesCardSaid : Prop := Claim7.holds Tryz.pinned (.plain (OpenSpec.ofChange auditMovesSpec)) auditMovesCard

/-- THE TIED CARD OF 'ferrybridgelaw25.AuditFits'. -/
def auditFitsCard : Claim7 := { stood := { row := auditFitsRow, standIns := [], harness := (true, "7e6bf694527c6d3a6836bcc6df0f4963a9d1fc495512b4960d1050c770468813"), looks := true }, kinds := [], alts := [], laidByText := true, laidKinds := [.data, .data, .data, .sentinel, .sentinel, .data, .data], laidTests := true, laidLooks := .later }
def AuditFitsCardSaid : Prop := Claim7.holds Tryz.pinned (.plain (OpenSpec.ofChange auditFitsSpec)) auditFitsCard

/-- THE SECOND FORM's CARD OF 'ferrybridgelaw25.AuditSound'. -/
def auditSoundUptoCard : Claim7 := { stood := { row := auditSoundUptoRow, standIns := [], harness := (true, "7e6bf694527c6d3a6836bcc6df0f4963a9d1fc495512b4960d1050c770468813"), looks := true }, kinds := [], alts := [], laidByText := true, laidKinds := [.data, .data, .data, .sentinel, .sentinel, .data, .data], laidTests := true, laidLooks := .later }
def AuditSoundUptoCardSaid : Prop := Claim7.holds Tryz.pinned (.plain (OpenSpec.upto auditSoundSpec)) auditSoundUptoCard

/-- THE SECOND FORM's CARD OF 'ferrybridgelaw25.AuditMoves'. -/
def auditMovesUptoCard : Claim7 := { stood := { row := auditMovesUptoRow, standIns := [], harness := (true, "7e6bf694527c6d3a6836bcc6df0f4963a9d1fc495512b4960d1050c770468813"), looks := true }, kinds := [], alts := [], laidByText := true, laidKinds := [.data, .data, .data, .sentinel, .sentinel, .data, .data], laidTests := true, laidLooks := .later }
def AuditMovesUptoCardSaid : Prop := Claim7.holds Tryz.pinned (.plain (OpenSpec.upto auditMovesSpec)) auditMovesUptoCard

/-- THE SECOND FORM's CARD OF 'ferrybridgelaw25.AuditFits'. -/
def auditFitsUptoCard : Claim7 := { stood := { row := auditFitsUptoRow, standIns := [], harness := (true, "7e6bf694527c6d3a6836bcc6df0f4963a9d1fc495512b4960d1050c770468813"), looks := true }, kinds := [], alts := [], laidByText := true, laidKinds := [.data, .data, .data, .sentinel, .sentinel, .data, .data], laidTests := true, laidLooks := .later }
def AuditFitsUptoCardSaid : Prop := Claim7.holds Tryz.pinned (.plain (OpenSpec.upto auditFitsSpec)) auditFitsUptoCard
end Rows
end Go.Proofs.YtfjdhdeiaakbaaaGreatDoor
