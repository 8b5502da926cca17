/-
  DERIVED. GIVEN WITH THE SEED: THE CARDS: each row of YtjpokeakemlffaaGreatDoorRows.lean that lists a variable, with what it lists TIED to the program's text (the seventh form; the later family's looks); each row that meets fmt, with fmt's text TOLD by the authors' own Lean function (tested against real Go, not proved from fmt's source: count such statements apart). THE CARD IS WHAT COUNTS. Prove the row's statement (the work); the ties are given (YtjpokeakemlffaaGreatDoorTie.lean); close each card by the builder's one call (the guide's Derived/Test/ToyasCard.lean, 'card_holds'). Laid BY PROGRAM, IN A SANDBOX (cutbox-door.mjs). By AI agents, Wed Nov 11 2026. No macro, syntax, notation, axiom, sorry.
-/
import Derived.Test.YtjpokeakemlffaaGreatDoorRows
import GoSem.ClaimSeven
namespace Go.Proofs.YtjpokeakemlffaaGreatDoor
namespace Rows

/-- THE TIED CARD OF 'ferrybridgelaw25.AuditStreams'. -/
def auditStreamsCard : Claim7 := { stood := { row := auditStreamsRow, standIns := [], harness := (true, "82d38ab651a1a8bdbb42df9c01a440fb0fa0625f8365dd6a92e5d39885198a95"), looks := true }, kinds := [], alts := [], laidByText := true, laidKinds := [.data, .data, .data, .sentinel, .sentinel, .data, .data], laidTests := true, laidLooks := .later }
def AuditStreamsCardSaid : Prop := Claim7.holds Tryz.pinned (.plain (OpenSpec.ofChange auditStreamsSpec)) auditStreamsCard

/-- THE SECOND FORM's CARD OF 'ferrybridgelaw25.AuditStreams'. -/
def auditStreamsUptoCard : Claim7 := { stood := { row := auditStreamsUptoRow, standIns := [], harness := (true, "82d38ab651a1a8bdbb42df9c01a440fb0fa0625f8365dd6a92e5d39885198a95"), looks := true }, kinds := [], alts := [], laidByText := true, laidKinds := [.data, .data, .data, .sentinel, .sentinel, .data, .data], laidTests := true, laidLooks := .later }
def AuditStreamsUptoCardSaid : Prop := Claim7.holds Tryz.pinned (.plain (OpenSpec.upto auditStreamsSpec)) auditStreamsUptoCard
end Rows
end Go.Proofs.YtjpokeakemlffaaGreatDoor
