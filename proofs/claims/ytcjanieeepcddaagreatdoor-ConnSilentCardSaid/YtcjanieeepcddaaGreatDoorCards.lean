/-
  DERIVED. GIVEN WITH THE SEED: THE CARDS: each row of YtcjanieeepcddaaGreatDoorRows.lean that lists a variable, with what it lists TIED to the program's text (the seventh form; the later family's looks); each row that meets fmt, with fmt's text TOLD by the authors' own Lean function (tested against real Go, not proved from fmt's source: count such statements apart). THE CARD IS WHAT COUNTS. Prove the row's statement (the work); the ties are given (YtcjanieeepcddaaGreatDoorTie.lean); close each card by the builder's one call (the guide's Derived/Test/ToyasCard.lean, 'card_holds'). Laid BY PROGRAM, IN A SANDBOX (cutbox-door.mjs). By AI agents, Wed Nov 11 2026. No macro, syntax, notation, axiom, sorry.
-/
import Derived.Test.YtcjanieeepcddaaGreatDoorRows
import GoSem.ClaimSeven
namespace Go.Proofs.YtcjanieeepcddaaGreatDoor
namespace Rows

/-- THE TIED CARD OF 'ferrybridgelaw20.ConnSilent'. -/
def connSilentCard : Claim7 := { stood := { row := connSilentRow, standIns := [], harness := (true, "accfa66f14e056d0be88bfdfb0925755dd8b3a0af4a88c9bf75115085da29421"), looks := true }, kinds := [], alts := [], laidByText := true, laidKinds := [.data, .data, .data, .sentinel, .sentinel, .data], laidTests := true, laidLooks := .later }
def ConnSilentCardSaid : Prop := Claim7.holds Tryz.pinned (.plain (OpenSpec.ofChange connSilentSpec)) connSilentCard

/-- THE TIED CARD OF 'ferrybridgelaw20.ConnNil'. -/
def connNilCard : Claim7 := { stood := { row := connNilRow, standIns := [], harness := (true, "accfa66f14e056d0be88bfdfb0925755dd8b3a0af4a88c9bf75115085da29421"), looks := true }, kinds := [], alts := [], laidByText := true, laidKinds := [.data, .data, .data, .sentinel, .sentinel, .data], laidTests := true, laidLooks := .later }
def ConnNilCardSaid : Prop := Claim7.holds Tryz.pinned (.plain (OpenSpec.ofChange connNilSpec)) connNilCard

/-- THE SECOND FORM's CARD OF 'ferrybridgelaw20.ConnSilent'. -/
def connSilentUptoCard : Claim7 := { stood := { row := connSilentUptoRow, standIns := [], harness := (true, "accfa66f14e056d0be88bfdfb0925755dd8b3a0af4a88c9bf75115085da29421"), looks := true }, kinds := [], alts := [], laidByText := true, laidKinds := [.data, .data, .data, .sentinel, .sentinel, .data], laidTests := true, laidLooks := .later }
def ConnSilentUptoCardSaid : Prop := Claim7.holds Tryz.pinned (.plain (OpenSpec.upto connSilentSpec)) connSilentUptoCard

/-- THE SECOND FORM's CARD OF 'ferrybridgelaw20.ConnNil'. -/
def connNilUptoCard : Claim7 := { stood := { row := connNilUptoRow, standIns := [], harness := (true, "accfa66f14e056d0be88bfdfb0925755dd8b3a0af4a88c9bf75115085da29421"), looks := true }, kinds := [], alts := [], laidByText := true, laidKinds := [.data, .data, .data, .sentinel, .sentinel, .data], laidTests := true, laidLooks := .later }
def ConnNilUptoCardSaid : Prop := Claim7.holds Tryz.pinned (.plain (OpenSpec.upto connNilSpec)) connNilUptoCard
end Rows
end Go.Proofs.YtcjanieeepcddaaGreatDoor
