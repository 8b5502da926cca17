/-
  DERIVED. GIVEN WITH THE SEED: THE CARDS: each row of YtplhjemlbadkmaaGreatDoorRows.lean that lists a variable, with what it lists TIED to the program's text (the seventh form; the later family's looks); each row that meets fmt, with fmt's text TOLD by the authors' own Lean function (tested against real Go, not proved from fmt's source: count such statements apart). THE CARD IS WHAT COUNTS. Prove the row's statement (the work); the ties are given (YtplhjemlbadkmaaGreatDoorTie.lean); close each card by the builder's one call (the guide's Derived/Test/ToyasCard.lean, 'card_holds'). Laid BY PROGRAM, IN A SANDBOX (cutbox-door.mjs). By AI agents, Wed Nov 11 2026. No macro, syntax, notation, axiom, sorry.
-/
import Derived.Test.YtplhjemlbadkmaaGreatDoorRows
import GoSem.ClaimSeven
namespace Go.Proofs.YtplhjemlbadkmaaGreatDoor
namespace Rows

/-- THE TIED CARD OF 'ferrybridgelaw23.WorldTicks'. -/
def worldTicksCard : Claim7 := { stood := { row := worldTicksRow, standIns := [], harness := (true, "c5d477b1a7f57cd1f97965f527f0a36742037741134a04eee1126dfaf30c14ba"), looks := true }, kinds := [], alts := [], laidByText := true, laidKinds := [.data, .data, .data, .sentinel, .sentinel, .data, .data], laidTests := true, laidLooks := .later }
def WorldTicksCardSaid : Prop := Claim7.holds Tryz.pinned (.plain (OpenSpec.ofChange worldTicksSpec)) worldTicksCard

/-- THE SECOND FORM's CARD OF 'ferrybridgelaw23.WorldTicks'. -/
def worldTicksUptoCard : Claim7 := { stood := { row := worldTicksUptoRow, standIns := [], harness := (true, "c5d477b1a7f57cd1f97965f527f0a36742037741134a04eee1126dfaf30c14ba"), looks := true }, kinds := [], alts := [], laidByText := true, laidKinds := [.data, .data, .data, .sentinel, .sentinel, .data, .data], laidTests := true, laidLooks := .later }
def WorldTicksUptoCardSaid : Prop := Claim7.holds Tryz.pinned (.plain (OpenSpec.upto worldTicksSpec)) worldTicksUptoCard
end Rows
end Go.Proofs.YtplhjemlbadkmaaGreatDoor
