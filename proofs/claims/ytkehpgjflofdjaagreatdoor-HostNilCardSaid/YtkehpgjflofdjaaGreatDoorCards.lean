/-
  DERIVED. GIVEN WITH THE SEED: THE CARDS: each row of YtkehpgjflofdjaaGreatDoorRows.lean that lists a variable, with what it lists TIED to the program's text (the seventh form; the later family's looks); each row that meets fmt, with fmt's text TOLD by the authors' own Lean function (tested against real Go, not proved from fmt's source: count such statements apart). THE CARD IS WHAT COUNTS. Prove the row's statement (the work); the ties are given (YtkehpgjflofdjaaGreatDoorTie.lean); close each card by the builder's one call (the guide's Derived/Test/ToyasCard.lean, 'card_holds'). Laid BY PROGRAM, IN A SANDBOX (cutbox-door.mjs). By AI agents, Wed Nov 11 2026. No macro, syntax, notation, axiom, sorry.
-/
import Derived.Test.YtkehpgjflofdjaaGreatDoorRows
import GoSem.ClaimSeven
namespace Go.Proofs.YtkehpgjflofdjaaGreatDoor
namespace Rows

/-- THE TIED CARD OF 'ferrybridgelaw21.HostNil'. -/
def hostNilCard : Claim7 := { stood := { row := hostNilRow, standIns := [], harness := (true, "2222b25b0c4359d1dd9a1569972dc8c3e534d5e4f9e2298c00ef06afcdd60b64"), looks := true }, kinds := [], alts := [], laidByText := true, laidKinds := [.data, .data, .data, .sentinel, .sentinel, .data], laidTests := true, laidLooks := .later }
def HostNilCardSaid : Prop := Claim7.holds Tryz.pinned (.plain (OpenSpec.ofChange hostNilSpec)) hostNilCard

/-- THE TIED CARD OF 'ferrybridgelaw21.HostKeys'. -/
def hostKeysCard : Claim7 := { stood := { row := hostKeysRow, standIns := [], harness := (true, "2222b25b0c4359d1dd9a1569972dc8c3e534d5e4f9e2298c00ef06afcdd60b64"), looks := true }, kinds := [], alts := [], laidByText := true, laidKinds := [.data, .data, .data, .sentinel, .sentinel, .data], laidTests := true, laidLooks := .later }
def HostKeysCardSaid : Prop := Claim7.holds Tryz.pinned (.plain (OpenSpec.ofChange hostKeysSpec)) hostKeysCard

/-- THE TIED CARD OF 'ferrybridgelaw21.HostDraws'. -/
def hostDrawsCard : Claim7 := { stood := { row := hostDrawsRow, standIns := [], harness := (true, "2222b25b0c4359d1dd9a1569972dc8c3e534d5e4f9e2298c00ef06afcdd60b64"), looks := true }, kinds := [], alts := [], laidByText := true, laidKinds := [.data, .data, .data, .sentinel, .sentinel, .data], laidTests := true, laidLooks := .later }
def HostDrawsCardSaid : Prop := Claim7.holds Tryz.pinned (.plain (OpenSpec.ofChange hostDrawsSpec)) hostDrawsCard

/-- THE SECOND FORM's CARD OF 'ferrybridgelaw21.HostNil'. -/
def hostNilUptoCard : Claim7 := { stood := { row := hostNilUptoRow, standIns := [], harness := (true, "2222b25b0c4359d1dd9a1569972dc8c3e534d5e4f9e2298c00ef06afcdd60b64"), looks := true }, kinds := [], alts := [], laidByText := true, laidKinds := [.data, .data, .data, .sentinel, .sentinel, .data], laidTests := true, laidLooks := .later }
def HostNilUptoCardSaid : Prop := Claim7.holds Tryz.pinned (.plain (OpenSpec.upto hostNilSpec)) hostNilUptoCard

/-- THE SECOND FORM's CARD OF 'ferrybridgelaw21.HostKeys'. -/
def hostKeysUptoCard : Claim7 := { stood := { row := hostKeysUptoRow, standIns := [], harness := (true, "2222b25b0c4359d1dd9a1569972dc8c3e534d5e4f9e2298c00ef06afcdd60b64"), looks := true }, kinds := [], alts := [], laidByText := true, laidKinds := [.data, .data, .data, .sentinel, .sentinel, .data], laidTests := true, laidLooks := .later }
def HostKeysUptoCardSaid : Prop := Claim7.holds Tryz.pinned (.plain (OpenSpec.upto hostKeysSpec)) hostKeysUptoCard

/-- THE SECOND FORM's CARD OF 'ferrybridgelaw21.HostDraws'. -/
def hostDrawsUptoCard : Claim7 := { stood := { row := hostDrawsUptoRow, standIns := [], harness := (true, "2222b25b0c4359d1dd9a1569972dc8c3e534d5e4f9e2298c00ef06afcdd60b64"), looks := true }, kinds := [], alts := [], laidByText := true, laidKinds := [.data, .data, .data, .sentinel, .sentinel, .data], laidTests := true, laidLooks := .later }
def HostDrawsUptoCardSaid : Prop := Claim7.holds Tryz.pinned (.plain (OpenSpec.upto hostDrawsSpec)) hostDrawsUptoCard
end Rows
end Go.Proofs.YtkehpgjflofdjaaGreatDoor
