/-
  DERIVED. GIVEN WITH THE SEED: THE CARDS: each row of YtkcmemhoabadaaaDoorRows.lean that lists a variable, with what it lists TIED to the program's text (the seventh form; the later family's looks); each row that meets fmt, with fmt's text TOLD by the authors' own Lean function (tested against real Go, not proved from fmt's source: count such statements apart). THE CARD IS WHAT COUNTS. Prove the row's statement (the work); the ties are given (YtkcmemhoabadaaaDoorTie.lean); close each card by the builder's one call (the guide's Derived/Test/ToyasCard.lean, 'card_holds'). Laid BY PROGRAM, IN A SANDBOX (cutbox-door.mjs). By AI agents, Wed Nov 11 2026. No macro, syntax, notation, axiom, sorry.
-/
import Derived.Test.YtkcmemhoabadaaaDoorRows
import GoSem.ClaimSeven
namespace Go.Proofs.YtkcmemhoabadaaaDoor
namespace Rows

/-- THE TIED CARD OF 'ferrybridgelaw03.ShaOf'. -/
def shaOfCard : Claim7 := { stood := { row := shaOfRow, standIns := [], harness := (true, "7ae1857de55bd90128c0eca9160eb9c10bae309a54d787fb957a0dd14e993e73"), looks := true }, kinds := [], alts := [], laidByText := true, laidKinds := [.data, .data, .data, .sentinel, .sentinel], laidTests := true, laidLooks := .later }
def ShaOfCardSaid : Prop := Claim7.holds Tryd.pinned (.plain (OpenSpec.ofChange shaOfSpec)) shaOfCard

/-- THE TIED CARD OF 'ferrybridgelaw03.ShaJoins'. -/
def shaJoinsCard : Claim7 := { stood := { row := shaJoinsRow, standIns := [], harness := (true, "7ae1857de55bd90128c0eca9160eb9c10bae309a54d787fb957a0dd14e993e73"), looks := true }, kinds := [], alts := [], laidByText := true, laidKinds := [.data, .data, .data, .sentinel, .sentinel], laidTests := true, laidLooks := .later }
def ShaJoinsCardSaid : Prop := Claim7.holds Tryd.pinned (.plain (OpenSpec.ofChange shaJoinsSpec)) shaJoinsCard

/-- THE TIED CARD OF 'ferrybridgelaw03.ShaEmpty'. -/
def shaEmptyCard : Claim7 := { stood := { row := shaEmptyRow, standIns := [], harness := (true, "7ae1857de55bd90128c0eca9160eb9c10bae309a54d787fb957a0dd14e993e73"), looks := true }, kinds := [], alts := [], laidByText := true, laidKinds := [.data, .data, .data, .sentinel, .sentinel], laidTests := true, laidLooks := .later }
def ShaEmptyCardSaid : Prop := Claim7.holds Tryd.pinned (.plain (OpenSpec.ofChange shaEmptySpec)) shaEmptyCard

/-- THE TIED CARD OF 'ferrybridgelaw05.KeyToken'. -/
def keyTokenCard : Claim7 := { stood := { row := keyTokenRow, standIns := [], harness := (true, "7ae1857de55bd90128c0eca9160eb9c10bae309a54d787fb957a0dd14e993e73"), looks := true }, kinds := [], alts := [], laidByText := true, laidKinds := [.data, .data, .data, .sentinel, .sentinel], laidTests := true, laidLooks := .later }
def KeyTokenCardSaid : Prop := Claim7.holds Tryd.pinned (.plain (OpenSpec.ofChange keyTokenSpec)) keyTokenCard

/-- THE TIED CARD OF 'ferrybridgelaw05.KeyBytes'. -/
def keyBytesCard : Claim7 := { stood := { row := keyBytesRow, standIns := [], harness := (true, "7ae1857de55bd90128c0eca9160eb9c10bae309a54d787fb957a0dd14e993e73"), looks := true }, kinds := [], alts := [], laidByText := true, laidKinds := [.data, .data, .data, .sentinel, .sentinel], laidTests := true, laidLooks := .later }
def KeyBytesCardSaid : Prop := Claim7.holds Tryd.pinned (.plain (OpenSpec.ofChange keyBytesSpec)) keyBytesCard

/-- THE TIED CARD OF 'ferrybridgelaw04.HmacOf'. -/
def hmacOfCard : Claim7 := { stood := { row := hmacOfRow, standIns := [], harness := (true, "7ae1857de55bd90128c0eca9160eb9c10bae309a54d787fb957a0dd14e993e73"), looks := true }, kinds := [], alts := [], laidByText := true, laidKinds := [.data, .data, .data, .sentinel, .sentinel], laidTests := true, laidLooks := .later }
def HmacOfCardSaid : Prop := Claim7.holds Tryd.pinned (.plain (OpenSpec.ofChange hmacOfSpec)) hmacOfCard

/-- THE TIED CARD OF 'ferrybridgelaw04.HmacKeys'. -/
def hmacKeysCard : Claim7 := { stood := { row := hmacKeysRow, standIns := [], harness := (true, "7ae1857de55bd90128c0eca9160eb9c10bae309a54d787fb957a0dd14e993e73"), looks := true }, kinds := [], alts := [], laidByText := true, laidKinds := [.data, .data, .data, .sentinel, .sentinel], laidTests := true, laidLooks := .later }
def HmacKeysCardSaid : Prop := Claim7.holds Tryd.pinned (.plain (OpenSpec.ofChange hmacKeysSpec)) hmacKeysCard

/-- THE TIED CARD OF 'ferrybridgelaw04.HmacJoins'. -/
def hmacJoinsCard : Claim7 := { stood := { row := hmacJoinsRow, standIns := [], harness := (true, "7ae1857de55bd90128c0eca9160eb9c10bae309a54d787fb957a0dd14e993e73"), looks := true }, kinds := [], alts := [], laidByText := true, laidKinds := [.data, .data, .data, .sentinel, .sentinel], laidTests := true, laidLooks := .later }
def HmacJoinsCardSaid : Prop := Claim7.holds Tryd.pinned (.plain (OpenSpec.ofChange hmacJoinsSpec)) hmacJoinsCard

/-- THE TIED CARD OF 'ferrybridgelaw04.HmacEmpty'. -/
def hmacEmptyCard : Claim7 := { stood := { row := hmacEmptyRow, standIns := [], harness := (true, "7ae1857de55bd90128c0eca9160eb9c10bae309a54d787fb957a0dd14e993e73"), looks := true }, kinds := [], alts := [], laidByText := true, laidKinds := [.data, .data, .data, .sentinel, .sentinel], laidTests := true, laidLooks := .later }
def HmacEmptyCardSaid : Prop := Claim7.holds Tryd.pinned (.plain (OpenSpec.ofChange hmacEmptySpec)) hmacEmptyCard

/-- THE TIED CARD OF 'ferrybridgelaw05.KeyProof'. -/
def keyProofCard : Claim7 := { stood := { row := keyProofRow, standIns := [], harness := (true, "7ae1857de55bd90128c0eca9160eb9c10bae309a54d787fb957a0dd14e993e73"), looks := true }, kinds := [], alts := [], laidByText := true, laidKinds := [.data, .data, .data, .sentinel, .sentinel], laidTests := true, laidLooks := .later }
def KeyProofCardSaid : Prop := Claim7.holds Tryd.pinned (.plain (OpenSpec.ofChange keyProofSpec)) keyProofCard

/-- THE SECOND FORM's CARD OF 'ferrybridgelaw03.ShaOf'. -/
def shaOfUptoCard : Claim7 := { stood := { row := shaOfUptoRow, standIns := [], harness := (true, "7ae1857de55bd90128c0eca9160eb9c10bae309a54d787fb957a0dd14e993e73"), looks := true }, kinds := [], alts := [], laidByText := true, laidKinds := [.data, .data, .data, .sentinel, .sentinel], laidTests := true, laidLooks := .later }
def ShaOfUptoCardSaid : Prop := Claim7.holds Tryd.pinned (.plain (OpenSpec.upto shaOfSpec)) shaOfUptoCard

/-- THE SECOND FORM's CARD OF 'ferrybridgelaw03.ShaJoins'. -/
def shaJoinsUptoCard : Claim7 := { stood := { row := shaJoinsUptoRow, standIns := [], harness := (true, "7ae1857de55bd90128c0eca9160eb9c10bae309a54d787fb957a0dd14e993e73"), looks := true }, kinds := [], alts := [], laidByText := true, laidKinds := [.data, .data, .data, .sentinel, .sentinel], laidTests := true, laidLooks := .later }
def ShaJoinsUptoCardSaid : Prop := Claim7.holds Tryd.pinned (.plain (OpenSpec.upto shaJoinsSpec)) shaJoinsUptoCard

/-- THE SECOND FORM's CARD OF 'ferrybridgelaw03.ShaEmpty'. -/
def shaEmptyUptoCard : Claim7 := { stood := { row := shaEmptyUptoRow, standIns := [], harness := (true, "7ae1857de55bd90128c0eca9160eb9c10bae309a54d787fb957a0dd14e993e73"), looks := true }, kinds := [], alts := [], laidByText := true, laidKinds := [.data, .data, .data, .sentinel, .sentinel], laidTests := true, laidLooks := .later }
def ShaEmptyUptoCardSaid : Prop := Claim7.holds Tryd.pinned (.plain (OpenSpec.upto shaEmptySpec)) shaEmptyUptoCard

/-- THE SECOND FORM's CARD OF 'ferrybridgelaw05.KeyToken'. -/
def keyTokenUptoCard : Claim7 := { stood := { row := keyTokenUptoRow, standIns := [], harness := (true, "7ae1857de55bd90128c0eca9160eb9c10bae309a54d787fb957a0dd14e993e73"), looks := true }, kinds := [], alts := [], laidByText := true, laidKinds := [.data, .data, .data, .sentinel, .sentinel], laidTests := true, laidLooks := .later }
def KeyTokenUptoCardSaid : Prop := Claim7.holds Tryd.pinned (.plain (OpenSpec.upto keyTokenSpec)) keyTokenUptoCard

/-- THE SECOND FORM's CARD OF 'ferrybridgelaw05.KeyBytes'. -/
def keyBytesUptoCard : Claim7 := { stood := { row := keyBytesUptoRow, standIns := [], harness := (true, "7ae1857de55bd90128c0eca9160eb9c10bae309a54d787fb957a0dd14e993e73"), looks := true }, kinds := [], alts := [], laidByText := true, laidKinds := [.data, .data, .data, .sentinel, .sentinel], laidTests := true, laidLooks := .later }
def KeyBytesUptoCardSaid : Prop := Claim7.holds Tryd.pinned (.plain (OpenSpec.upto keyBytesSpec)) keyBytesUptoCard

/-- THE SECOND FORM's CARD OF 'ferrybridgelaw04.HmacOf'. -/
def hmacOfUptoCard : Claim7 := { stood := { row := hmacOfUptoRow, standIns := [], harness := (true, "7ae1857de55bd90128c0eca9160eb9c10bae309a54d787fb957a0dd14e993e73"), looks := true }, kinds := [], alts := [], laidByText := true, laidKinds := [.data, .data, .data, .sentinel, .sentinel], laidTests := true, laidLooks := .later }
def HmacOfUptoCardSaid : Prop := Claim7.holds Tryd.pinned (.plain (OpenSpec.upto hmacOfSpec)) hmacOfUptoCard

/-- THE SECOND FORM's CARD OF 'ferrybridgelaw04.HmacKeys'. -/
def hmacKeysUptoCard : Claim7 := { stood := { row := hmacKeysUptoRow, standIns := [], harness := (true, "7ae1857de55bd90128c0eca9160eb9c10bae309a54d787fb957a0dd14e993e73"), looks := true }, kinds := [], alts := [], laidByText := true, laidKinds := [.data, .data, .data, .sentinel, .sentinel], laidTests := true, laidLooks := .later }
def HmacKeysUptoCardSaid : Prop := Claim7.holds Tryd.pinned (.plain (OpenSpec.upto hmacKeysSpec)) hmacKeysUptoCard

/-- THE SECOND FORM's CARD OF 'ferrybridgelaw04.HmacJoins'. -/
def hmacJoinsUptoCard : Claim7 := { stood := { row := hmacJoinsUptoRow, standIns := [], harness := (true, "7ae1857de55bd90128c0eca9160eb9c10bae309a54d787fb957a0dd14e993e73"), looks := true }, kinds := [], alts := [], laidByText := true, laidKinds := [.data, .data, .data, .sentinel, .sentinel], laidTests := true, laidLooks := .later }
def HmacJoinsUptoCardSaid : Prop := Claim7.holds Tryd.pinned (.plain (OpenSpec.upto hmacJoinsSpec)) hmacJoinsUptoCard

/-- THE SECOND FORM's CARD OF 'ferrybridgelaw04.HmacEmpty'. -/
def hmacEmptyUptoCard : Claim7 := { stood := { row := hmacEmptyUptoRow, standIns := [], harness := (true, "7ae1857de55bd90128c0eca9160eb9c10bae309a54d787fb957a0dd14e993e73"), looks := true }, kinds := [], alts := [], laidByText := true, laidKinds := [.data, .data, .data, .sentinel, .sentinel], laidTests := true, laidLooks := .later }
def HmacEmptyUptoCardSaid : Prop := Claim7.holds Tryd.pinned (.plain (OpenSpec.upto hmacEmptySpec)) hmacEmptyUptoCard

/-- THE SECOND FORM's CARD OF 'ferrybridgelaw05.KeyProof'. -/
def keyProofUptoCard : Claim7 := { stood := { row := keyProofUptoRow, standIns := [], harness := (true, "7ae1857de55bd90128c0eca9160eb9c10bae309a54d787fb957a0dd14e993e73"), looks := true }, kinds := [], alts := [], laidByText := true, laidKinds := [.data, .data, .data, .sentinel, .sentinel], laidTests := true, laidLooks := .later }
def KeyProofUptoCardSaid : Prop := Claim7.holds Tryd.pinned (.plain (OpenSpec.upto keyProofSpec)) keyProofUptoCard
end Rows
end Go.Proofs.YtkcmemhoabadaaaDoor
