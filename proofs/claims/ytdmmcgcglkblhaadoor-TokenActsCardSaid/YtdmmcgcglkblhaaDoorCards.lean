/-
  DERIVED. GIVEN WITH THE SEED: THE CARDS: each row of YtdmmcgcglkblhaaDoorRows.lean that lists a variable, with what it lists TIED to the program's text (the seventh form; the later family's looks); each row that meets fmt, with fmt's text TOLD by the authors' own Lean function (tested against real Go, not proved from fmt's source: count such statements apart). THE CARD IS WHAT COUNTS. Prove the row's statement (the work); the ties are given (YtdmmcgcglkblhaaDoorTie.lean); close each card by the builder's one call (the guide's Derived/Test/ToyasCard.lean, 'card_holds'). Laid BY PROGRAM, IN A SANDBOX (cutbox-door.mjs). By AI agents, Wed Nov 11 2026. No macro, syntax, notation, axiom, sorry.
-/
import Derived.Test.YtdmmcgcglkblhaaDoorRows
import GoSem.ClaimSeven
namespace Go.Proofs.YtdmmcgcglkblhaaDoor
namespace Rows

/-- THE TIED CARD OF 'ferrybridgelaw10.TokenWaits'. -/
def tokenWaitsCard : Claim7 := { stood := { row := tokenWaitsRow, standIns := [], harness := (true, "b54c612925f1cdf7439129b8f66ef3c2ab4bcad39e2475ac87c737648b43d584"), looks := true }, kinds := [], alts := [], laidByText := true, laidKinds := [.data, .data, .data, .sentinel, .sentinel], laidTests := true, laidLooks := .later }
def TokenWaitsCardSaid : Prop := Claim7.holds Tryd.pinned (.plain (OpenSpec.ofChange tokenWaitsSpec)) tokenWaitsCard

/-- THE TIED CARD OF 'ferrybridgelaw10.TokenOwners'. -/
def tokenOwnersCard : Claim7 := { stood := { row := tokenOwnersRow, standIns := [], harness := (true, "b54c612925f1cdf7439129b8f66ef3c2ab4bcad39e2475ac87c737648b43d584"), looks := true }, kinds := [], alts := [], laidByText := true, laidKinds := [.data, .data, .data, .sentinel, .sentinel], laidTests := true, laidLooks := .later }
def TokenOwnersCardSaid : Prop := Claim7.holds Tryd.pinned (.plain (OpenSpec.ofChange tokenOwnersSpec)) tokenOwnersCard

/-- THE TIED CARD OF 'ferrybridgelaw10.TokenFull'. -/
def tokenFullCard : Claim7 := { stood := { row := tokenFullRow, standIns := [], harness := (true, "b54c612925f1cdf7439129b8f66ef3c2ab4bcad39e2475ac87c737648b43d584"), looks := true }, kinds := [], alts := [], laidByText := true, laidKinds := [.data, .data, .data, .sentinel, .sentinel], laidTests := true, laidLooks := .later }
def TokenFullCardSaid : Prop := Claim7.holds Tryd.pinned (.plain (OpenSpec.ofChange tokenFullSpec)) tokenFullCard

/-- THE TIED CARD OF 'ferrybridgelaw10.TokenActs'. -/
def tokenActsCard : Claim7 := { stood := { row := tokenActsRow, standIns := [], harness := (true, "b54c612925f1cdf7439129b8f66ef3c2ab4bcad39e2475ac87c737648b43d584"), looks := true }, kinds := [], alts := [], laidByText := true, laidKinds := [.data, .data, .data, .sentinel, .sentinel], laidTests := true, laidLooks := .later }
def TokenActsCardSaid : Prop := Claim7.holds Tryd.pinned (.plain (OpenSpec.ofChange tokenActsSpec)) tokenActsCard

/-- THE TIED CARD OF 'ferrybridgelaw10.TokenNil'. -/
def tokenNilCard : Claim7 := { stood := { row := tokenNilRow, standIns := [], harness := (true, "b54c612925f1cdf7439129b8f66ef3c2ab4bcad39e2475ac87c737648b43d584"), looks := true }, kinds := [], alts := [], laidByText := true, laidKinds := [.data, .data, .data, .sentinel, .sentinel], laidTests := true, laidLooks := .later }
def TokenNilCardSaid : Prop := Claim7.holds Tryd.pinned (.plain (OpenSpec.ofChange tokenNilSpec)) tokenNilCard

/-- THE SECOND FORM's CARD OF 'ferrybridgelaw10.TokenWaits'. -/
def tokenWaitsUptoCard : Claim7 := { stood := { row := tokenWaitsUptoRow, standIns := [], harness := (true, "b54c612925f1cdf7439129b8f66ef3c2ab4bcad39e2475ac87c737648b43d584"), looks := true }, kinds := [], alts := [], laidByText := true, laidKinds := [.data, .data, .data, .sentinel, .sentinel], laidTests := true, laidLooks := .later }
def TokenWaitsUptoCardSaid : Prop := Claim7.holds Tryd.pinned (.plain (OpenSpec.upto tokenWaitsSpec)) tokenWaitsUptoCard

/-- THE SECOND FORM's CARD OF 'ferrybridgelaw10.TokenOwners'. -/
def tokenOwnersUptoCard : Claim7 := { stood := { row := tokenOwnersUptoRow, standIns := [], harness := (true, "b54c612925f1cdf7439129b8f66ef3c2ab4bcad39e2475ac87c737648b43d584"), looks := true }, kinds := [], alts := [], laidByText := true, laidKinds := [.data, .data, .data, .sentinel, .sentinel], laidTests := true, laidLooks := .later }
def TokenOwnersUptoCardSaid : Prop := Claim7.holds Tryd.pinned (.plain (OpenSpec.upto tokenOwnersSpec)) tokenOwnersUptoCard

/-- THE SECOND FORM's CARD OF 'ferrybridgelaw10.TokenFull'. -/
def tokenFullUptoCard : Claim7 := { stood := { row := tokenFullUptoRow, standIns := [], harness := (true, "b54c612925f1cdf7439129b8f66ef3c2ab4bcad39e2475ac87c737648b43d584"), looks := true }, kinds := [], alts := [], laidByText := true, laidKinds := [.data, .data, .data, .sentinel, .sentinel], laidTests := true, laidLooks := .later }
def TokenFullUptoCardSaid : Prop := Claim7.holds Tryd.pinned (.plain (OpenSpec.upto tokenFullSpec)) tokenFullUptoCard

/-- THE SECOND FORM's CARD OF 'ferrybridgelaw10.TokenActs'. -/
def tokenActsUptoCard : Claim7 := { stood := { row := tokenActsUptoRow, standIns := [], harness := (true, "b54c612925f1cdf7439129b8f66ef3c2ab4bcad39e2475ac87c737648b43d584"), looks := true }, kinds := [], alts := [], laidByText := true, laidKinds := [.data, .data, .data, .sentinel, .sentinel], laidTests := true, laidLooks := .later }
def TokenActsUptoCardSaid : Prop := Claim7.holds Tryd.pinned (.plain (OpenSpec.upto tokenActsSpec)) tokenActsUptoCard

/-- THE SECOND FORM's CARD OF 'ferrybridgelaw10.TokenNil'. -/
def tokenNilUptoCard : Claim7 := { stood := { row := tokenNilUptoRow, standIns := [], harness := (true, "b54c612925f1cdf7439129b8f66ef3c2ab4bcad39e2475ac87c737648b43d584"), looks := true }, kinds := [], alts := [], laidByText := true, laidKinds := [.data, .data, .data, .sentinel, .sentinel], laidTests := true, laidLooks := .later }
def TokenNilUptoCardSaid : Prop := Claim7.holds Tryd.pinned (.plain (OpenSpec.upto tokenNilSpec)) tokenNilUptoCard
end Rows
end Go.Proofs.YtdmmcgcglkblhaaDoor
