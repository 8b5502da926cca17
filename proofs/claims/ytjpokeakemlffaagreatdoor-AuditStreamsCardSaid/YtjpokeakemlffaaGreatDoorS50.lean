/-
  Walks and laws, one behind the other (part 50).
-/
import Derived.Test.YtjpokeakemlffaaGreatDoorS48
import Derived.Test.YtjpokeakemlffaaGreatDoorS49
set_option linter.unusedSimpArgs false
set_option linter.unusedVariables false
/-
  The law of streams, as the card takes it.
-/
namespace Go.Proofs.YtjpokeakemlffaaGreatDoor
open Go.RowKit
theorem auditStreams_w (A : Option Addr) (n c : Nat) (l : List Td) (w : World) (hG : Gw w) (ha : Arg w 7 tdK A n c l) (hall : ∀ z ∈ l, wfTd w z) :
    Calls Tryz.prog 3 #[.slice A n c] w fun e w' => e = .returned (.bool true) ∧ Below w.heap.size w w' :=
  auditStreams_walk w ha (fun x hx => (hall x hx).2) (fun x hx => (hall x hx).1) hG
end Go.Proofs.YtjpokeakemlffaaGreatDoor
