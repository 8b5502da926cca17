/-
  Walks and laws, one behind the other (part 6).
-/
import Derived.Test.YtjpokeakemlffaaGreatDoorS4
import Derived.Test.YtjpokeakemlffaaGreatDoorS5
set_option linter.unusedSimpArgs false
set_option linter.unusedVariables false
/-
  Arguments of layers 3 to 5, opened: pieces, integers, arrays of integers.
-/
namespace Go.Proofs.YtjpokeakemlffaaGreatDoor
open Go.RowKit Go.ChangeShapes Go.WideShapes Go.ChangeAt Go.Deep
end Go.Proofs.YtjpokeakemlffaaGreatDoor
/-
  A slice of a table's entries that came in, opened; two slices of bytes and two truths.
-/
namespace Go.Proofs.YtjpokeakemlffaaGreatDoor
open Go.RowKit Go.ChangeShapes Go.WideShapes Go.ChangeAt Go.Deep
structure TkE where
  t : Int
  o : Int
  l : Bool
  u : Int
def tkC (e : TkE) : List Value := [.int .u32 e.t, .int .i64 e.o, .bool e.l, .int .i64 e.u]
theorem tkC_length (e : TkE) : (tkC e).length = 4 := rfl
theorem shape2 {H : Type} {enc : TypeId × Value → H} {P : Program} {w : World} {base : Nat} {spare : Nat → Bool} {held : Bool} {t e : TypeId} {fuel : Nat} {c : Value} {x : DataW H × List MemPlace} (ht : P.underlying t = some (.slice e)) (h : DataW.trod enc P w base spare held fuel t [c] = some x) : ∃ A n cc, c = .slice A n cc := by
  rcases open_slice ht h with ⟨e, _⟩ | ⟨a, len, cap, _, _, _, _, e, _⟩
  · exact ⟨none, 0, 0, by simpa using e⟩
  · exact ⟨some a, len, cap, by simpa using e⟩
end Go.Proofs.YtjpokeakemlffaaGreatDoor
