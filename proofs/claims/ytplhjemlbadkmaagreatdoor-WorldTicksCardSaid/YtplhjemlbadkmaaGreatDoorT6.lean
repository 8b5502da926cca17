/-
  Walks and laws, one behind the other (part 6).
-/
import Derived.Test.YtplhjemlbadkmaaGreatDoorT4
import Derived.Test.YtplhjemlbadkmaaGreatDoorT5
set_option linter.unusedSimpArgs false
set_option linter.unusedVariables false
/-
  Arguments of layers 3 to 5, opened: pieces, integers, arrays of integers.
-/
namespace Go.Proofs.YtplhjemlbadkmaaGreatDoor
open Go.RowKit Go.ChangeShapes Go.WideShapes Go.ChangeAt Go.Deep

theorem dec_piece {H : Type} {enc : TypeId × Value → H} {P : Program} {w : World} {base : Nat} {spare : Nat → Bool} {held : Bool} {t e : TypeId} (ht : P.underlying t = some (.slice e)) (he : P.underlying e = some (.int .u8)) (hc : P.cellsOf e = 1)
    (n : Nat) (cs : List Value) (y : DataW H × List MemPlace) (h : DataW.trod enc P w base spare held n t cs = some y) : ∃ x : Pc, cs = encP x ∧ (Arg w 1 encB x.A x.n x.c x.l ∧ ∀ z ∈ x.l, 0 ≤ z ∧ z ≤ 255) := by
  have key : ∃ A m c, cs = [.slice A m c] := by
    rcases open_ints ht he hc h with ⟨rfl, _⟩ | ⟨x, m, c, zs, rfl, _⟩
    · exact ⟨none, 0, 0, rfl⟩
    · exact ⟨some x, m, c, rfl⟩
  obtain ⟨A, m, c, rfl⟩ := key
  obtain ⟨l, h1, h2⟩ := arg_bytes (H := H) (enc := enc) (base := base) (spare := spare) (held := held) (a := A) (len := m) (cap := c) (d := y.1) (p := y.2) ht he hc ⟨n, h⟩
  exact ⟨⟨A, m, c, l⟩, rfl, h1, h2⟩
theorem arg_pieces {H : Type} {enc : TypeId × Value → H} {P : Program} {w : World} {base : Nat} {spare : Nat → Bool} {held : Bool} {t e q : TypeId} {a : Option Addr} {len cap : Nat} {d : DataW H} {p : List MemPlace}
    (ht : P.underlying t = some (.slice e)) (he : P.underlying e = some (.slice q)) (hq : P.underlying q = some (.int .u8)) (ce : P.cellsOf e = 1) (cq : P.cellsOf q = 1) (h : DataW.Trod enc P w base spare held t (.slice a len cap) d p) :
    ∃ l : List Pc, Arg w 1 encP a len cap l ∧ ∀ z ∈ l, (Arg w 1 encB z.A z.n z.c z.l ∧ ∀ y ∈ z.l, 0 ≤ y ∧ y ≤ 255) :=
  arg_rows encP _ 1 (by decide) ht ce encP_length (fun n cs y hy => dec_piece he hq cq n cs y hy) h
theorem glue_bytes {w : World} {l : List Pc} (h : ∀ z ∈ l, (Arg w 1 encB z.A z.n z.c z.l ∧ ∀ y ∈ z.l, 0 ≤ y ∧ y ≤ 255)) : ∀ y ∈ glue l, 0 ≤ y ∧ y ≤ 255 := fun y hy => by
  obtain ⟨z, hz, hy'⟩ := List.mem_flatMap.1 hy
  exact (h z hz).2 y hy'
end Go.Proofs.YtplhjemlbadkmaaGreatDoor
