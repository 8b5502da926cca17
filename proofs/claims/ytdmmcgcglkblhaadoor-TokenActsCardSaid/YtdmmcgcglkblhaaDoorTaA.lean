/-
  What is done to a table: the rows of the argument.
-/
import Derived.Test.YtdmmcgcglkblhaaDoorOpenRows
import Derived.Test.YtdmmcgcglkblhaaDoorTkY
namespace Go.Proofs.YtdmmcgcglkblhaaDoor
open Go.RowKit Go.ChangeShapes Go.WideShapes Go.ChangeAt Go.Deep

/-- An act: its kind, owner, number, keys. -/
structure Ta where
  k : Int
  o : Int
  n : Int
  A : Option Addr
  len : Nat
  cap : Nat
  ks : List Int
def taC (a : Ta) : List Value := [.int .i64 a.k, .int .i64 a.o, .int .u64 a.n, .slice a.A a.len a.cap]
theorem taC_length (a : Ta) : (taC a).length = 4 := rfl
def wfTa (w : World) (a : Ta) : Prop := (0 ≤ a.n ∧ a.n < 18446744073709551616) ∧ Arg w 1 encU a.A a.len a.cap a.ks ∧ ∀ z ∈ a.ks, 0 ≤ z ∧ z < 18446744073709551616
set_option maxRecDepth 100000 in
theorem dec_ta {H : Type} {enc : TypeId × Value → H} {w : World} {base : Nat} {spare : Nat → Bool} {held : Bool} (n : Nat) (cs : List Value) (y : DataW H × List MemPlace)
    (h : DataW.trod enc Tryd.prog w base spare held n 49 cs = some y) : ∃ x : Ta, cs = taC x ∧ wfTa w x := by
  obtain ⟨xs, k, _, _, hl, hx, hf⟩ := DataW.trod_struct Tryd.underlying49 h
  have hc : Tryd.prog.cellsOf 49 = 4 := by kernel_rfl
  have h3 : Tryd.prog.cellsOf 3 = 1 := by kernel_rfl
  have h4 : Tryd.prog.cellsOf 22 = 1 := by kernel_rfl
  have h5 : Tryd.prog.cellsOf 37 = 1 := by kernel_rfl
  rw [hc] at hl
  match cs, hl with
  | [c0, c1, c2, c3], _ =>
    match xs, hx with
    | [y0, y1, y2, y3], _ =>
      have g0 := hf 0 _ rfl
      have g1 := hf 1 _ rfl
      have g2 := hf 2 _ rfl
      have g3 := hf 3 _ rfl
      simp [h3, h4, h5] at g0 g1 g2 g3
      obtain ⟨n0, e0, _, w0⟩ := DataW.trod_int Tryd.underlying3 g0
      obtain ⟨n1, e1, _, w1⟩ := DataW.trod_int Tryd.underlying3 g1
      obtain ⟨n2, e2, _, w2⟩ := DataW.trod_int Tryd.underlying22 g2
      have key : ∃ A m c, c3 = .slice A m c := by
        rcases open_ints Tryd.underlying37 Tryd.underlying22 h4 g3 with ⟨e, _⟩ | ⟨x, m, c, zs, e, _⟩
        · exact ⟨none, 0, 0, by simpa [Value.cells] using e⟩
        · exact ⟨some x, m, c, by simpa [Value.cells] using e⟩
      obtain ⟨A, m, c, rfl⟩ := key
      obtain ⟨l, h1, h2⟩ := arg_ints (H := H) (enc := enc) (base := base) (spare := spare) (held := held) (a := A) (len := m) (cap := c) (d := y3.1) (p := y3.2) Tryd.underlying37 Tryd.underlying22 h4 ⟨_, g3⟩
      simp at e0 e1 e2
      subst e0 e1 e2
      have b2 := bounds_u64 w2
      exact ⟨⟨n0, n1, n2, A, m, c, l⟩, rfl, ⟨b2.1, show n2 < 18446744073709551616 by have := b2.2; omega⟩, h1, fun z hz => by have := bounds_u64 (h2 z hz); omega⟩
theorem arg_tas {H : Type} {enc : TypeId × Value → H} {w : World} {base : Nat} {spare : Nat → Bool} {held : Bool} {a : Option Addr} {len cap : Nat} {d : DataW H} {p : List MemPlace}
    (h : DataW.Trod enc Tryd.prog w base spare held 45 (.slice a len cap) d p) : ∃ l : List Ta, Arg w 4 taC a len cap l ∧ ∀ z ∈ l, wfTa w z := by
  obtain ⟨l, ha, hw⟩ := arg_rows taC (wfTa w) 4 (by decide) Tryd.underlying45 (by kernel_rfl) taC_length dec_ta h
  exact ⟨l, ha, hw⟩
end Go.Proofs.YtdmmcgcglkblhaaDoor
