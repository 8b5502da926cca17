/-
  Walks and laws, one behind the other (part 49).
-/
import Derived.Test.YtjpokeakemlffaaGreatDoorS6
import Derived.Test.YtjpokeakemlffaaGreatDoorS41
set_option linter.unusedSimpArgs false
set_option linter.unusedVariables false
/-
  A log that came in, opened.
-/
namespace Go.Proofs.YtjpokeakemlffaaGreatDoor
open Go.RowKit Go.ChangeShapes Go.WideShapes Go.ChangeAt Go.Deep
def wfTd (w : World) (x : Td) : Prop := (wfI x.s ∧ wfI x.h) ∧ Arg w 1 encB x.A x.m x.c x.d
set_option maxRecDepth 100000 in
set_option maxHeartbeats 1600000 in
theorem dec_told {H : Type} {enc : TypeId × Value → H} {w : World} {base : Nat} {spare : Nat → Bool} {held : Bool} (n : Nat) (cs : List Value) (y : DataW H × List MemPlace)
    (h : DataW.trod enc Tryz.prog w base spare held n 27 cs = some y) : ∃ x : Td, cs = tdK x ∧ wfTd w x := by
  obtain ⟨xs, k, _, _, hl, hx, hf⟩ := DataW.trod_struct Tryz.underlying27 h
  have hc : Tryz.prog.cellsOf 27 = 7 := by kernel_rfl
  have h3 : Tryz.prog.cellsOf 3 = 1 := by kernel_rfl
  have h4 : Tryz.prog.cellsOf 25 = 1 := by kernel_rfl
  have h5 : Tryz.prog.cellsOf 24 = 1 := by kernel_rfl
  rw [hc] at hl
  match cs, hl with
  | [c0, c1, c2, c3, c4, c5, c6], _ =>
    match xs, hx with
    | [y0, y1, y2, y3, y4, y5, y6], _ =>
      have g0 := hf 0 _ rfl
      have g1 := hf 1 _ rfl
      have g2 := hf 2 _ rfl
      have g3 := hf 3 _ rfl
      have g4 := hf 4 _ rfl
      have g5 := hf 5 _ rfl
      have g6 := hf 6 _ rfl
      simp [h3, h4, h5] at g0 g1 g2 g3 g4 g5 g6
      obtain ⟨n0, e0, _, w0⟩ := DataW.trod_int Tryz.underlying3 g0
      obtain ⟨n1, e1, _, w1⟩ := DataW.trod_int Tryz.underlying3 g1
      obtain ⟨n2, e2, _, w2⟩ := DataW.trod_int Tryz.underlying3 g2
      obtain ⟨n3, e3, _, w3⟩ := DataW.trod_int Tryz.underlying3 g3
      obtain ⟨n4, e4, _, w4⟩ := DataW.trod_int Tryz.underlying3 g4
      obtain ⟨n6, e6, _, w6⟩ := DataW.trod_int Tryz.underlying25 g6
      obtain ⟨A, m, c, rfl⟩ := shape2 Tryz.underlying24 g5
      obtain ⟨d, hd, _⟩ := arg_bytes (H := H) (enc := enc) (base := base) (spare := spare) (held := held) (a := A) (len := m) (cap := c) (d := y5.1) (p := y5.2) Tryz.underlying24 Tryz.underlying5 (by kernel_rfl) ⟨_, g5⟩
      simp at e0 e1 e2 e3 e4 e6
      subst e0 e1 e2 e3 e4 e6
      exact ⟨⟨n0, n1, n2, n3, n4, A, m, c, d, n6⟩, rfl, ⟨w0, w3⟩, hd⟩
set_option maxRecDepth 100000 in
set_option maxHeartbeats 1600000 in
theorem arg_told {H : Type} {enc : TypeId × Value → H} {w : World} {base : Nat} {spare : Nat → Bool} {held : Bool} {a : Option Addr} {len cap : Nat} {d : DataW H} {p : List MemPlace}
    (h : DataW.Trod enc Tryz.prog w base spare held 22 (.slice a len cap) d p) : ∃ l : List Td, Arg w 7 tdK a len cap l ∧ ∀ z ∈ l, wfTd w z :=
  arg_rows tdK (wfTd w) 7 (by decide) Tryz.underlying22 (by kernel_rfl) (fun _ => rfl) dec_told h
end Go.Proofs.YtjpokeakemlffaaGreatDoor
