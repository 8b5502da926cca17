/-
  Walks and laws, one behind the other (part 35).
-/
import Derived.Lib.LaidTab
import Derived.Stop.LaidErr
import Derived.Test.YtfjdhdeiaakbaaaGreatDoorS4
import Derived.Test.YtfjdhdeiaakbaaaGreatDoorS30
import Derived.Test.YtfjdhdeiaakbaaaGreatDoorS34
set_option linter.unusedSimpArgs false
set_option linter.unusedVariables false
/-
  An entry that came in, opened; the widths that the program's text lays.
-/
namespace Go.Proofs.YtfjdhdeiaakbaaaGreatDoor
open Go.RowKit Go.ChangeShapes Go.WideShapes Go.ChangeAt Go.Deep

set_option maxRecDepth 100000 in
set_option maxHeartbeats 1600000 in
theorem arg_ent {H : Type} {enc : TypeId × Value → H} {w : World} {base b0 : Nat} {spare : Nat → Bool} {held : Bool} {r : Reach} {v : Value} {d : DataW H} {p : List MemPlace}
    (hv : Value.okWide Tryz.prog w r b0 48 v) (h : DataW.Trod enc Tryz.prog w base spare held 48 v d p) :
    ∃ (k s a b c : Int), v = .agg (entC k s a b c) := by
  simp only [Value.okWide, Tryz.underlying48] at hv
  obtain ⟨cs, rfl, _, _⟩ := hv
  obtain ⟨fuel, hf⟩ := h
  obtain ⟨xs, k, _, _, hl, hx, hel⟩ := DataW.trod_struct Tryz.underlying48 hf
  have hc : Tryz.prog.cellsOf 48 = 5 := by kernel_rfl
  have ci : Tryz.prog.cellsOf 3 = 1 := by kernel_rfl
  rw [hc] at hl
  obtain ⟨cs⟩ := cs
  match cs, hl with
  | [c0, c1, c2, c3, c4], _ =>
    match xs, hx with
    | [y0, y1, y2, y3, y4], _ =>
      have g0 := hel 0 _ rfl
      have g1 := hel 1 _ rfl
      have g2 := hel 2 _ rfl
      have g3 := hel 3 _ rfl
      have g4 := hel 4 _ rfl
      simp [ci, Value.cells] at g0 g1 g2 g3 g4
      obtain ⟨n0, e0, _, _⟩ := DataW.trod_int Tryz.underlying3 g0
      obtain ⟨n1, e1, _, _⟩ := DataW.trod_int Tryz.underlying3 g1
      obtain ⟨n2, e2, _, _⟩ := DataW.trod_int Tryz.underlying3 g2
      obtain ⟨n3, e3, _, _⟩ := DataW.trod_int Tryz.underlying3 g3
      obtain ⟨n4, e4, _, _⟩ := DataW.trod_int Tryz.underlying3 g4
      simp at e0 e1 e2 e3 e4
      subst e0 e1 e2 e3 e4
      exact ⟨n0, n1, n2, n3, n4, rfl⟩
theorem gw_of_tab {W : World} (h : Lib.TabIs Tryz.prog W "ferrybridge/segment.widths" .i64 [1, 1, 2, 2, 4, 4, 1, 2, 1, 1]) : Gw W := by
  have hc := fun i hi => h.cell (g := 1) (by kernel_rfl) i hi
  refine ⟨?_, fun i v hv => ?_⟩
  · have := World.block_lt_of_cell? _ _ (hc 0 (by decide))
    exact this
  · have hi : i < 10 := (Array.getElem?_eq_some_iff.1 hv).1
    rw [hc i hi, ← hv]
    obtain rfl | rfl | rfl | rfl | rfl | rfl | rfl | rfl | rfl | rfl : i = 0 ∨ i = 1 ∨ i = 2 ∨ i = 3 ∨ i = 4 ∨ i = 5 ∨ i = 6 ∨ i = 7 ∨ i = 8 ∨ i = 9 := by omega
    all_goals rfl
theorem gw_of_laid {W : World} {rest : List (String × DataW Unit)} (h : laidMet Tryz.prog (("ferrybridge/segment.widths", Lib.tabData .i64 [1, 1, 2, 2, 4, 4, 1, 2, 1, 1]) :: rest) W) : Gw W :=
  gw_of_tab (Lib.tabIs_of_head (g := 1) (t := 220) (e := 3) (n := 10) (by kernel_rfl) (by kernel_rfl) Tryz.underlying220 Tryz.underlying3 (by kernel_rfl) (by kernel_rfl) h)
end Go.Proofs.YtfjdhdeiaakbaaaGreatDoor
