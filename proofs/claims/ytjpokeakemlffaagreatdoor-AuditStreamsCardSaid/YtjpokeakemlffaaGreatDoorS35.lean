/-
  Walks and laws, one behind the other (part 35).
-/
import Derived.Lib.LaidTab
import Derived.Stop.LaidErr
import Derived.Test.YtjpokeakemlffaaGreatDoorS4
import Derived.Test.YtjpokeakemlffaaGreatDoorS30
import Derived.Test.YtjpokeakemlffaaGreatDoorS34
set_option linter.unusedSimpArgs false
set_option linter.unusedVariables false
/-
  An entry that came in, opened; the widths that the program's text lays.
-/
namespace Go.Proofs.YtjpokeakemlffaaGreatDoor
open Go.RowKit Go.ChangeShapes Go.WideShapes Go.ChangeAt Go.Deep
theorem gw_of_tab {W : World} (h : Lib.TabIs Tryz.prog W "ferrybridge/segment.widths" .i64 [1, 1, 2, 2, 4, 4, 1, 2, 1, 1]) : Gw W := by
  have hc := fun i hi => h.cell (g := 0) (by kernel_rfl) i hi
  refine ⟨?_, fun i v hv => ?_⟩
  · have := World.block_lt_of_cell? _ _ (hc 0 (by decide))
    exact this
  · have hi : i < 10 := (Array.getElem?_eq_some_iff.1 hv).1
    rw [hc i hi, ← hv]
    obtain rfl | rfl | rfl | rfl | rfl | rfl | rfl | rfl | rfl | rfl : i = 0 ∨ i = 1 ∨ i = 2 ∨ i = 3 ∨ i = 4 ∨ i = 5 ∨ i = 6 ∨ i = 7 ∨ i = 8 ∨ i = 9 := by omega
    all_goals rfl
theorem gw_of_laid {W : World} {rest : List (String × DataW Unit)} (h : laidMet Tryz.prog (("ferrybridge/segment.widths", Lib.tabData .i64 [1, 1, 2, 2, 4, 4, 1, 2, 1, 1]) :: rest) W) : Gw W :=
  gw_of_tab (Lib.tabIs_of_head (g := 0) (t := 219) (e := 3) (n := 10) (by kernel_rfl) (by kernel_rfl) Tryz.underlying219 Tryz.underlying3 (by kernel_rfl) (by kernel_rfl) h)
end Go.Proofs.YtjpokeakemlffaaGreatDoor
