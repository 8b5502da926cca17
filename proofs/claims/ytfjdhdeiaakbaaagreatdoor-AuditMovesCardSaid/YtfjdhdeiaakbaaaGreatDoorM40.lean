/-
  Walks and laws, one behind the other (part 40).
-/
import Derived.Ground.NamesProg
import Derived.Shelf.Slices.Turned
import Derived.Test.YtfjdhdeiaakbaaaGreatDoorM7
set_option linter.unusedSimpArgs false
set_option linter.unusedVariables false
/-
  slices.Contains of whole numbers lies at this program (what the kit's tool lay-plain printed).
-/
namespace Go.Proofs.YtfjdhdeiaakbaaaGreatDoor
open Go.Shelf
def layCt_ren : Go.Shelf.Ren := ⟨fun | 107 => 17 | 108 => 48 | n => n, fun | 28 => 28 | 3 => 3 | 4 => 4 | 0 => 0 | n => n, fun | n => n⟩
theorem layCt : Go.Proofs.Lays.n107 Tryz.prog layCt_ren := {
  mixed := by kernel_rfl
  f107 := Tryz.func17.trans (congrArg some (by kernel_rfl))
  f108 := Tryz.func48.trans (congrArg some (by kernel_rfl))
  t0 := Tryz.underlying0
  a0 := Tryz.isAgg0
  z0 := Tryz.sizeOf0
  v0 := Tryz.zeroValue0
  t3 := Tryz.underlying3
  a3 := Tryz.isAgg3
  z3 := Tryz.sizeOf3
  v3 := Tryz.zeroValue3
  t4 := Tryz.underlying4
  a4 := Tryz.isAgg4
  z4 := Tryz.sizeOf4
  v4 := Tryz.zeroValue4
  t28 := Tryz.underlying28
  a28 := Tryz.isAgg28
  z28 := Tryz.sizeOf28
  v28 := Tryz.zeroValue28 }
end Go.Proofs.YtfjdhdeiaakbaaaGreatDoor
