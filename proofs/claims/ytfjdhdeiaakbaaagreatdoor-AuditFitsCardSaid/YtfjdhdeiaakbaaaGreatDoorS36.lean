/-
  Walks and laws, one behind the other (part 36).
-/
import Derived.Ground.NamesProg
import Derived.Shelf.Bytes.SlSmallAll
import Derived.Test.YtfjdhdeiaakbaaaGreatDoorS7
set_option linter.unusedSimpArgs false
set_option linter.unusedVariables false
/-
  bytes.HasPrefix lies at this program (what the kit's tool lay-plain printed).
-/
namespace Go.Proofs.YtfjdhdeiaakbaaaGreatDoor
open Go.Shelf
def layHp_ren : Go.Shelf.Ren := ⟨fun | 116 => 19 | 115 => 50 | n => n, fun | 37 => 32 | 4 => 4 | 3 => 3 | 9 => 9 | 5 => 5 | n => n, fun | n => n⟩
theorem layHp : Go.Proofs.Lays.nb116 Tryz.prog layHp_ren := {
  mixed := by kernel_rfl
  f115 := Tryz.func50.trans (congrArg some (by kernel_rfl))
  f116 := Tryz.func19.trans (congrArg some (by kernel_rfl))
  t3 := Tryz.underlying3
  a3 := Tryz.isAgg3
  z3 := Tryz.sizeOf3
  v3 := Tryz.zeroValue3
  t4 := Tryz.underlying4
  a4 := Tryz.isAgg4
  z4 := Tryz.sizeOf4
  v4 := Tryz.zeroValue4
  t9 := Tryz.underlying9
  a9 := Tryz.isAgg9
  z9 := Tryz.sizeOf9
  v9 := Tryz.zeroValue9
  t37 := Tryz.underlying32
  a37 := Tryz.isAgg32
  z37 := Tryz.sizeOf32
  v37 := Tryz.zeroValue32
  t5 := Tryz.underlying5
  a5 := Tryz.isAgg5
  z5 := Tryz.sizeOf5
  v5 := Tryz.zeroValue5 }
end Go.Proofs.YtfjdhdeiaakbaaaGreatDoor
