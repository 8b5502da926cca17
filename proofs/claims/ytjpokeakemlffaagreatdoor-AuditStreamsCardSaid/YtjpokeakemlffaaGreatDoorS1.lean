/-
  Walks and laws, one behind the other (part 1).
-/
import Derived.KernelRfl
import Derived.Test.YtjpokeakemlffaaGreatDoorCards
set_option linter.unusedSimpArgs false
set_option linter.unusedVariables false
/-
  No function of the program starts a goroutine.
-/
namespace Go.Proofs.YtjpokeakemlffaaGreatDoor
open Go
theorem noGo : Tryz.prog.funcs.any Func.goes = false := by kernel_rfl
theorem goes_no (f : FuncId) : Tryz.prog.goes f = false := by
  unfold Program.goes
  rw [noGo, Bool.and_false, Bool.or_false, List.any_eq_false]
  intro g _
  cases h : Tryz.prog.funcs[g]? with
  | none => simp
  | some fn =>
    have hm : fn ∈ Tryz.prog.funcs := Array.mem_of_getElem? h
    have := (Array.any_eq_false' ).1 noGo fn hm
    simpa using this
theorem goesBy_no (c : OpenClaim) (h : c.start = .entering) : c.goesBy Tryz.prog = false := by
  unfold OpenClaim.goesBy Program.goesAt Program.goesFrom
  rw [h]
  cases Tryz.prog.funcNamed c.func with
  | none => rfl
  | some f => simpa using goes_no f
end Go.Proofs.YtjpokeakemlffaaGreatDoor
