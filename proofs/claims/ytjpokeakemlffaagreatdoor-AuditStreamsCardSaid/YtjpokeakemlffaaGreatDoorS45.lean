/-
  Walks and laws, one behind the other (part 45).
-/
import Derived.Lib.LazyBuf
import Derived.Test.YtjpokeakemlffaaGreatDoorS8
import Derived.Test.YtjpokeakemlffaaGreatDoorS10
set_option linter.unusedSimpArgs false
set_option linter.unusedVariables false
/-
  Spans: a set of runs; Runs, Many.
-/
namespace Go.Proofs.YtjpokeakemlffaaGreatDoor
open Go.RowKit
structure Sp (w : World) (lo sb : Nat) (l : List Due) : Prop where
  ex : ∃ v, Bk w sb #[v] 389 ∧ w.ownsRow lo 380 2 v l.length (l.flatMap dueC)
end Go.Proofs.YtjpokeakemlffaaGreatDoor
