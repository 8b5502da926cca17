/-
  A fact of the walk's own: nothing opens it.
-/
import Derived.Test.YtcjanieeepcddaaGreatDoorBase
namespace Go.Proofs.YtcjanieeepcddaaGreatDoor

/-- What the walk must not see. -/
structure Keep (p : Prop) : Prop where
  out : p
end Go.Proofs.YtcjanieeepcddaaGreatDoor
