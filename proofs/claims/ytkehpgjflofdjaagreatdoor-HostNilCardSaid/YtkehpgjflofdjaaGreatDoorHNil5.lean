/-
  Walks and laws, one behind the other (part 5).
-/
import Derived.Test.YtkehpgjflofdjaaGreatDoorProg
import Derived.WalkKit
set_option linter.unusedSimpArgs false
set_option linter.unusedVariables false
/-
  Any segment's cells.
-/
namespace Go.Proofs.YtkehpgjflofdjaaGreatDoor
/-- Any segment's cells. -/
abbrev segA (a0 a1 a2 a3 a4 a5 : Int) (b6 b7 b8 b9 : Bool) (a10 : Int) (oA : Option Addr) (on oc : Nat) (dA : Option Addr) (dn dc : Nat) : Array Value :=
  #[.int .i64 a0, .int .i64 a1, .int .i64 a2, .int .i64 a3, .int .u32 a4, .int .u32 a5, .bool b6, .bool b7, .bool b8, .bool b9, .int .i64 a10, .slice oA on oc, .slice dA dn dc]
end Go.Proofs.YtkehpgjflofdjaaGreatDoor
