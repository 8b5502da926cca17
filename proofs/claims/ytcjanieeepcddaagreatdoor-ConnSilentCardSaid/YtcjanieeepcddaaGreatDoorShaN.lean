/-
  sha.Of of a new row of pieces.
-/
import Derived.Test.YtcjanieeepcddaaGreatDoorShaD
import Derived.Test.YtcjanieeepcddaaGreatDoorRowN
namespace Go.Proofs.YtcjanieeepcddaaGreatDoor
open Go.RowKit

theorem Arg.empty {α : Type} (w : World) (sz : Nat) (enc : α → List Value) (A : Option Addr) : Arg w sz enc A 0 0 ([] : List α) := ⟨rfl, Nat.le_refl _, by decide, fun _ => rfl, Rd.nil⟩

theorem PcsOk.alloc {w : World} {ps : List Pc} (h : PcsOk w ps) (o : Obj) : PcsOk (w.alloc o) ps := fun p hp => (h p hp).alloc o
/-- sha.Of of a new row of pieces. -/
theorem of_new (w : World) (g n : Nat) (ps : List Pc) (l : List Int) (hg : w.heap.size = g) (hn : ps.length = n) (hok : PcsOk w ps) (hl : glue ps = l) (hn1 : n ≤ 1000000) (h1 : l.length ≤ 100000) (hb : ∀ z ∈ l, 0 ≤ z ∧ z ≤ 255) :
    Calls Tryz.prog 124 #[.slice (some ⟨g, 0, none⟩) n n] (w.alloc (.cells (ps.flatMap encP).toArray 37)) fun r w' => r = .returned (.agg (bArr (digB l))) ∧ Below w.heap.size w w' := by
  subst hl
  refine (of_any _ n n ps _ (Arg.new' w g hg 37 (0, 0) 1 encP encP_length ps n hn (by unfold maxLen; omega)) (hok.alloc _) hn1 h1 hb).mono ?_
  rintro e w' ⟨rfl, hb'⟩
  exact ⟨rfl, ((Below.refl _ w).alloc (Nat.le_refl _) _).trans (hb'.mono (by simp))⟩

end Go.Proofs.YtcjanieeepcddaaGreatDoor
