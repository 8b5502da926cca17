/-
  Walks and laws, one behind the other (part 7).
-/
import Derived.Test.YtjpokeakemlffaaGreatDoorProg
import Derived.Test.YtjpokeakemlffaaGreatDoorS2
set_option linter.unusedSimpArgs false
set_option linter.unusedVariables false
/-
  A block known whole is a slice that reads.
-/
namespace Go.Proofs.YtjpokeakemlffaaGreatDoor
open Go.RowKit
theorem Arg.ofRow {α : Type} {w : World} {g : Nat} {t : TypeId} {fr : Nat × Nat} {sz : Nat} {enc : α → List Value} (henc : ∀ x, (enc x).length = sz) {l : List α} (h : w.heap[g]? = some (.cells (l.flatMap enc).toArray t fr)) (n : Nat) (hn : l.length = n) (hm : n ≤ maxLen) :
    Arg w sz enc (some ⟨g, 0, none⟩) n n l := by
  subst hn
  exact ⟨rfl, Nat.le_refl _, hm, (fun e => by cases e), fun hl => ⟨g, 0, rfl, lt_of_block h, fun i x hx j v hv => by
    rw [Nat.zero_add, cell_of_row w g _ _ t fr h]
    simpa using flat_at henc l i x hx j v hv⟩⟩
theorem Arg.new' {α : Type} (w : World) (g : Nat) (hg : w.heap.size = g) (t : TypeId) (fr : Nat × Nat) (sz : Nat) (enc : α → List Value) (henc : ∀ x, (enc x).length = sz) (l : List α) (n : Nat) (hn : l.length = n) (hm : n ≤ maxLen) :
    Arg (w.alloc (.cells (l.flatMap enc).toArray t fr)) sz enc (some ⟨g, 0, none⟩) n n l := by
  subst hg
  exact Arg.ofRow henc (heap_alloc_new w _) n hn hm
theorem flat_encB' : ∀ l : List Int, l.flatMap encB = l.map (Value.int .u8)
  | [] => rfl
  | x :: r => by rw [List.flatMap_cons, flat_encB' r]; rfl
theorem Arg.row {w : World} {g : Nat} {t : TypeId} {fr : Nat × Nat} {l : List Int} (h : w.heap[g]? = some (.cells (l.map (Value.int .u8)).toArray t fr)) (n : Nat) (hn : l.length = n) (hm : n ≤ maxLen) : Arg w 1 encB (some ⟨g, 0, none⟩) n n l :=
  Arg.ofRow encB_length (by rw [flat_encB']; exact h) n hn hm
end Go.Proofs.YtjpokeakemlffaaGreatDoor
