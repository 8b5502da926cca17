/-
  Walks and laws, one behind the other (part 11).
-/
import Derived.BigQuiet
import Derived.Deep.QuietTactic
import Derived.LoopTactic
import Derived.Outline
import Derived.Test.YtjpokeakemlffaaGreatDoorProg
import Derived.WalkKit
import Derived.Test.YtjpokeakemlffaaGreatDoorS2
import Derived.Test.YtjpokeakemlffaaGreatDoorS9
set_option linter.unusedSimpArgs false
set_option linter.unusedVariables false
/-
  The contracts of ring.slot and nested.place: the address of the list.
-/
namespace Go.Proofs.YtjpokeakemlffaaGreatDoor
open Go.RowKit
theorem slot_any (b k : Nat) (d : Int) (w : World) (hd : 0 ≤ d) :
    Calls Tryz.prog 301 #[.pointer (some ⟨b, k, none⟩), .int .i64 d] w fun e w' => e = .returned (.pointer (some ⟨b, k + (d % 16).toNat, none⟩)) ∧ w' = w := by
  have hm : (d.tmod 16) = d % 16 := Int.tmod_eq_emod_of_nonneg hd
  have h0 : 0 ≤ d % 16 := by omega
  have h1 : d % 16 < 16 := by omega
  go_enter Tryz.func301, Tryz.ntmps301
  go_wp2
  go_ret
  exact ⟨rfl, rfl⟩
theorem place_any (b : Nat) (now t : Int) (w : World) (hn : 0 ≤ now) (hn2 : now < 4611686018427387904) (ht : 0 ≤ t) (ht2 : t < 4611686018427387904) (hc : w.cell? ⟨b, 49, none⟩ = some (.int .i64 now)) :
    Calls Tryz.prog 282 #[.pointer (some ⟨b, 0, none⟩), .int .i64 t] w fun e w' => e = .returned (.pointer (some ⟨b, pl now t, none⟩)) ∧ w' = w := by
  have d1 : ∀ x : Int, 0 ≤ x → x.tdiv 16 = x / 16 := fun x h => Int.tdiv_eq_ediv_of_nonneg h
  have p1 := d1 t ht
  have p2 := d1 (t / 16) (by omega)
  have p3 := d1 (t / 16 / 16) (by omega)
  have q1 := d1 now hn
  have q2 := d1 (now / 16) (by omega)
  have q3 := d1 (now / 16 / 16) (by omega)
  clear d1
  have x1 : wrap64 (t / 16) = t / 16 := by unfold wrap64; omega
  have x2 : wrap64 (t / 16 / 16) = t / 16 / 16 := by unfold wrap64; omega
  have x3 : wrap64 (t / 16 / 16 / 16) = t / 16 / 16 / 16 := by unfold wrap64; omega
  have y1 : wrap64 (now / 16) = now / 16 := by unfold wrap64; omega
  have y2 : wrap64 (now / 16 / 16) = now / 16 / 16 := by unfold wrap64; omega
  have y3 : wrap64 (now / 16 / 16 / 16) = now / 16 / 16 / 16 := by unfold wrap64; omega
  have r1 : 0 ≤ t / 16 := by omega
  have r2 : 0 ≤ t / 16 / 16 := by omega
  have out : ∀ i, pl now t = i → Ending.returned (.pointer (some ⟨b, i, none⟩)) = Ending.returned (.pointer (some ⟨b, pl now t, none⟩)) := fun i h => by rw [h]
  go_enter Tryz.func282, Tryz.ntmps282
  go_wp2_with (first | (go_at_call 301; refine (slot_any _ _ _ _ (by assumption)).mono ?_; rintro e w' ⟨rfl, rfl⟩))
  all_goals go_ret
  · refine ⟨out _ ?_, rfl⟩
    have h1 : t / 16 = now / 16 := eq_of_beq ‹_›
    unfold pl; rw [if_pos h1]
  · refine ⟨out _ ?_, rfl⟩
    have h1 : t / 16 ≠ now / 16 := ne_of_beq_false ‹(t / 16 == now / 16) = false›
    have h2 : t / 16 / 16 = now / 16 / 16 := eq_of_beq ‹_›
    unfold pl; rw [if_neg h1, if_pos h2]
  · refine ⟨out _ ?_, rfl⟩
    have h2 : t / 16 / 16 ≠ now / 16 / 16 := ne_of_beq_false ‹(t / 16 / 16 == now / 16 / 16) = false›
    have h1 : t / 16 ≠ now / 16 := fun e => h2 (by rw [e])
    have h3 : t / 16 / 16 / 16 = now / 16 / 16 / 16 := eq_of_beq ‹_›
    unfold pl; rw [if_neg h1, if_neg h2, if_pos h3]
  · refine ⟨out _ ?_, rfl⟩
    have h3 : t / 16 / 16 / 16 ≠ now / 16 / 16 / 16 := ne_of_beq_false ‹(t / 16 / 16 / 16 == now / 16 / 16 / 16) = false›
    have h2 : t / 16 / 16 ≠ now / 16 / 16 := fun e => h3 (by rw [e])
    have h1 : t / 16 ≠ now / 16 := fun e => h2 (by rw [e])
    unfold pl; rw [if_neg h1, if_neg h2, if_neg h3]
end Go.Proofs.YtjpokeakemlffaaGreatDoor
