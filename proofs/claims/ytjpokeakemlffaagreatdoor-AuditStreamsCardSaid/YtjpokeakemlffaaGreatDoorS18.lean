/-
  Walks and laws, one behind the other (part 18).
-/
import Derived.Deep.RegionHeld3
import Derived.IntWalk
import Derived.StillTactics
import Derived.WalkSpells
import Derived.Test.YtjpokeakemlffaaGreatDoorS16
set_option linter.unusedSimpArgs false
set_option linter.unusedVariables false
/-
  The contracts of the wheel of words: the and round.
-/
namespace Go.Proofs.YtjpokeakemlffaaGreatDoor
open Go.RowKit
theorem i64_and7 {n : Int} (h0 : 0 ≤ n) (h1 : n < 1000000) : bits .and .i64 n 7 = ((n.toNat % 8 : Nat) : Int) := by
  obtain ⟨m, rfl⟩ := Int.eq_ofNat_of_zero_le h0
  show IntKind.i64.wrap ((BitVec.ofInt 64 (m : Int) &&& BitVec.ofInt 64 (7 : Int)).toNat : Int) = _
  rw [BitVec.toNat_and, BitVec.ofInt_natCast, BitVec.toNat_ofNat, Nat.mod_eq_of_lt (by omega)]
  rw [show (BitVec.ofInt 64 (7 : Int)).toNat = 2 ^ 3 - 1 from rfl, Nat.and_two_pow_sub_one_eq_mod, IntKind.wrap_i64]
  simp only [Int.toNat_natCast]
  omega
set_option maxHeartbeats 400000 in
theorem the_any (b t : Nat) (k : Int) (ht : t < 100000) (k0 : 0 ≤ k) (k1 : k < 8) (w : World) (hat : w.cell? ⟨b, 8, none⟩ = some (.int .i64 t)) :
    Calls Tryz.prog 370 #[.pointer (some ⟨b, 0, none⟩), .int .i64 k] w fun e w' => e = .returned (.pointer (some ⟨b, (t + k.toNat) % 8, none⟩)) ∧ ∃ n, w' = w.drewN n := by
  have h1 : IntKind.i64.wrap ((t : Int) + k) = (t : Int) + k := IntWalk.i64_in _ (by omega)
  have h2 : bits .and .i64 ((t : Int) + k) 7 = (((t + k.toNat) % 8 : Nat) : Int) := by rw [i64_and7 (by omega) (by omega)]; congr 2; omega
  have h3 : (((t + k.toNat) % 8 : Nat) : Int) < 8 := by omega
  have h4 : (0 : Int) ≤ (((t + k.toNat) % 8 : Nat) : Int) := by omega
  generalize (t + k.toNat) % 8 = q at h2 h3 h4 ⊢
  go_enter Tryz.func370, Tryz.ntmps370
  go_wp2
  go_quiet (fail)
  go_wp2
  go_ret
  exact ⟨rfl, _, rfl⟩
theorem the_q (b t : Nat) (k : Int) (ht : t < 100000) (k0 : 0 ≤ k) (k1 : k < 8) (w : World) (hat : w.cell? ⟨b, 8, none⟩ = some (.int .i64 t)) (n : Nat) :
    Calls Tryz.prog 370 #[.pointer (some ⟨b, 0, none⟩), .int .i64 k] (w.drewN n) fun e w' => e = .returned (.pointer (some ⟨b, (t + k.toNat) % 8, none⟩)) ∧ ∃ m, w' = w.drewN m :=
  (the_any b t k ht k0 k1 (w.drewN n) hat).mono fun _ _ ⟨he, m, hm⟩ => ⟨he, n + m, by rw [hm, World.drewN_drewN]⟩
theorem turns_q (x : W32) (a b c : Int) (a0 : 0 < a) (a1 : a < 32) (b0 : 0 < b) (b1 : b < 32) (c0 : 0 < c) (c1 : c < 32) (w : World) (n : Nat) :
    Calls Tryz.prog 354 #[w32 x, .int .i64 a, .int .i64 b, .int .i64 c] (w.drewN n) fun e w' => e = .returned (w32 (trn x a.toNat b.toNat c.toNat)) ∧ ∃ j, w' = w.drewN j :=
  (turns_any x a b c a0 a1 b0 b1 c0 c1 _).mono fun _ _ ⟨he, hm⟩ => ⟨he, n, hm.symm⟩
structure Wheel8 (w : World) (b t : Nat) (s : Nat → W32) : Prop where
  c0 : w.cell? ⟨b, t % 8, none⟩ = some (w32 (s 0))
  c1 : w.cell? ⟨b, (t + 1) % 8, none⟩ = some (w32 (s 1))
  c2 : w.cell? ⟨b, (t + 2) % 8, none⟩ = some (w32 (s 2))
  c3 : w.cell? ⟨b, (t + 3) % 8, none⟩ = some (w32 (s 3))
  c4 : w.cell? ⟨b, (t + 4) % 8, none⟩ = some (w32 (s 4))
  c5 : w.cell? ⟨b, (t + 5) % 8, none⟩ = some (w32 (s 5))
  c6 : w.cell? ⟨b, (t + 6) % 8, none⟩ = some (w32 (s 6))
  c7 : w.cell? ⟨b, (t + 7) % 8, none⟩ = some (w32 (s 7))
  c8 : w.cell? ⟨b, 8, none⟩ = some (.int .i64 t)
  fz : ∀ o, w.frozen? ⟨b, o, none⟩ = false
theorem cell_far {w : World} {b i j : Nat} (h : i ≠ j) (u : Value) : (w.setCell ⟨b, i, none⟩ u).cell? ⟨b, j, none⟩ = w.cell? ⟨b, j, none⟩ :=
  World.cell?_setCell_other w ⟨b, i, none⟩ ⟨b, j, none⟩ u (fun e => h (by injection e))
theorem cell_same {w : World} {b i : Nat} {v : Value} (h : w.cell? ⟨b, i, none⟩ = some v) (u : Value) : (w.setCell ⟨b, i, none⟩ u).cell? ⟨b, i, none⟩ = some u :=
  World.cell?_setCell_same' w _ u (by rw [h]; rfl)
theorem Wheel8.step {w : World} {b t : Nat} {s : Nat → W32} (h : Wheel8 w b t s) (x : W32) :
    Wheel8 (((w.setCell ⟨b, (t + 3) % 8, none⟩ (w32 (s 3 + rUp s x))).setCell ⟨b, (t + 7) % 8, none⟩ (w32 (rTop s x))).setCell ⟨b, 8, none⟩ (.int .i64 (t + 7 : Nat))) b (t + 7) (rnd s x) where
  c0 := by rw [cell_far (by omega)]; exact cell_same (by rw [cell_far (by omega)]; exact h.c7) _
  c1 := by rw [show (t + 7 + 1) % 8 = t % 8 by omega, cell_far (by omega), cell_far (by omega), cell_far (by omega)]; exact h.c0
  c2 := by rw [show (t + 7 + 2) % 8 = (t + 1) % 8 by omega, cell_far (by omega), cell_far (by omega), cell_far (by omega)]; exact h.c1
  c3 := by rw [show (t + 7 + 3) % 8 = (t + 2) % 8 by omega, cell_far (by omega), cell_far (by omega), cell_far (by omega)]; exact h.c2
  c4 := by rw [show (t + 7 + 4) % 8 = (t + 3) % 8 by omega, cell_far (by omega), cell_far (by omega)]; exact cell_same h.c3 _
  c5 := by rw [show (t + 7 + 5) % 8 = (t + 4) % 8 by omega, cell_far (by omega), cell_far (by omega), cell_far (by omega)]; exact h.c4
  c6 := by rw [show (t + 7 + 6) % 8 = (t + 5) % 8 by omega, cell_far (by omega), cell_far (by omega), cell_far (by omega)]; exact h.c5
  c7 := by rw [show (t + 7 + 7) % 8 = (t + 6) % 8 by omega, cell_far (by omega), cell_far (by omega), cell_far (by omega)]; exact h.c6
  c8 := cell_same (v := .int .i64 t) (by rw [cell_far (by omega), cell_far (by omega)]; exact h.c8) _
  fz := fun o => by rw [World.frozen?_setCell, World.frozen?_setCell, World.frozen?_setCell]; exact h.fz o
theorem grown_set {a w : World} {b : Nat} (h : a.grownBy w (some b)) (i : Nat) (u : Value) : a.grownBy (w.setCell ⟨b, i, none⟩ u) (some b) :=
  ⟨h.os, h.tape, h.output, by simpa [World.setCell] using h.size, fun k hk hne => (Below.heap_setCell w ⟨b, i, none⟩ u k (fun e => hne (by rw [e]))).trans (h.block k hk hne)⟩
theorem grown_drewN {a w : World} {r : Option Nat} (h : a.grownBy w r) (n : Nat) : a.grownBy (w.drewN n) r := ⟨h.os, h.tape, h.output, h.size, h.block⟩
theorem Wheel8.drewN {w : World} {b t : Nat} {s : Nat → W32} (h : Wheel8 w b t s) (n : Nat) : Wheel8 (w.drewN n) b t s := ⟨h.c0, h.c1, h.c2, h.c3, h.c4, h.c5, h.c6, h.c7, h.c8, h.fz⟩
set_option maxHeartbeats 2000000 in
set_option maxRecDepth 100000 in
theorem round_any (b t : Nat) (s : Nat → W32) (x : W32) (ht : t < 10000) (w : World) (hw : Wheel8 w b t s) :
    Calls Tryz.prog 356 #[.pointer (some ⟨b, 0, none⟩), w32 x] w fun e w' => e = .returned (.tuple #[]) ∧ Wheel8 w' b (t + 7) (rnd s x) ∧ w.grownBy w' (some b) := by
  have HW := Lib.hid hw
  obtain ⟨c0, c1, c2, c3, c4, c5, c6, c7, c8, fz⟩ := hw
  go_enter Tryz.func356, Tryz.ntmps356
  go_wp2
  go_quiet ((first
    | (go_at_call 370; exact the_q b t _ (by omega) (by omega) (by omega) w c8 _)))
  go_wp2
  clear c0 c1 c2 c3 c4 c5 c6 c7 c8 fz
  generalize hw1 : w.drewN _ = w1
  have HW1 : Wheel8 w1 b t s := hw1 ▸ HW.out.drewN _
  have H1 := Lib.hid hw1
  clear hw1
  obtain ⟨c0, c1, c2, c3, c4, c5, c6, c7, c8, fz⟩ := HW1
  go_quiet ((first
    | (go_at_call 370; exact the_q b t _ (by omega) (by omega) (by omega) w1 c8 _)))
  go_wp2
  clear c0 c1 c2 c3 c4 c5 c6 c7 c8 fz
  generalize hw2 : w1.drewN _ = w2
  have HW2 : Wheel8 w2 b t s := hw2 ▸ (H1.out ▸ HW.out.drewN _ : Wheel8 w1 b t s).drewN _
  have H2 := Lib.hid hw2
  clear hw2
  obtain ⟨c0, c1, c2, c3, c4, c5, c6, c7, c8, fz⟩ := HW2
  go_quiet ((first
    | (go_at_call 370; exact the_q b t _ (by omega) (by omega) (by omega) w2 c8 _)
    | (go_at_call 354; exact turns_q _ _ _ _ (by omega) (by omega) (by omega) (by omega) (by omega) (by omega) w2 _)))
  go_wp2_with fail
  simp only [w_xor, w_and, w_add3, w_add]
  have d1 : ¬ (t + 3) % 8 = (t + 7) % 8 := by omega
  have d2 : ¬ (t + 3) % 8 = 8 := by omega
  have d3 : ¬ (t + 7) % 8 = 8 := by omega
  have d4 : ¬ (t + 7) % 8 = (t + 3) % 8 := by omega
  have d5 : ¬ 8 = (t + 3) % 8 := by omega
  have d6 : ¬ 8 = (t + 7) % 8 := by omega
  have hne : (⟨b, (t + 3) % 8, none⟩ : Addr) ≠ ⟨b, 8, none⟩ := fun e => by injection e; omega
  clear c0 c1 c2 c4 c5 c6
  go_wp2_with (first
    | (go_at_call 370; refine (the_any b t _ (by omega) (by omega) (by omega) _ ?_).mono ?_; (first | exact c8 | exact (World.cell?_setCell_other _ ⟨b, (t + 3) % 8, none⟩ ⟨b, 8, none⟩ _ hne).trans c8); rintro e w' ⟨rfl, nn, rfl⟩)
    | (go_at_call 354; refine (turns_any _ _ _ _ (by omega) (by omega) (by omega) (by omega) (by omega) (by omega) _).mono ?_; rintro e w' ⟨rfl, rfl⟩))
  go_end0
  simp only [w_xor, w_and, w_add3, w_add]
  refine ⟨trivial, ?_, ?_⟩
  · have h2 : Wheel8 w2 b t s := H2.out ▸ (H1.out ▸ HW.out.drewN _ : Wheel8 w1 b t s).drewN _
    have h3 := h2.step x
    exact ⟨h3.c0, h3.c1, h3.c2, h3.c3, h3.c4, h3.c5, h3.c6, h3.c7, h3.c8, h3.fz⟩
  · rw [← H2.out, ← H1.out]
    exact grown_set (grown_set (grown_drewN (grown_set (grown_drewN (grown_drewN (grown_drewN (World.grownBy.refl w _) _) _) _) _ _) _) _ _) _ _
end Go.Proofs.YtjpokeakemlffaaGreatDoor
