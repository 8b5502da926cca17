/-
  Walks and laws, one behind the other (part 46).
-/
import Derived.Test.YtjpokeakemlffaaGreatDoorS44
import Derived.Test.YtjpokeakemlffaaGreatDoorS45
set_option linter.unusedSimpArgs false
set_option linter.unusedVariables false
/-
  A world's log of one call.
-/
namespace Go.Proofs.YtjpokeakemlffaaGreatDoor
open Go.RowKit Go.Maps
section
variable {w : World} {wb h0 h1 nb lo : Nat} {n0 n1 : Int} {lv dv : Value}
set_option maxRecDepth 100000 in
set_option maxHeartbeats 1600000 in
theorem tclone_one (h : w.ownsRow lo 27 7 lv 1 (toldC 0 5 1 0)) :
    Calls Tryz.prog 43 #[lv] w fun e w' => ∃ g c, e = .returned (.slice (some ⟨g, 0, none⟩) 1 c) ∧ w.heap.size ≤ g ∧ (∃ arr, Bk w' g arr 27 ∧ ∀ (j : Nat) (u : Value), (toldC 0 5 1 0)[j]? = some u → arr[j]? = some u) ∧ Below w.heap.size w w' := by
  have h' : w.ownsRow lo 27 7 lv 1 ([()].flatMap (fun _ => toldC 0 5 1 0)) := by simpa using h
  obtain ⟨A, c, rfl, hc⟩ := own_slice h
  have HR := Keep.mk (Rd.of_own (enc := fun _ : Unit => toldC 0 5 1 0) (l := [()]) (fun _ => rfl) (by decide) h')
  obtain ⟨i0, hi, hz0, hz1, hz2⟩ := info_parts infoTold
  have HI : Keep (Tryz.prog.info? 27 = some i0 ∧ i0.zero = some (.agg #[.int .i64 0, .int .i64 0, .int .i64 0, .int .i64 0, .int .i64 0, .slice none 0 0, .int .i64 0]) ∧ i0.size = 7 ∧ i0.bytes = 72) := ⟨hi, hz0, hz1, hz2⟩
  have hq : ∀ w', (binOp .eql 22 (.slice A 1 c) (.slice none 0 0)).run Tryz.prog w' = .ok (.bool A.isNone) w' := fun w' => run_eql_slice_nil w' _ _ A 1 c Tryz.underlying22
  obtain ⟨g0, off0, rfl, hg0, -⟩ := HR.out (by simp)
  clear h h' hc hi hz0 hz1 hz2 hg0
  go_enter Tryz.func43, Tryz.ntmps43
  go_wp2_with (first
    | (refine wpList_append_rd rfl (.tmp 5) (.tmp 6) 22 rfl w.heap.size 27 i0 _ 7 72 Tryz.underlying22 HI.out.1 HI.out.2.1 HI.out.2.2.1 HI.out.2.2.2 rfl (by omega) (.slice (some ⟨w.heap.size, 0, none⟩) 0 0) 0 [] rfl (World.ownsRow_made w #[] 0 (Nat.le_refl _) (Nat.zero_le _) (by simp)) (some ⟨g0, off0, none⟩) 1 c w.heap.size (fun _ : Unit => toldC 0 5 1 0) [()] rfl (by intro e; cases e) rfl (fun _ => rfl) (HR.out.below ((Below.refl _ w).alloc (Nat.le_refl _) _)) (fun _ => by simp [Value.oneCell']) (by unfold maxLen; omega) (by omega) (by simp) ?_
       intro v' w3 ho3 hg3 hv3
       have B3 : Keep (Below w.heap.size w w3) := ⟨((Fz.alloc w (.cells #[] 27)).trans (Fz.grown hg3)).toBelow (Nat.le_refl _) (by simp [Value.ownBlock])⟩
       have ho4 : w3.ownsRow w.heap.size 27 7 v' 1 (toldC 0 5 1 0) := by simpa using ho3
       obtain ⟨g4, c4, rfl, one4⟩ := one_of (w := w) ho4 rfl
       have K4 : Keep (w.heap.size ≤ g4 ∧ ∃ arr, Bk w3 g4 arr 27 ∧ ∀ (j : Nat) (u : Value), (toldC 0 5 1 0)[j]? = some u → arr[j]? = some u) := ⟨one4.low, by
         obtain ⟨_, cur, hk⟩ := own_ty one4.own rfl
         exact ⟨cur, hk, fun j u hu => (hk.c j).symm.trans (one4.cell j u hu)⟩⟩
       clear ho3 hg3 hv3 ho4 one4)
    | fail)
  go_ret
  exact ⟨_, _, rfl, K4.out.1, K4.out.2, B3.out⟩
set_option maxRecDepth 100000 in
set_option maxHeartbeats 1600000 in
theorem wlog_one (hw : Bk w wb (wldC h0 h1 nb n0 n1 lv dv) 73) (hl : w.ownsRow lo 27 7 lv 1 (toldC 0 5 1 0)) :
    Calls Tryz.prog 12 #[.pointer (some ⟨wb, 0, none⟩)] w fun e w' => ∃ g c, e = .returned (.slice (some ⟨g, 0, none⟩) 1 c) ∧ w.heap.size ≤ g ∧ (∃ arr, Bk w' g arr 27 ∧ ∀ (j : Nat) (u : Value), (toldC 0 5 1 0)[j]? = some u → arr[j]? = some u) ∧ Below w.heap.size w w' := by
  obtain ⟨A, cc, rfl, _⟩ := own_slice hl
  have c5 : w.cell? ⟨wb, 5, none⟩ = some (.slice A 1 cc) := hw.c 5
  have CL := Keep.mk (tclone_one hl)
  clear hw hl
  go_enter Tryz.func12, Tryz.ntmps12
  go_wp2_with (first
    | (go_at_call 43
       go_loud (refine CL.out.mono ?_; rintro e w1 ⟨g1, cc1, rfl, hg1, ⟨arr1, hb1, ha1⟩, b1⟩)
       have KB1 := Keep.mk hb1
       have KA1 := Lib.hid ha1
       have B1 : Keep (w.heap.size ≤ g1 ∧ Below w.heap.size w w1) := ⟨hg1, b1⟩
       have d5 : w1.cell? ⟨g1, 5, none⟩ = some (.slice none 0 0) := (hb1.c 5).trans (ha1 5 _ rfl)
       have f5 := hb1.free 5
       have SF := Keep.mk (hb1.self (i := 5) (v := .slice none 0 0) (ha1 5 _ rfl))
       clear hb1 ha1 hg1 b1)
    | fail)
  go_loopw [14] (fun i wr => (i = .int .i64 0 ∧ wr = w1) ∨ (i = .int .i64 1 ∧ wr = w1)) (fun i _ => 1 - (intOf i).toNat)
  case atStart => exact .inl ⟨rfl, rfl⟩
  case round =>
    rcases hrel with ⟨rfl, rfl⟩ | ⟨rfl, rfl⟩
    · go_wp2_with (first
        | (go_at_call 44
           go_loud (refine (bclone_nil _).mono ?_; rintro e X ⟨rfl, hX⟩)
           rw [hX]
           clear hX)
        | fail)
      go_roundw
      case rel => exact .inr ⟨rfl, SF.out⟩
      case measure => simp [intOf]
    · go_wp2_with fail
      go_ret
      exact ⟨g1, cc1, rfl, B1.out.1, ⟨arr1, KB1.out, KA1.out⟩, B1.out.2⟩
end
end Go.Proofs.YtjpokeakemlffaaGreatDoor
