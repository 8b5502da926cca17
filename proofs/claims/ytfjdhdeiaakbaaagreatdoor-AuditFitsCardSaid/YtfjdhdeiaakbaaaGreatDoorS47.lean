/-
  Walks and laws, one behind the other (part 47).
-/
import Derived.Test.YtfjdhdeiaakbaaaGreatDoorS30
import Derived.Test.YtfjdhdeiaakbaaaGreatDoorS43
import Derived.Test.YtfjdhdeiaakbaaaGreatDoorS44
import Derived.Test.YtfjdhdeiaakbaaaGreatDoorS46
set_option linter.unusedSimpArgs false
set_option linter.unusedVariables false
/-
  The example of the laws of logs: one that dials has its stream; tokens that fall are not sound.
-/
namespace Go.Proofs.YtfjdhdeiaakbaaaGreatDoor
open Go.RowKit Go.Maps

abbrev fallA : Array Value := #[.int .u32 2, .int .i64 1, .bool true, .int .i64 0, .int .u32 1, .int .i64 2, .bool true, .int .i64 0]
theorem fall_no : (sndN [⟨2, 1, true, 0⟩, ⟨1, 2, true, 0⟩] 2 && decide (((2 : Nat) : Int) ≤ 4)) = false := by decide
theorem sound_fall (w : World) : Calls Tryz.prog 7 #[.slice (some ⟨w.heap.size, 0, none⟩) 2 2, .int .i64 4] (w.alloc (.cells fallA 26)) fun e w' => e = .returned (.bool false) ∧ Below w.heap.size w w' := by
  have NB := Bk.new w fallA 26
  have ha : Arg (w.alloc (.cells fallA 26)) 4 tkC (some ⟨w.heap.size, 0, none⟩) 2 2 [⟨2, 1, true, 0⟩, ⟨1, 2, true, 0⟩] := Arg.ofRow tkC_length NB.eq 2 rfl (by decide)
  refine (sound_any _ 4 ha (by omega)).mono ?_
  rintro e w' ⟨rfl, hb⟩
  exact ⟨by rw [fall_no], ((Below.refl _ w).alloc (Nat.le_refl _) (.cells fallA 26)).trans (hb.mono (by simp))⟩
set_option maxRecDepth 100000 in
set_option maxHeartbeats 3200000 in
theorem awakes_any (w : World) (hG : Gw w) : Calls Tryz.prog 6 #[] w fun e w' => e = .returned (.bool true) ∧ Below w.heap.size w w' := by
  have NW := Keep.mk (wnew_any 1 2 w)
  have KG := Keep.mk hG
  clear hG
  go_enter Tryz.func6, Tryz.ntmps6
  go_wp2_with (first
    | (go_at_call 12
       go_loud (refine NW.out.mono ?_; rintro e w1 ⟨wb, h0, t0, m0, h1, t1, m1, nb, dm, lo1, rfl, n1⟩)
       have DO := Keep.mk (wdo_one (n1.past ((Below.refl _ w1).alloc (Nat.le_refl _) (.cells (entC 5 0 0 1 0) 48))) KG.out (Bk.new w1 (entC 5 0 0 1 0) 48))
       clear n1 NW)
    | (go_at_call 13
       go_loud (refine DO.out.mono ?_; rintro e w4 ⟨rfl, o4⟩)
       obtain ⟨lv4, hw4, hl4⟩ := o4.wld
       have LG := Keep.mk (wlog_one hw4 hl4)
       have B4 := Keep.mk o4.below
       clear o4 hw4 hl4 DO)
    | (go_at_call 15
       go_loud (refine LG.out.mono ?_; rintro e w5 ⟨g5, c5, rfl, hg5, ⟨arr5, hb5, ha5⟩, b5⟩)
       have ST := Keep.mk (streams_one (c := c5) hb5 ha5)
       have B5 := Keep.mk (B4.out.trans (b5.mono B4.out.size))
       clear hg5 hb5 ha5 b5 LG)
    | (go_at_call 14
       go_loud (refine ST.out.mono ?_; rintro e w6 ⟨g6, c6, rfl, d0, d1, b6⟩)
       have SF := Keep.mk (sound_fall w6)
       have B6 := Keep.mk (B5.out.trans (b6.mono B5.out.size))
       clear b6 ST)
    | (go_at_call 7
       go_loud (refine SF.out.mono ?_; rintro e w7 ⟨rfl, b7⟩)
       have B7 := Keep.mk (B6.out.trans (b7.mono B6.out.size))
       clear b7 SF)
    | fail)
  go_ret
  exact ⟨by first | rfl | simp, B7.out⟩
end Go.Proofs.YtfjdhdeiaakbaaaGreatDoor
