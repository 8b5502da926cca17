/-
  Walks and laws, one behind the other (part 44).
-/
import Derived.Test.YtfjdhdeiaakbaaaGreatDoorS30
import Derived.Test.YtfjdhdeiaakbaaaGreatDoorS38
import Derived.Test.YtfjdhdeiaakbaaaGreatDoorS39
import Derived.Test.YtfjdhdeiaakbaaaGreatDoorS43
set_option linter.unusedSimpArgs false
set_option linter.unusedVariables false
/-
  The example of the laws of logs: one that dials has its stream; tokens that fall are not sound.
-/
namespace Go.Proofs.YtfjdhdeiaakbaaaGreatDoor
open Go.RowKit Go.Maps

abbrev fallA : Array Value := #[.int .u32 2, .int .i64 1, .bool true, .int .i64 0, .int .u32 1, .int .i64 2, .bool true, .int .i64 0]
theorem fall_no : (sndN [⟨2, 1, true, 0⟩, ⟨1, 2, true, 0⟩] 2 && decide (((2 : Nat) : Int) ≤ 4)) = false := by decide
theorem sound_fall (w : World) : Calls Tryz.prog 7 #[.slice (some ⟨w.heap.size, 0, none⟩) 2 2, .int .i64 4] (w.alloc (.cells fallA 26)) fun e w' => e = .returned (.bool false) ∧ Below w.heap.size w w' := by
  have NB := Bk.new w fallA 26
  have ha : Arg (w.alloc (.cells fallA 26)) 4 tkC (some ⟨w.heap.size, 0, none⟩) 2 2 [⟨2, 1, true, 0⟩, ⟨1, 2, true, 0⟩] := Arg.ofRow tkC_length NB.eq 2 rfl (by decide)
  refine (sound_any _ 4 ha (by omega)).mono ?_
  rintro e w' ⟨rfl, hb⟩
  exact ⟨by rw [fall_no], ((Below.refl _ w).alloc (Nat.le_refl _) (.cells fallA 26)).trans (hb.mono (by simp))⟩
set_option maxRecDepth 100000 in
set_option maxHeartbeats 3200000 in
theorem awakes_any (w : World) (hG : Gw w) : Calls Tryz.prog 6 #[] w fun e w' => e = .returned (.bool true) ∧ Below w.heap.size w w' := by
  have NW := Keep.mk (wnew_any 1 2 w)
  have KG := Keep.mk hG
  clear hG
  go_enter Tryz.func6, Tryz.ntmps6
  go_wp2_with (first
    | (go_at_call 12
       go_loud (refine NW.out.mono ?_; rintro e w1 ⟨wb, h0, t0, m0, h1, t1, m1, nb, dm, lo1, rfl, n1⟩)
       have DO := Keep.mk (wdo_one (n1.past ((Below.refl _ w1).alloc (Nat.le_refl _) (.cells (entC 5 0 0 1 0) 48))) KG.out (Bk.new w1 (entC 5 0 0 1 0) 48))
       clear n1 NW)
    | (go_at_call 13
       go_loud (refine DO.out.mono ?_; rintro e w4 ⟨rfl, o4⟩)
       obtain ⟨lv4, hw4, hl4⟩ := o4.wld
       have LG := Keep.mk (wlog_one hw4 hl4)
       have B4 := Keep.mk o4.below
       clear o4 hw4 hl4 DO)
    | (go_at_call 15
       go_loud (refine LG.out.mono ?_; rintro e w5 ⟨g5, c5, rfl, hg5, ⟨arr5, hb5, ha5⟩, b5⟩)
       have ST := Keep.mk (streams_one (c := c5) hb5 ha5)
       have B5 := Keep.mk (B4.out.trans (b5.mono B4.out.size))
       clear hg5 hb5 ha5 b5 LG)
    | (go_at_call 14
       go_loud (refine ST.out.mono ?_; rintro e w6 ⟨g6, c6, rfl, d0, d1, b6⟩)
       have SF := Keep.mk (sound_fall w6)
       have B6 := Keep.mk (B5.out.trans (b6.mono B5.out.size))
       clear b6 ST)
    | (go_at_call 7
       go_loud (refine SF.out.mono ?_; rintro e w7 ⟨rfl, b7⟩)
       have B7 := Keep.mk (B6.out.trans (b7.mono B6.out.size))
       clear b7 SF)
    | fail)
  go_ret
  exact ⟨by first | rfl | simp, B7.out⟩
end Go.Proofs.YtfjdhdeiaakbaaaGreatDoor
/-
  AuditSound holds: any entries are sound just where the document says.
-/
namespace Go.Proofs.YtfjdhdeiaakbaaaGreatDoor
open Go.RowKit

set_option maxRecDepth 100000 in
set_option maxHeartbeats 25600000 in
theorem auditSound_walk (A : Option Addr) (n c : Nat) (l : List TkE) (cap : Int) (w : World) (hG : Gw w) (ha : Arg w 4 tkC A n c l) (_hall : ∀ z ∈ l, wfTk z) (_c0 : -9223372036854775808 ≤ cap) (_c1 : cap ≤ 9223372036854775807) :
    Calls Tryz.prog 3 #[.slice A n c, .int .i64 cap] w fun e w' => e = .returned (.bool true) ∧ Below w.heap.size w w' := by
  clear _hall _c0 _c1
  have WK := Keep.mk (awakes_any w hG)
  have HA := Keep.mk ha
  have HL := Keep.mk ha.hlen
  clear ha hG
  by_cases h3 : 50 < n
  · have h3' : (50 : Int) < (n : Int) := by omega
    clear h3
    go_enter Tryz.func3, Tryz.ntmps3
    go_wp2_with (first
      | (go_at_call 6
         go_loud (refine WK.out.mono ?_; rintro e w1 ⟨rfl, hb1⟩)
         have B1 := Keep.mk hb1
         clear hb1)
      | fail)
    go_ret
    exact ⟨rfl, B1.out⟩
  have h3' : ¬ (50 : Int) < (n : Int) := by omega
  have HN : Keep (n ≤ 50) := ⟨by omega⟩
  clear h3
  obtain ⟨b0, hb0⟩ : ∃ b, decide ((n : Int) ≤ cap) = b := ⟨_, rfl⟩
  have HB0 := Keep.mk hb0
  go_enter Tryz.func3, Tryz.ntmps3
  go_wp2_with (first
    | (go_at_call 6
       go_loud (refine WK.out.mono ?_; rintro e w1 ⟨rfl, hb1⟩)
       have B1 := Keep.mk hb1
       clear hb1)
    | fail)
  clear h3' hb0
  go_loopw [5, 19] (fun WANT I wr => ∃ (j : Nat) (b : Bool), j ≤ n ∧ I = .int .i64 j ∧ WANT = .bool b ∧ Keep (Below w.heap.size w wr) ∧ Keep (b = (decide ((n : Int) ≤ cap) && sndN l j))) (fun _ i _ => n - (intOf i).toNat)
  case atStart => exact ⟨0, b0, by omega, rfl, rfl, B1, ⟨by rw [HB0.out]; simp [sndN]⟩⟩
  case round =>
    obtain ⟨j, b, hj, rfl, rfl, HB, HB2⟩ := hrel
    rcases Nat.lt_or_ge j n with hlt | hge
    · obtain ⟨⟨xt, xo, xl, xu⟩, hx⟩ : ∃ x, l[j]? = some x := ⟨_, List.getElem?_eq_getElem (by rw [HL.out]; exact hlt)⟩
      obtain ⟨g, off, rfl, hg, hcs⟩ := HA.out.rd.tok (by intro e; rw [e] at hx; simp at hx)
      have hlti : ((j : Nat) : Int) < (n : Int) := by omega
      have hn50 : n ≤ 50 := HN.out
      rcases j with _ | i
      · obtain ⟨r0, r1, r2, r3⟩ := hcs 0 _ hx
        rw [Nat.zero_mul, Nat.add_zero] at r0 r1 r2 r3
        have q0 : wr.cell? ⟨g, off, none⟩ = some (.int .u32 xt) := (HB.out.cell (p := ⟨g, off, none⟩) hg).trans r0
        have q1 : wr.cell? ⟨g, off + 1, none⟩ = some (.int .i64 xo) := (HB.out.cell (p := ⟨g, off + 1, none⟩) hg).trans r1
        have q2 : wr.cell? ⟨g, off + 2, none⟩ = some (.bool xl) := (HB.out.cell (p := ⟨g, off + 2, none⟩) hg).trans r2
        have q3 : wr.cell? ⟨g, off + 3, none⟩ = some (.int .i64 xu) := (HB.out.cell (p := ⟨g, off + 3, none⟩) hg).trans r3
        obtain ⟨W, hW⟩ : ∃ W, wr.alloc (.cells #[.int .u32 xt, .int .i64 xo, .bool xl, .int .i64 xu] 26) = W := ⟨_, rfl⟩
        have NB : Bk W wr.heap.size #[.int .u32 xt, .int .i64 xo, .bool xl, .int .i64 xu] 26 := hW ▸ Bk.new wr _ _
        have s0 : W.cell? ⟨wr.heap.size, 0, none⟩ = some (.int .u32 xt) := NB.c 0
        have s1 : W.cell? ⟨wr.heap.size, 1, none⟩ = some (.int .i64 xo) := NB.c 1
        have s2 : W.cell? ⟨wr.heap.size, 2, none⟩ = some (.bool xl) := NB.c 2
        have s3 : W.cell? ⟨wr.heap.size, 3, none⟩ = some (.int .i64 xu) := NB.c 3
        have BW : Keep (∀ q, Below w.heap.size w (W.drewN q)) := ⟨fun q => below_drewN (hW ▸ HB.out.alloc HB.out.size _) q⟩
        have hpos : ((((0 : Nat) : Int)) == 0) = true := by decide
        clear hcs r0 r1 r2 r3 NB s0
        cases b
        · have NO : Keep (false = (decide ((n : Int) ≤ cap) && sndN l (0 + 1))) := ⟨by rw [sndN, ← Bool.and_assoc, ← HB2.out]; rfl⟩
          clear hx
          cases xl
          · have HJ : Keep (false = (decide ((n : Int) ≤ cap) && sndN l (0 + 1))) := ⟨NO.out⟩
            go_wp2_with fail
            go_quiet (fail)
            have t1 : (W.drewN nq).cell? ⟨wr.heap.size, 1, none⟩ = _ := s1
            have t2 : (W.drewN nq).cell? ⟨wr.heap.size, 2, none⟩ = _ := s2
            have t3 : (W.drewN nq).cell? ⟨wr.heap.size, 3, none⟩ = _ := s3
            go_wp2_with fail
            go_roundw
            case rel => exact ⟨(0 + 1), false, by omega, by go_num, by first | rfl | simp, ⟨BW.out _⟩, HJ⟩
            case measure => simp [intOf] <;> omega
          · have HJ : Keep (false = (decide ((n : Int) ≤ cap) && sndN l (0 + 1))) := ⟨NO.out⟩
            go_wp2_with fail
            go_quiet (fail)
            have t1 : (W.drewN nq).cell? ⟨wr.heap.size, 1, none⟩ = _ := s1
            have t2 : (W.drewN nq).cell? ⟨wr.heap.size, 2, none⟩ = _ := s2
            have t3 : (W.drewN nq).cell? ⟨wr.heap.size, 3, none⟩ = _ := s3
            go_wp2_with fail
            go_roundw
            case rel => exact ⟨(0 + 1), false, by omega, by go_num, by first | rfl | simp, ⟨BW.out _⟩, HJ⟩
            case measure => simp [intOf] <;> omega
        · rcases six xo xu xl with ⟨rfl, h1⟩ | ⟨rfl, h1, h2⟩ | ⟨rfl, h1, h2⟩ | ⟨rfl, h1⟩ | ⟨rfl, rfl, h2⟩ | ⟨rfl, rfl, h2⟩
          · have hok : (decide (0 < xo) && decide (xu = 0)) = false := by simp <;> omega
            have HO : okJ l 0 = false := by rw [okJ_zero hx]; simp only [okB, Bool.true_or, Bool.true_and, if_true, Bool.false_eq_true, if_false]; exact hok
            have HJ : Keep (false = (decide ((n : Int) ≤ cap) && sndN l (0 + 1))) := ⟨by rw [sndN, ← Bool.and_assoc, ← HB2.out, HO]; rfl⟩
            have d1 : decide (xo ≤ 0) = true := by simp [h1]
            have d2 : decide (0 < xo) = false := by simp <;> omega
            clear hok HO h1 hx
            go_wp2_with fail
            go_quiet (fail)
            have t1 : (W.drewN nq).cell? ⟨wr.heap.size, 1, none⟩ = _ := s1
            have t2 : (W.drewN nq).cell? ⟨wr.heap.size, 2, none⟩ = _ := s2
            have t3 : (W.drewN nq).cell? ⟨wr.heap.size, 3, none⟩ = _ := s3
            go_wp2_with fail
            go_roundw
            case rel => exact ⟨(0 + 1), false, by omega, by go_num, by first | rfl | simp, ⟨BW.out _⟩, HJ⟩
            case measure => simp [intOf] <;> omega
          · have hok : (decide (0 < xo) && decide (xu = 0)) = false := by simp [h2]
            have HO : okJ l 0 = false := by rw [okJ_zero hx]; simp only [okB, Bool.true_or, Bool.true_and, if_true, Bool.false_eq_true, if_false]; exact hok
            have HJ : Keep (false = (decide ((n : Int) ≤ cap) && sndN l (0 + 1))) := ⟨by rw [sndN, ← Bool.and_assoc, ← HB2.out, HO]; rfl⟩
            have d1 : decide (xo ≤ 0) = false := by simp <;> omega
            have d2 : decide (0 < xo) = true := by simp [h1]
            have d3 : (xu == 0) = false := by simp [h2]
            have d4 : (xu != 0) = true := by simp [h2]
            clear hok HO h1 h2 hx
            go_wp2_with fail
            go_quiet (fail)
            have t1 : (W.drewN nq).cell? ⟨wr.heap.size, 1, none⟩ = _ := s1
            have t2 : (W.drewN nq).cell? ⟨wr.heap.size, 2, none⟩ = _ := s2
            have t3 : (W.drewN nq).cell? ⟨wr.heap.size, 3, none⟩ = _ := s3
            go_wp2_with fail
            go_roundw
            case rel => exact ⟨(0 + 1), false, by omega, by go_num, by first | rfl | simp, ⟨BW.out _⟩, HJ⟩
            case measure => simp [intOf] <;> omega
          · have hok : (decide (0 < xo) && decide (xu = 0)) = true := by simp [h1, h2]
            have HO : okJ l 0 = true := by rw [okJ_zero hx]; simp only [okB, Bool.true_or, Bool.true_and, if_true, Bool.false_eq_true, if_false]; exact hok
            have HJ : Keep (true = (decide ((n : Int) ≤ cap) && sndN l (0 + 1))) := ⟨by rw [sndN, ← Bool.and_assoc, ← HB2.out, HO]; rfl⟩
            have d1 : decide (xo ≤ 0) = false := by simp <;> omega
            have d2 : decide (0 < xo) = true := by simp [h1]
            have d3 : (xu == 0) = true := by simp [h2]
            have d4 : (xu != 0) = false := by simp [h2]
            clear hok HO h1 h2 hx
            go_wp2_with fail
            go_quiet (fail)
            have t1 : (W.drewN nq).cell? ⟨wr.heap.size, 1, none⟩ = _ := s1
            have t2 : (W.drewN nq).cell? ⟨wr.heap.size, 2, none⟩ = _ := s2
            have t3 : (W.drewN nq).cell? ⟨wr.heap.size, 3, none⟩ = _ := s3
            go_wp2_with fail
            go_roundw
            case rel => exact ⟨(0 + 1), true, by omega, by go_num, by first | rfl | simp, ⟨BW.out _⟩, HJ⟩
            case measure => simp [intOf] <;> omega
          · have hok : (decide (xo = 0) && decide (0 < xu)) = false := by simp [h1]
            have HO : okJ l 0 = false := by rw [okJ_zero hx]; simp only [okB, Bool.true_or, Bool.true_and, if_true, Bool.false_eq_true, if_false]; exact hok
            have HJ : Keep (false = (decide ((n : Int) ≤ cap) && sndN l (0 + 1))) := ⟨by rw [sndN, ← Bool.and_assoc, ← HB2.out, HO]; rfl⟩
            have d1 : (xo == 0) = false := by simp [h1]
            have d2 : (xo != 0) = true := by simp [h1]
            clear hok HO h1 hx
            go_wp2_with fail
            go_quiet (fail)
            have t1 : (W.drewN nq).cell? ⟨wr.heap.size, 1, none⟩ = _ := s1
            have t2 : (W.drewN nq).cell? ⟨wr.heap.size, 2, none⟩ = _ := s2
            have t3 : (W.drewN nq).cell? ⟨wr.heap.size, 3, none⟩ = _ := s3
            go_wp2_with fail
            go_roundw
            case rel => exact ⟨(0 + 1), false, by omega, by go_num, by first | rfl | simp, ⟨BW.out _⟩, HJ⟩
            case measure => simp [intOf] <;> omega
          · have hok : (decide ((0 : Int) = 0) && decide (0 < xu)) = false := by simp <;> omega
            have HO : okJ l 0 = false := by rw [okJ_zero hx]; simp only [okB, Bool.true_or, Bool.true_and, if_true, Bool.false_eq_true, if_false]; exact hok
            have HJ : Keep (false = (decide ((n : Int) ≤ cap) && sndN l (0 + 1))) := ⟨by rw [sndN, ← Bool.and_assoc, ← HB2.out, HO]; rfl⟩
            have d1 : decide (xu ≤ 0) = true := by simp [h2]
            have d2 : decide (0 < xu) = false := by simp <;> omega
            clear hok HO h2 hx
            go_wp2_with fail
            go_quiet (fail)
            have t1 : (W.drewN nq).cell? ⟨wr.heap.size, 1, none⟩ = _ := s1
            have t2 : (W.drewN nq).cell? ⟨wr.heap.size, 2, none⟩ = _ := s2
            have t3 : (W.drewN nq).cell? ⟨wr.heap.size, 3, none⟩ = _ := s3
            go_wp2_with fail
            go_roundw
            case rel => exact ⟨(0 + 1), false, by omega, by go_num, by first | rfl | simp, ⟨BW.out _⟩, HJ⟩
            case measure => simp [intOf] <;> omega
          · have hok : (decide ((0 : Int) = 0) && decide (0 < xu)) = true := by simp [h2]
            have HO : okJ l 0 = true := by rw [okJ_zero hx]; simp only [okB, Bool.true_or, Bool.true_and, if_true, Bool.false_eq_true, if_false]; exact hok
            have HJ : Keep (true = (decide ((n : Int) ≤ cap) && sndN l (0 + 1))) := ⟨by rw [sndN, ← Bool.and_assoc, ← HB2.out, HO]; rfl⟩
            have d1 : decide (xu ≤ 0) = false := by simp <;> omega
            have d2 : decide (0 < xu) = true := by simp [h2]
            clear hok HO h2 hx
            go_wp2_with fail
            go_quiet (fail)
            have t1 : (W.drewN nq).cell? ⟨wr.heap.size, 1, none⟩ = _ := s1
            have t2 : (W.drewN nq).cell? ⟨wr.heap.size, 2, none⟩ = _ := s2
            have t3 : (W.drewN nq).cell? ⟨wr.heap.size, 3, none⟩ = _ := s3
            go_wp2_with fail
            go_roundw
            case rel => exact ⟨(0 + 1), true, by omega, by go_num, by first | rfl | simp, ⟨BW.out _⟩, HJ⟩
            case measure => simp [intOf] <;> omega
      · obtain ⟨r0, r1, r2, r3⟩ := hcs (i + 1) _ hx
        have q0 : wr.cell? ⟨g, off + (i + 1) * 4, none⟩ = some (.int .u32 xt) := (HB.out.cell (p := ⟨g, off + (i + 1) * 4, none⟩) hg).trans r0
        have q1 : wr.cell? ⟨g, off + (i + 1) * 4 + 1, none⟩ = some (.int .i64 xo) := (HB.out.cell (p := ⟨g, off + (i + 1) * 4 + 1, none⟩) hg).trans r1
        have q2 : wr.cell? ⟨g, off + (i + 1) * 4 + 2, none⟩ = some (.bool xl) := (HB.out.cell (p := ⟨g, off + (i + 1) * 4 + 2, none⟩) hg).trans r2
        have q3 : wr.cell? ⟨g, off + (i + 1) * 4 + 3, none⟩ = some (.int .i64 xu) := (HB.out.cell (p := ⟨g, off + (i + 1) * 4 + 3, none⟩) hg).trans r3
        obtain ⟨W, hW⟩ : ∃ W, wr.alloc (.cells #[.int .u32 xt, .int .i64 xo, .bool xl, .int .i64 xu] 26) = W := ⟨_, rfl⟩
        have NB : Bk W wr.heap.size #[.int .u32 xt, .int .i64 xo, .bool xl, .int .i64 xu] 26 := hW ▸ Bk.new wr _ _
        have s0 : W.cell? ⟨wr.heap.size, 0, none⟩ = some (.int .u32 xt) := NB.c 0
        have s1 : W.cell? ⟨wr.heap.size, 1, none⟩ = some (.int .i64 xo) := NB.c 1
        have s2 : W.cell? ⟨wr.heap.size, 2, none⟩ = some (.bool xl) := NB.c 2
        have s3 : W.cell? ⟨wr.heap.size, 3, none⟩ = some (.int .i64 xu) := NB.c 3
        have BW : Keep (∀ q, Below w.heap.size w (W.drewN q)) := ⟨fun q => below_drewN (hW ▸ HB.out.alloc HB.out.size _) q⟩
        obtain ⟨p, hp⟩ : ∃ p, l[i]? = some p := ⟨_, List.getElem?_eq_getElem (by rw [HL.out]; omega)⟩
        have p0 : W.cell? ⟨g, off + i * 4, none⟩ = some (.int .u32 p.t) := by
          have hlt' : g < wr.heap.size := Nat.lt_of_lt_of_le hg HB.out.size
          rw [← hW, World.cell?_alloc_lt wr _ ⟨g, off + i * 4, none⟩ hlt']
          exact (HB.out.cell (p := ⟨g, off + i * 4, none⟩) hg).trans (hcs i p hp).1
        have e1 : IntKind.i64.wrap (((i + 1 : Nat) : Int) - 1) = (i : Int) := by rw [IntWalk.i64_in _ (by omega)]; omega
        have hpos : (((i : Int) + 1) == 0) = false := by rw [beq_eq_false_iff_ne]; omega
        have hpos2 : decide ((i : Int) + 1 = 0) = false := by simp <;> omega
        have hltp : ((i : Nat) : Int) < (n : Int) := by omega
        obtain ⟨pt, hpt⟩ : ∃ pt, p.t = pt := ⟨_, rfl⟩
        rw [hpt] at p0
        clear hcs r0 r1 r2 r3 NB
        cases b
        · have NO : Keep (false = (decide ((n : Int) ≤ cap) && sndN l (i + 1 + 1))) := ⟨by rw [sndN, ← Bool.and_assoc, ← HB2.out]; rfl⟩
          clear hx hp hpt
          cases xl
          · have HJ : Keep (false = (decide ((n : Int) ≤ cap) && sndN l (i + 1 + 1))) := ⟨NO.out⟩
            go_wp2_with fail
            go_quiet (fail)
            have t1 : (W.drewN nq).cell? ⟨wr.heap.size, 1, none⟩ = _ := s1
            have t2 : (W.drewN nq).cell? ⟨wr.heap.size, 2, none⟩ = _ := s2
            have t3 : (W.drewN nq).cell? ⟨wr.heap.size, 3, none⟩ = _ := s3
            go_wp2_with fail
            go_roundw
            case rel => exact ⟨(i + 1 + 1), false, by omega, by go_num, by first | rfl | simp, ⟨BW.out _⟩, HJ⟩
            case measure => simp [intOf] <;> omega
          · have HJ : Keep (false = (decide ((n : Int) ≤ cap) && sndN l (i + 1 + 1))) := ⟨NO.out⟩
            go_wp2_with fail
            go_quiet (fail)
            have t1 : (W.drewN nq).cell? ⟨wr.heap.size, 1, none⟩ = _ := s1
            have t2 : (W.drewN nq).cell? ⟨wr.heap.size, 2, none⟩ = _ := s2
            have t3 : (W.drewN nq).cell? ⟨wr.heap.size, 3, none⟩ = _ := s3
            go_wp2_with fail
            go_roundw
            case rel => exact ⟨(i + 1 + 1), false, by omega, by go_num, by first | rfl | simp, ⟨BW.out _⟩, HJ⟩
            case measure => simp [intOf] <;> omega
        · rcases Int.lt_or_le pt xt with hd | hd
          · have hlt_t : decide (p.t < xt) = true := by rw [hpt]; simp [hd]
            clear hpt
            rcases six xo xu xl with ⟨rfl, h1⟩ | ⟨rfl, h1, h2⟩ | ⟨rfl, h1, h2⟩ | ⟨rfl, h1⟩ | ⟨rfl, rfl, h2⟩ | ⟨rfl, rfl, h2⟩
            · have hok : (decide (0 < xo) && decide (xu = 0)) = false := by simp <;> omega
              have HO : okJ l (i + 1) = false := by rw [okJ_succ hp hx]; simp only [okB, Bool.true_or, Bool.true_and, Bool.false_or, hlt_t, if_true, Bool.false_eq_true, if_false]; exact hok
              have HJ : Keep (false = (decide ((n : Int) ≤ cap) && sndN l (i + 1 + 1))) := ⟨by rw [sndN, ← Bool.and_assoc, ← HB2.out, HO]; rfl⟩
              have d1 : decide (xo ≤ 0) = true := by simp [h1]
              have d2 : decide (0 < xo) = false := by simp <;> omega
              clear hok HO h1 hx hp
              go_wp2_with fail
              go_quiet (fail)
              have t1 : (W.drewN nq).cell? ⟨wr.heap.size, 1, none⟩ = _ := s1
              have t2 : (W.drewN nq).cell? ⟨wr.heap.size, 2, none⟩ = _ := s2
              have t3 : (W.drewN nq).cell? ⟨wr.heap.size, 3, none⟩ = _ := s3
              go_wp2_with fail
              go_roundw
              case rel => exact ⟨(i + 1 + 1), false, by omega, by go_num, by first | rfl | simp, ⟨BW.out _⟩, HJ⟩
              case measure => simp [intOf] <;> omega
            · have hok : (decide (0 < xo) && decide (xu = 0)) = false := by simp [h2]
              have HO : okJ l (i + 1) = false := by rw [okJ_succ hp hx]; simp only [okB, Bool.true_or, Bool.true_and, Bool.false_or, hlt_t, if_true, Bool.false_eq_true, if_false]; exact hok
              have HJ : Keep (false = (decide ((n : Int) ≤ cap) && sndN l (i + 1 + 1))) := ⟨by rw [sndN, ← Bool.and_assoc, ← HB2.out, HO]; rfl⟩
              have d1 : decide (xo ≤ 0) = false := by simp <;> omega
              have d2 : decide (0 < xo) = true := by simp [h1]
              have d3 : (xu == 0) = false := by simp [h2]
              have d4 : (xu != 0) = true := by simp [h2]
              clear hok HO h1 h2 hx hp
              go_wp2_with fail
              go_quiet (fail)
              have t1 : (W.drewN nq).cell? ⟨wr.heap.size, 1, none⟩ = _ := s1
              have t2 : (W.drewN nq).cell? ⟨wr.heap.size, 2, none⟩ = _ := s2
              have t3 : (W.drewN nq).cell? ⟨wr.heap.size, 3, none⟩ = _ := s3
              go_wp2_with fail
              go_roundw
              case rel => exact ⟨(i + 1 + 1), false, by omega, by go_num, by first | rfl | simp, ⟨BW.out _⟩, HJ⟩
              case measure => simp [intOf] <;> omega
            · have hok : (decide (0 < xo) && decide (xu = 0)) = true := by simp [h1, h2]
              have HO : okJ l (i + 1) = true := by rw [okJ_succ hp hx]; simp only [okB, Bool.true_or, Bool.true_and, Bool.false_or, hlt_t, if_true, Bool.false_eq_true, if_false]; exact hok
              have HJ : Keep (true = (decide ((n : Int) ≤ cap) && sndN l (i + 1 + 1))) := ⟨by rw [sndN, ← Bool.and_assoc, ← HB2.out, HO]; rfl⟩
              have d1 : decide (xo ≤ 0) = false := by simp <;> omega
              have d2 : decide (0 < xo) = true := by simp [h1]
              have d3 : (xu == 0) = true := by simp [h2]
              have d4 : (xu != 0) = false := by simp [h2]
              clear hok HO h1 h2 hx hp
              go_wp2_with fail
              go_quiet (fail)
              have t1 : (W.drewN nq).cell? ⟨wr.heap.size, 1, none⟩ = _ := s1
              have t2 : (W.drewN nq).cell? ⟨wr.heap.size, 2, none⟩ = _ := s2
              have t3 : (W.drewN nq).cell? ⟨wr.heap.size, 3, none⟩ = _ := s3
              go_wp2_with fail
              go_roundw
              case rel => exact ⟨(i + 1 + 1), true, by omega, by go_num, by first | rfl | simp, ⟨BW.out _⟩, HJ⟩
              case measure => simp [intOf] <;> omega
            · have hok : (decide (xo = 0) && decide (0 < xu)) = false := by simp [h1]
              have HO : okJ l (i + 1) = false := by rw [okJ_succ hp hx]; simp only [okB, Bool.true_or, Bool.true_and, Bool.false_or, hlt_t, if_true, Bool.false_eq_true, if_false]; exact hok
              have HJ : Keep (false = (decide ((n : Int) ≤ cap) && sndN l (i + 1 + 1))) := ⟨by rw [sndN, ← Bool.and_assoc, ← HB2.out, HO]; rfl⟩
              have d1 : (xo == 0) = false := by simp [h1]
              have d2 : (xo != 0) = true := by simp [h1]
              clear hok HO h1 hx hp
              go_wp2_with fail
              go_quiet (fail)
              have t1 : (W.drewN nq).cell? ⟨wr.heap.size, 1, none⟩ = _ := s1
              have t2 : (W.drewN nq).cell? ⟨wr.heap.size, 2, none⟩ = _ := s2
              have t3 : (W.drewN nq).cell? ⟨wr.heap.size, 3, none⟩ = _ := s3
              go_wp2_with fail
              go_roundw
              case rel => exact ⟨(i + 1 + 1), false, by omega, by go_num, by first | rfl | simp, ⟨BW.out _⟩, HJ⟩
              case measure => simp [intOf] <;> omega
            · have hok : (decide ((0 : Int) = 0) && decide (0 < xu)) = false := by simp <;> omega
              have HO : okJ l (i + 1) = false := by rw [okJ_succ hp hx]; simp only [okB, Bool.true_or, Bool.true_and, Bool.false_or, hlt_t, if_true, Bool.false_eq_true, if_false]; exact hok
              have HJ : Keep (false = (decide ((n : Int) ≤ cap) && sndN l (i + 1 + 1))) := ⟨by rw [sndN, ← Bool.and_assoc, ← HB2.out, HO]; rfl⟩
              have d1 : decide (xu ≤ 0) = true := by simp [h2]
              have d2 : decide (0 < xu) = false := by simp <;> omega
              clear hok HO h2 hx hp
              go_wp2_with fail
              go_quiet (fail)
              have t1 : (W.drewN nq).cell? ⟨wr.heap.size, 1, none⟩ = _ := s1
              have t2 : (W.drewN nq).cell? ⟨wr.heap.size, 2, none⟩ = _ := s2
              have t3 : (W.drewN nq).cell? ⟨wr.heap.size, 3, none⟩ = _ := s3
              go_wp2_with fail
              go_roundw
              case rel => exact ⟨(i + 1 + 1), false, by omega, by go_num, by first | rfl | simp, ⟨BW.out _⟩, HJ⟩
              case measure => simp [intOf] <;> omega
            · have hok : (decide ((0 : Int) = 0) && decide (0 < xu)) = true := by simp [h2]
              have HO : okJ l (i + 1) = true := by rw [okJ_succ hp hx]; simp only [okB, Bool.true_or, Bool.true_and, Bool.false_or, hlt_t, if_true, Bool.false_eq_true, if_false]; exact hok
              have HJ : Keep (true = (decide ((n : Int) ≤ cap) && sndN l (i + 1 + 1))) := ⟨by rw [sndN, ← Bool.and_assoc, ← HB2.out, HO]; rfl⟩
              have d1 : decide (xu ≤ 0) = false := by simp <;> omega
              have d2 : decide (0 < xu) = true := by simp [h2]
              clear hok HO h2 hx hp
              go_wp2_with fail
              go_quiet (fail)
              have t1 : (W.drewN nq).cell? ⟨wr.heap.size, 1, none⟩ = _ := s1
              have t2 : (W.drewN nq).cell? ⟨wr.heap.size, 2, none⟩ = _ := s2
              have t3 : (W.drewN nq).cell? ⟨wr.heap.size, 3, none⟩ = _ := s3
              go_wp2_with fail
              go_roundw
              case rel => exact ⟨(i + 1 + 1), true, by omega, by go_num, by first | rfl | simp, ⟨BW.out _⟩, HJ⟩
              case measure => simp [intOf] <;> omega
          · have NO : Keep (false = (decide ((n : Int) ≤ cap) && sndN l (i + 1 + 1))) := ⟨by
              have h0 : decide (p.t < xt) = false := by rw [hpt]; simp <;> omega
              have HO : okJ l (i + 1) = false := by
                rw [okJ_succ hp hx]
                simp only [okB, h0, Bool.or_false, Bool.false_and]
              rw [sndN, HO, Bool.and_false, Bool.and_false]⟩
            have hd2 : decide (pt < xt) = false := by simp <;> omega
            clear hpt hx hp
            cases xl
            · have HJ : Keep (false = (decide ((n : Int) ≤ cap) && sndN l (i + 1 + 1))) := ⟨NO.out⟩
              go_wp2_with fail
              go_quiet (fail)
              have t1 : (W.drewN nq).cell? ⟨wr.heap.size, 1, none⟩ = _ := s1
              have t2 : (W.drewN nq).cell? ⟨wr.heap.size, 2, none⟩ = _ := s2
              have t3 : (W.drewN nq).cell? ⟨wr.heap.size, 3, none⟩ = _ := s3
              go_wp2_with fail
              go_roundw
              case rel => exact ⟨(i + 1 + 1), false, by omega, by go_num, by first | rfl | simp, ⟨BW.out _⟩, HJ⟩
              case measure => simp [intOf] <;> omega
            · have HJ : Keep (false = (decide ((n : Int) ≤ cap) && sndN l (i + 1 + 1))) := ⟨NO.out⟩
              go_wp2_with fail
              go_quiet (fail)
              have t1 : (W.drewN nq).cell? ⟨wr.heap.size, 1, none⟩ = _ := s1
              have t2 : (W.drewN nq).cell? ⟨wr.heap.size, 2, none⟩ = _ := s2
              have t3 : (W.drewN nq).cell? ⟨wr.heap.size, 3, none⟩ = _ := s3
              go_wp2_with fail
              go_roundw
              case rel => exact ⟨(i + 1 + 1), false, by omega, by go_num, by first | rfl | simp, ⟨BW.out _⟩, HJ⟩
              case measure => simp [intOf] <;> omega
    · obtain rfl : j = n := by omega
      have SD := Keep.mk (sound_any l cap (HA.out.below HB.out) (by have := HN.out; omega))
      rw [Bool.and_comm, ← HB2.out] at SD
      go_wp2_with (first
        | (go_at_call 7
           go_loud (refine SD.out.mono ?_; rintro e w7 ⟨rfl, b7⟩)
           have B7 := Keep.mk (HB.out.trans (b7.mono HB.out.size))
           clear b7 SD)
        | fail)
      go_ret
      exact ⟨by cases b <;> first | rfl | simp, B7.out⟩
end Go.Proofs.YtfjdhdeiaakbaaaGreatDoor
