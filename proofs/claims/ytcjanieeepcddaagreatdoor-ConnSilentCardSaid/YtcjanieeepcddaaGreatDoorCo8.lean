/-
  A connection whose one leg is dead: what is lost, how it fails.
-/
import Derived.Test.YtcjanieeepcddaaGreatDoorCo7
import Derived.Test.YtcjanieeepcddaaGreatDoorCo5
namespace Go.Proofs.YtcjanieeepcddaaGreatDoor
open Go.RowKit

/-- The connection's block: its state, its error, the last leg's. -/
abbrev conE (p1 p2 k state err ld : Int) (sd rv pb lg wb : Nat) (out : Value) : Array Value := conC p1 p2 k 0 false state err sd rv pb (.pointer (some ⟨lg, 0, none⟩)) 0 0 wb 1 0 0 false ld false out false false
abbrev pathG : Array Value := #[.bool true, .bool false, .bool false, .bool false, .bool false, .bool true, .bool false, .bool false, .bool false, .bool false, .bool false, .bool false, .bool false, .bool false, .bool false, .bool false, .bool false, .bool false, .bool false, .bool false, .bool false, .bool false, .bool false, .bool false, .int .i64 8]
section
variable {w : World} {c sd rv pb lg wb fl q : Nat} {p1 p2 k state err ld : Int} {out fout : Value} {times rcv tries at_ since : Int} {has twice : Bool}
set_option maxRecDepth 100000 in
theorem step_abort (w : World) : Calls Tryz.prog 109 #[.int .i64 0, .int .i64 5] w fun e w' => e = .returned (.tuple #[.int .i64 8, .bool true]) ∧ w' = w := by
  go_enter Tryz.func109, Tryz.ntmps109
  go_wp2_with fail
  try simp only [Exit.inBlock, Exit.then]
  refine bodyPost_ret (results_tmp2 rfl _ _ _) rfl ⟨rfl, rfl⟩
set_option maxRecDepth 100000 in
set_option maxHeartbeats 1600000 in
theorem legs_none (h : Bk w c (conE p1 p2 k state err ld sd rv pb lg wb out) 68) (hl : Bk w lg (legC fl) 61) (hf : Bk w fl (flC q times 11 rcv tries at_ has since twice fout) 105) :
    Calls Tryz.prog 24 #[.pointer (some ⟨c, 0, none⟩)] w fun e w' => e = .returned (.int .i64 0) ∧ w' = w := by
  have l0 : w.cell? ⟨c, 12, none⟩ = some (.pointer (some ⟨lg, 0, none⟩)) := h.c 12
  have l1 : w.cell? ⟨c, 13, none⟩ = some (.pointer none) := h.c 13
  have l2 : w.cell? ⟨c, 14, none⟩ = some (.pointer none) := h.c 14
  have l3 : w.cell? ⟨c, 15, none⟩ = some (.pointer none) := h.c 15
  have l4 : w.cell? ⟨c, 16, none⟩ = some (.pointer none) := h.c 16
  have l5 : w.cell? ⟨c, 17, none⟩ = some (.pointer none) := h.c 17
  have l6 : w.cell? ⟨c, 18, none⟩ = some (.pointer none) := h.c 18
  have l7 : w.cell? ⟨c, 19, none⟩ = some (.pointer none) := h.c 19
  have OV := Keep.mk (over_any lg fl q times 11 rcv tries at_ has since twice fout w hl hf)
  clear h hl hf
  go_enter Tryz.func24, Tryz.ntmps24
  go_wp2_with fail
  clear l0 l1 l2 l3 l4 l5 l6 l7
  go_loopw [3, 12] (fun n i wr => ∃ j : Nat, j ≤ 8 ∧ i = .int .i64 j ∧ n = .int .i64 0 ∧ wr = w) (fun _ i _ => 8 - (intOf i).toNat)
  case atStart => exact ⟨0, by omega, rfl, rfl, rfl⟩
  case round =>
    obtain ⟨j, hj, rfl, rfl, rfl⟩ := hrel
    rcases Nat.lt_or_ge j 8 with hlt | hge
    · have hji : ((j : Nat) : Int) < 8 := by omega
      rcases Nat.eq_zero_or_pos j with rfl | hpos
      · have ix := index_leg (legsA lg) 0 _ rfl (by omega) wr
        rw [show ((0 : Nat) : Int) = 0 from rfl] at ix
        go_wp2_with (first
          | (go_at_call 38
             go_loud (refine OV.out.mono ?_; rintro e X ⟨rfl, hX⟩)
             rw [hX]
             clear hX)
          | fail)
        go_roundw
        case rel => exact ⟨1, by omega, by go_num, by first | rfl | trivial, by first | rfl | trivial⟩
        case measure => simp [intOf]
      · have ix := index_leg (legsA lg) j _ (legsA_nil hpos hlt) hlt wr
        clear hpos
        go_wp2_with (first
          | (go_at_call 38
             go_loud (refine (over_nil _).mono ?_; rintro e X ⟨rfl, hX⟩)
             rw [hX]
             clear hX)
          | fail)
        go_roundw
        case rel => exact ⟨j + 1, by omega, by go_num, by first | rfl | trivial, by first | rfl | trivial⟩
        case measure => simp [intOf] <;> omega
    · obtain rfl : j = 8 := by omega
      go_wp2_with fail
      go_ret
      exact ⟨rfl, rfl⟩
set_option maxRecDepth 100000 in
set_option maxHeartbeats 1600000 in
theorem gone_01 (w : World) (h : Bk w pb pathC 153) : Calls Tryz.prog 149 #[.pointer (some ⟨pb, 0, none⟩), .int .i64 0, .int .i64 1] w fun e w' => e = .returned (.bool true) ∧ Bk w' pb pathG 153 ∧ Fz w w' [pb] := by
  have A := Fz.alloc w (.cells #[.int .i64 0, .int .i64 1] 3)
  have MT := Keep.mk (may_two w.heap.size _ (Bk.new w #[.int .i64 0, .int .i64 1] 3))
  have B1 := h.fz A (by simp)
  have c9 : (w.alloc (.cells #[.int .i64 0, .int .i64 1] 3)).cell? ⟨pb, 9, none⟩ = some (.bool true) := B1.c 9
  have f9 := B1.free 9
  have KB := Keep.mk B1
  have KA := Keep.mk A
  clear h A B1
  go_enter Tryz.func149, Tryz.ntmps149
  go_wp2_with (first
    | (go_at_call 112
       go_loud (refine MT.out.mono ?_; rintro e X ⟨rfl, hX⟩)
       rw [hX]
       clear hX)
    | fail)
  try simp only [Exit.inBlock, Exit.then]
  go_ret
  exact ⟨rfl, KB.out.set 9 _, (KA.out.trans (Fz.set _ pb 9 _)).mono (by simp)⟩
set_option maxRecDepth 100000 in
set_option maxHeartbeats 1600000 in
theorem move_abort (tick : Int) (h : Bk w c (conE p1 p2 k 0 err ld sd rv pb lg wb out) 68) (hl : Bk w lg (legC fl) 61) (hf : Bk w fl (flC q times 11 rcv tries at_ has since twice fout) 105) (n1 : lg ≠ c) (n2 : fl ≠ c) :
    Calls Tryz.prog 49 #[.pointer (some ⟨c, 0, none⟩), .int .i64 5, .int .i64 tick] w fun e w' => e = .returned (.tuple #[]) ∧ Bk w' c (conE p1 p2 k 8 err ld sd rv pb lg wb out) 68 ∧ Fz w w' [c] := by
  have c7 : w.cell? ⟨c, 7, none⟩ = some (.int .i64 0) := h.c 7
  have f7 := h.free 7
  obtain ⟨w1, hw1⟩ : ∃ w1, w.setCell ⟨c, 7, none⟩ (.int .i64 8) = w1 := ⟨_, rfl⟩
  have E1 : Fz w w1 [c] := hw1 ▸ Fz.set w c 7 _
  have B1 : Bk w1 c (conE p1 p2 k 8 err ld sd rv pb lg wb out) 68 := hw1 ▸ h.set 7 _
  have OV := Keep.mk (over_any lg fl q times 11 rcv tries at_ has since twice fout w1 (hl.fz E1 (by simp; exact n1)) (hf.fz E1 (by simp; exact n2)))
  have KE := Keep.mk E1
  have KB := Keep.mk B1
  have l0 : w1.cell? ⟨c, 12, none⟩ = some (.pointer (some ⟨lg, 0, none⟩)) := B1.c 12
  have l1 : w1.cell? ⟨c, 13, none⟩ = some (.pointer none) := B1.c 13
  have l2 : w1.cell? ⟨c, 14, none⟩ = some (.pointer none) := B1.c 14
  have l3 : w1.cell? ⟨c, 15, none⟩ = some (.pointer none) := B1.c 15
  have l4 : w1.cell? ⟨c, 16, none⟩ = some (.pointer none) := B1.c 16
  have l5 : w1.cell? ⟨c, 17, none⟩ = some (.pointer none) := B1.c 17
  have l6 : w1.cell? ⟨c, 18, none⟩ = some (.pointer none) := B1.c 18
  have l7 : w1.cell? ⟨c, 19, none⟩ = some (.pointer none) := B1.c 19
  clear h hl hf E1 B1 n1 n2
  go_enter Tryz.func49, Tryz.ntmps49
  go_wp2_with (first
    | (go_at_call 109
       go_loud (refine (step_abort _).mono ?_; rintro e X ⟨rfl, hX⟩)
       rw [hX]
       clear hX)
    | fail)
  try rw [hw1]
  clear l0 l1 l2 l3 l4 l5 l6 l7 c7 f7 hw1
  go_loopw [65] (fun i wr => ∃ j : Nat, j ≤ 8 ∧ i = .int .i64 j ∧ wr = w1) (fun i _ => 8 - (intOf i).toNat)
  case atStart => exact ⟨0, by omega, rfl, rfl⟩
  case round =>
    obtain ⟨j, hj, rfl, rfl⟩ := hrel
    rcases Nat.lt_or_ge j 8 with hlt | hge
    · have hji : ((j : Nat) : Int) < 8 := by omega
      rcases Nat.eq_zero_or_pos j with rfl | hpos
      · have ix := index_leg (legsA lg) 0 _ rfl (by omega) wr
        rw [show ((0 : Nat) : Int) = 0 from rfl] at ix
        go_wp2_with (first
          | (go_at_call 38
             go_loud (refine OV.out.mono ?_; rintro e X ⟨rfl, hX⟩)
             rw [hX]
             clear hX)
          | fail)
        go_roundw
        case rel => exact ⟨1, by omega, by go_num, by first | rfl | trivial⟩
        case measure => simp [intOf]
      · have ix := index_leg (legsA lg) j _ (legsA_nil hpos hlt) hlt wr
        clear hpos
        go_wp2_with (first
          | (go_at_call 38
             go_loud (refine (over_nil _).mono ?_; rintro e X ⟨rfl, hX⟩)
             rw [hX]
             clear hX)
          | fail)
        go_roundw
        case rel => exact ⟨j + 1, by omega, by go_num, by first | rfl | trivial⟩
        case measure => simp [intOf] <;> omega
    · obtain rfl : j = 8 := by omega
      go_wp2_with fail
      go_end0
      exact ⟨rfl, KB.out, KE.out⟩
end
end Go.Proofs.YtcjanieeepcddaaGreatDoor
