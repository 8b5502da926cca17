/-
  A connection that is not there; connections of addresses that may not be.
-/
import Derived.Test.YtcjanieeepcddaaGreatDoorCo5
namespace Go.Proofs.YtcjanieeepcddaaGreatDoor
open Go.RowKit

/-- Any segment's cells. -/
abbrev segA (a0 a1 a2 a3 a4 a5 : Int) (b6 b7 b8 b9 : Bool) (a10 : Int) (oA : Option Addr) (on oc : Nat) (dA : Option Addr) (dn dc : Nat) : Array Value :=
  #[.int .i64 a0, .int .i64 a1, .int .i64 a2, .int .i64 a3, .int .u32 a4, .int .u32 a5, .bool b6, .bool b7, .bool b8, .bool b9, .int .i64 a10, .slice oA on oc, .slice dA dn dc]
set_option maxRecDepth 100000 in
theorem ctick_nil (n : Int) (w : World) : Calls Tryz.prog 8 #[.pointer none, .int .i64 n] w fun e w' => e = .returned (.tuple #[]) ∧ w' = w := by
  go_enter Tryz.func8, Tryz.ntmps8
  go_wp2_with fail
  try simp only [Exit.inBlock, Exit.then]
  refine bodyPost_ret (results_none rfl _ _ _) rfl ⟨rfl, rfl⟩
set_option maxRecDepth 100000 in
theorem cwrite_nil (n : Int) (w : World) : Calls Tryz.prog 11 #[.pointer none, .slice none 0 0, .int .i64 n] w fun e w' => e = .returned (.tuple #[.int .i64 0, .int .i64 2]) ∧ w' = w := by
  go_enter Tryz.func11, Tryz.ntmps11
  go_wp2_with fail
  refine bodyPost_ret (results_tmp2 rfl _ _ _) rfl ⟨rfl, rfl⟩
set_option maxRecDepth 100000 in
theorem cread_nil (m n : Int) (w : World) : Calls Tryz.prog 12 #[.pointer none, .int .i64 m, .int .i64 n] w fun e w' => e = .returned (.tuple #[.slice none 0 0, .int .i64 2]) ∧ w' = w := by
  go_enter Tryz.func12, Tryz.ntmps12
  go_wp2_with fail
  refine bodyPost_ret (results_tmp2 rfl _ _ _) rfl ⟨rfl, rfl⟩
set_option maxRecDepth 100000 in
theorem cmine_nil (a0 a1 a2 a3 a4 a5 : Int) (b6 b7 b8 b9 : Bool) (a10 : Int) (oA : Option Addr) (on oc : Nat) (dA : Option Addr) (dn dc : Nat) (w : World) : Calls Tryz.prog 14 #[.pointer none, .agg (segA a0 a1 a2 a3 a4 a5 b6 b7 b8 b9 a10 oA on oc dA dn dc)] w fun e w' => e = .returned (.bool false) ∧ Below w.heap.size w w' := by
  have HB : Keep (Below w.heap.size w (w.alloc (.cells (segA a0 a1 a2 a3 a4 a5 b6 b7 b8 b9 a10 oA on oc dA dn dc) 39))) := ⟨(Below.refl _ w).alloc (Nat.le_refl _) _⟩
  go_enter Tryz.func14, Tryz.ntmps14
  go_wp2_with fail
  go_ret
  exact ⟨by first | rfl | simp, HB.out⟩
set_option maxRecDepth 100000 in
theorem chear_nil (a0 a1 a2 a3 a4 a5 : Int) (b6 b7 b8 b9 : Bool) (a10 : Int) (oA : Option Addr) (on oc : Nat) (dA : Option Addr) (dn dc : Nat) (n : Int) (w : World) : Calls Tryz.prog 15 #[.pointer none, .agg (segA a0 a1 a2 a3 a4 a5 b6 b7 b8 b9 a10 oA on oc dA dn dc), .int .i64 n] w fun e w' => e = .returned (.bool false) ∧ Below w.heap.size w w' := by
  have HB : Keep (Below w.heap.size w (w.alloc (.cells (segA a0 a1 a2 a3 a4 a5 b6 b7 b8 b9 a10 oA on oc dA dn dc) 39))) := ⟨(Below.refl _ w).alloc (Nat.le_refl _) _⟩
  have MN := Keep.mk (cmine_nil a0 a1 a2 a3 a4 a5 b6 b7 b8 b9 a10 oA on oc dA dn dc (w.alloc (.cells (segA a0 a1 a2 a3 a4 a5 b6 b7 b8 b9 a10 oA on oc dA dn dc) 39)))
  go_enter Tryz.func15, Tryz.ntmps15
  go_wp2_with (first
    | (go_at_call 14
       go_loud (refine MN.out.mono ?_; rintro e w1 ⟨rfl, hb1⟩)
       have B1 := Keep.mk (HB.out.trans (hb1.mono HB.out.size))
       clear hb1)
    | fail)
  try go_big_quiet (fail)
  go_wp2_with fail
  go_ret
  exact ⟨by first | rfl | simp, B1.out⟩
set_option maxRecDepth 100000 in
theorem cjoined_nil (a0 a1 a2 a3 a4 a5 : Int) (b6 b7 b8 b9 : Bool) (a10 : Int) (oA : Option Addr) (on oc : Nat) (dA : Option Addr) (dn dc : Nat) (n : Int) (w : World) : Calls Tryz.prog 16 #[.pointer none, .agg (segA a0 a1 a2 a3 a4 a5 b6 b7 b8 b9 a10 oA on oc dA dn dc), .int .i64 n] w fun e w' => e = .returned (.int .i64 2) ∧ Below w.heap.size w w' := by
  have HB : Keep (Below w.heap.size w (w.alloc (.cells (segA a0 a1 a2 a3 a4 a5 b6 b7 b8 b9 a10 oA on oc dA dn dc) 39))) := ⟨(Below.refl _ w).alloc (Nat.le_refl _) _⟩
  go_enter Tryz.func16, Tryz.ntmps16
  go_wp2_with fail
  go_ret
  exact ⟨by first | rfl | simp, HB.out⟩
set_option maxRecDepth 100000 in
theorem cjoin_nil (a b n : Int) (z : Bool) (w : World) : Calls Tryz.prog 17 #[.pointer none, .int .i64 a, .int .i64 b, .bool z, .int .i64 n] w fun e w' => e = .returned (.int .i64 2) ∧ w' = w := by
  go_enter Tryz.func17, Tryz.ntmps17
  go_wp2_with fail
  go_ret
  exact ⟨by first | rfl | simp, rfl⟩
set_option maxRecDepth 100000 in
theorem ctell_nil (a n : Int) (w : World) : Calls Tryz.prog 18 #[.pointer none, .int .i64 a, .int .i64 n] w fun e w' => e = .returned (.int .i64 2) ∧ w' = w := by
  go_enter Tryz.func18, Tryz.ntmps18
  go_wp2_with fail
  go_ret
  exact ⟨by first | rfl | simp, rfl⟩
set_option maxRecDepth 100000 in
theorem cshutdown_nil (n : Int) (w : World) : Calls Tryz.prog 19 #[.pointer none, .int .i64 n] w fun e w' => e = .returned (.int .i64 2) ∧ w' = w := by
  go_enter Tryz.func19, Tryz.ntmps19
  go_wp2_with fail
  go_ret
  exact ⟨by first | rfl | simp, rfl⟩
set_option maxRecDepth 100000 in
theorem cclose_nil (n : Int) (w : World) : Calls Tryz.prog 20 #[.pointer none, .int .i64 n] w fun e w' => e = .returned (.int .i64 2) ∧ w' = w := by
  go_enter Tryz.func20, Tryz.ntmps20
  go_wp2_with fail
  go_ret
  exact ⟨by first | rfl | simp, rfl⟩
set_option maxRecDepth 100000 in
theorem cabort_nil (n : Int) (w : World) : Calls Tryz.prog 21 #[.pointer none, .int .i64 n] w fun e w' => e = .returned (.int .i64 2) ∧ w' = w := by
  go_enter Tryz.func21, Tryz.ntmps21
  go_wp2_with fail
  go_ret
  exact ⟨by first | rfl | simp, rfl⟩
set_option maxRecDepth 100000 in
theorem cset_nil (n : Int) (w : World) : Calls Tryz.prog 22 #[.pointer none, .int .i64 n] w fun e w' => e = .returned (.int .i64 2) ∧ w' = w := by
  go_enter Tryz.func22, Tryz.ntmps22
  go_wp2_with fail
  go_ret
  exact ⟨by first | rfl | simp, rfl⟩
set_option maxRecDepth 100000 in
theorem cout_nil (w : World) : Calls Tryz.prog 7 #[.pointer none] w fun e w' => e = .returned (.slice none 0 0) ∧ w' = w := by
  go_enter Tryz.func7, Tryz.ntmps7
  go_wp2_with fail
  go_ret
  exact ⟨by first | rfl | simp, rfl⟩
set_option maxRecDepth 100000 in
theorem cstate_nil (w : World) : Calls Tryz.prog 23 #[.pointer none] w fun e w' => e = .returned (.int .i64 0) ∧ w' = w := by
  go_enter Tryz.func23, Tryz.ntmps23
  go_wp2_with fail
  go_ret
  exact ⟨by first | rfl | simp, rfl⟩
set_option maxRecDepth 100000 in
theorem clegs_nil (w : World) : Calls Tryz.prog 24 #[.pointer none] w fun e w' => e = .returned (.int .i64 0) ∧ w' = w := by
  go_enter Tryz.func24, Tryz.ntmps24
  go_wp2_with fail
  go_ret
  exact ⟨by first | rfl | simp, rfl⟩
set_option maxRecDepth 100000 in
theorem ctimers_nil (w : World) : Calls Tryz.prog 25 #[.pointer none] w fun e w' => e = .returned (.int .i64 0) ∧ w' = w := by
  go_enter Tryz.func25, Tryz.ntmps25
  go_wp2_with fail
  go_ret
  exact ⟨by first | rfl | simp, rfl⟩
set_option maxRecDepth 100000 in
theorem cerr_nil (w : World) : Calls Tryz.prog 9 #[.pointer none] w fun e w' => e = .returned (.int .i64 2) ∧ w' = w := by
  go_enter Tryz.func9, Tryz.ntmps9
  go_wp2_with fail
  go_ret
  exact ⟨by first | rfl | simp, rfl⟩
set_option maxRecDepth 100000 in
theorem cover_nil (w : World) : Calls Tryz.prog 10 #[.pointer none] w fun e w' => e = .returned (.bool false) ∧ w' = w := by
  go_enter Tryz.func10, Tryz.ntmps10
  go_wp2_with fail
  go_ret
  exact ⟨by first | rfl | simp, rfl⟩
set_option maxRecDepth 100000 in
set_option maxHeartbeats 1600000 in
theorem dial_four (k tick : Int) (w : World) : Calls Tryz.prog 6 #[.int .u64 k, .agg #[.int .i64 4, .int .i64 0, .int .i64 0, .int .i64 0], .int .i64 tick] w fun e w' => e = .returned (.tuple #[.pointer none, .int .i64 1]) ∧ Below w.heap.size w w' := by
  have BF := Keep.mk (begin_four k tick (w.alloc (.cells #[.int .i64 4, .int .i64 0, .int .i64 0, .int .i64 0] 30)))
  have HB := Keep.mk ((Below.refl _ w).alloc (Nat.le_refl _) (.cells #[.int .i64 4, .int .i64 0, .int .i64 0, .int .i64 0] 30))
  go_enter Tryz.func6, Tryz.ntmps6
  go_wp2_with (first
    | (go_at_call 26
       go_loud (refine BF.out.mono ?_; rintro e w1 ⟨rfl, hb1⟩)
       have B1 := Keep.mk (HB.out.trans (hb1.mono HB.out.size))
       clear hb1)
    | fail)
  refine bodyPost_ret (results_tmp2 rfl _ _ _) rfl ⟨rfl, B1.out⟩
set_option maxRecDepth 100000 in
set_option maxHeartbeats 1600000 in
theorem accept_bare (k tick : Int) (w : World) : Calls Tryz.prog 13 #[.int .u64 k, .agg (bareS 0 0 0 0 0 0 true false false false 0), .int .i64 tick] w fun e w' => e = .returned (.tuple #[.pointer none, .int .i64 1]) ∧ Below w.heap.size w w' := by
  have FN := Keep.mk (find_none 1 (w.alloc (.cells (bareS 0 0 0 0 0 0 true false false false 0) 39)))
  have HB := Keep.mk ((Below.refl _ w).alloc (Nat.le_refl _) (.cells (bareS 0 0 0 0 0 0 true false false false 0) 39))
  have E0 := Keep.mk (Bk.new w (bareS 0 0 0 0 0 0 true false false false 0) 39)
  go_enter Tryz.func13, Tryz.ntmps13
  go_wp2_with (first
    | (go_at_call 40
       go_loud (refine FN.out.mono ?_; rintro e w1 ⟨rfl, hb1⟩)
       have B1 := Keep.mk (HB.out.trans (hb1.mono HB.out.size))
       have E1 := (E0.out.fz (Fz.below hb1 (Nat.le_refl _)) (by simp)).fz (Fz.alloc w1 (.cells #[.int .i64 0, .int .u64 0, .int .u64 0, .int .u32 0, .int .u32 0, .int .i64 0, .int .i64 0, .bool false, .bool false, .int .i64 0, .bool false, .int .i64 0, .int .i64 0, .bool false] 54)) (by simp)
       have KE := Keep.mk E1
       have z0 : (w1.alloc (.cells #[.int .i64 0, .int .u64 0, .int .u64 0, .int .u32 0, .int .u32 0, .int .i64 0, .int .i64 0, .bool false, .bool false, .int .i64 0, .bool false, .int .i64 0, .int .i64 0, .bool false] 54)).cell? ⟨w.heap.size, 0, none⟩ = some (.int .i64 0) := E1.c 0
       have z1 : (w1.alloc (.cells #[.int .i64 0, .int .u64 0, .int .u64 0, .int .u32 0, .int .u32 0, .int .i64 0, .int .i64 0, .bool false, .bool false, .int .i64 0, .bool false, .int .i64 0, .int .i64 0, .bool false] 54)).cell? ⟨w.heap.size, 1, none⟩ = some (.int .i64 0) := E1.c 1
       have z2 : (w1.alloc (.cells #[.int .i64 0, .int .u64 0, .int .u64 0, .int .u32 0, .int .u32 0, .int .i64 0, .int .i64 0, .bool false, .bool false, .int .i64 0, .bool false, .int .i64 0, .int .i64 0, .bool false] 54)).cell? ⟨w.heap.size, 2, none⟩ = some (.int .i64 0) := E1.c 2
       have z3 : (w1.alloc (.cells #[.int .i64 0, .int .u64 0, .int .u64 0, .int .u32 0, .int .u32 0, .int .i64 0, .int .i64 0, .bool false, .bool false, .int .i64 0, .bool false, .int .i64 0, .int .i64 0, .bool false] 54)).cell? ⟨w.heap.size, 3, none⟩ = some (.int .i64 0) := E1.c 3
       have z4 : (w1.alloc (.cells #[.int .i64 0, .int .u64 0, .int .u64 0, .int .u32 0, .int .u32 0, .int .i64 0, .int .i64 0, .bool false, .bool false, .int .i64 0, .bool false, .int .i64 0, .int .i64 0, .bool false] 54)).cell? ⟨w.heap.size, 4, none⟩ = some (.int .u32 0) := E1.c 4
       have z5 : (w1.alloc (.cells #[.int .i64 0, .int .u64 0, .int .u64 0, .int .u32 0, .int .u32 0, .int .i64 0, .int .i64 0, .bool false, .bool false, .int .i64 0, .bool false, .int .i64 0, .int .i64 0, .bool false] 54)).cell? ⟨w.heap.size, 5, none⟩ = some (.int .u32 0) := E1.c 5
       have z6 : (w1.alloc (.cells #[.int .i64 0, .int .u64 0, .int .u64 0, .int .u32 0, .int .u32 0, .int .i64 0, .int .i64 0, .bool false, .bool false, .int .i64 0, .bool false, .int .i64 0, .int .i64 0, .bool false] 54)).cell? ⟨w.heap.size, 6, none⟩ = some (.bool true) := E1.c 6
       have z7 : (w1.alloc (.cells #[.int .i64 0, .int .u64 0, .int .u64 0, .int .u32 0, .int .u32 0, .int .i64 0, .int .i64 0, .bool false, .bool false, .int .i64 0, .bool false, .int .i64 0, .int .i64 0, .bool false] 54)).cell? ⟨w.heap.size, 7, none⟩ = some (.bool false) := E1.c 7
       have z8 : (w1.alloc (.cells #[.int .i64 0, .int .u64 0, .int .u64 0, .int .u32 0, .int .u32 0, .int .i64 0, .int .i64 0, .bool false, .bool false, .int .i64 0, .bool false, .int .i64 0, .int .i64 0, .bool false] 54)).cell? ⟨w.heap.size, 8, none⟩ = some (.bool false) := E1.c 8
       have z9 : (w1.alloc (.cells #[.int .i64 0, .int .u64 0, .int .u64 0, .int .u32 0, .int .u32 0, .int .i64 0, .int .i64 0, .bool false, .bool false, .int .i64 0, .bool false, .int .i64 0, .int .i64 0, .bool false] 54)).cell? ⟨w.heap.size, 9, none⟩ = some (.bool false) := E1.c 9
       have z10 : (w1.alloc (.cells #[.int .i64 0, .int .u64 0, .int .u64 0, .int .u32 0, .int .u32 0, .int .i64 0, .int .i64 0, .bool false, .bool false, .int .i64 0, .bool false, .int .i64 0, .int .i64 0, .bool false] 54)).cell? ⟨w.heap.size, 10, none⟩ = some (.int .i64 0) := E1.c 10
       have z11 : (w1.alloc (.cells #[.int .i64 0, .int .u64 0, .int .u64 0, .int .u32 0, .int .u32 0, .int .i64 0, .int .i64 0, .bool false, .bool false, .int .i64 0, .bool false, .int .i64 0, .int .i64 0, .bool false] 54)).cell? ⟨w.heap.size, 11, none⟩ = some (.slice none 0 0) := E1.c 11
       have z12 : (w1.alloc (.cells #[.int .i64 0, .int .u64 0, .int .u64 0, .int .u32 0, .int .u32 0, .int .i64 0, .int .i64 0, .bool false, .bool false, .int .i64 0, .bool false, .int .i64 0, .int .i64 0, .bool false] 54)).cell? ⟨w.heap.size, 12, none⟩ = some (.slice none 0 0) := E1.c 12
       clear hb1 E1)
    | (go_at_call 41
       go_loud (refine (right_yes 0 0 0 0 0 0 true false false false 0 _ (by omega) (by omega) (by omega) (by omega) (by omega) (by omega) (by omega) (by omega) (by omega) (by omega)).mono ?_; rintro e w2 ⟨rfl, hb2⟩)
       have B2 := Keep.mk ((B1.out.alloc B1.out.size _).trans (hb2.mono (by have := B1.out.size; simp; omega)))
       clear hb2)
    | fail)
  refine bodyPost_ret (results_tmp2 rfl _ _ _) rfl ⟨rfl, B2.out⟩
end Go.Proofs.YtcjanieeepcddaaGreatDoor
/-
  The walk of the law ConnNil.
-/
namespace Go.Proofs.YtcjanieeepcddaaGreatDoor
open Go.RowKit

set_option maxRecDepth 100000 in
set_option maxHeartbeats 6400000 in
theorem connNil_walk (a0 a1 a2 a3 a4 a5 : Int) (b6 b7 b8 b9 : Bool) (a10 : Int) (oA : Option Addr) (on oc : Nat) (dA : Option Addr) (dn dc : Nat) (n : Int) (w : World) (_n0 : -9223372036854775808 ≤ n) (_n1 : n < 9223372036854775808) :
    Calls Tryz.prog 4 #[.agg (segA a0 a1 a2 a3 a4 a5 b6 b7 b8 b9 a10 oA on oc dA dn dc), .int .i64 n] w fun e w' => e = .returned (.bool true) ∧ Below w.heap.size w w' := by
  clear _n0 _n1
  have E0 := Keep.mk (Bk.new w (segA a0 a1 a2 a3 a4 a5 b6 b7 b8 b9 a10 oA on oc dA dn dc) 39)
  have HB := Keep.mk ((Below.refl _ w).alloc (Nat.le_refl _) (.cells (segA a0 a1 a2 a3 a4 a5 b6 b7 b8 b9 a10 oA on oc dA dn dc) 39))
  have WK := Keep.mk (cwakes_any (w.alloc (.cells (segA a0 a1 a2 a3 a4 a5 b6 b7 b8 b9 a10 oA on oc dA dn dc) 39)))
  by_cases h20 : 20 < on
  · have h20' : (20 : Int) < (on : Int) := by omega
    have hd20 : decide ((20 : Int) < (on : Int)) = true := decide_eq_true h20'
    clear h20
    go_enter Tryz.func4, Tryz.ntmps4
    go_wp2_with (first
      | (go_at_call 5
         go_loud (refine WK.out.mono ?_; rintro e w1 ⟨rfl, hb1⟩)
         have B1 := Keep.mk (HB.out.trans (hb1.mono HB.out.size))
         have E1 := Keep.mk (E0.out.fz (Fz.below hb1 (Nat.le_refl _)) (by simp))
         have x11 : w1.cell? ⟨w.heap.size, 11, none⟩ = some (.slice oA on oc) := E1.out.c 11
         have x12 : w1.cell? ⟨w.heap.size, 12, none⟩ = some (.slice dA dn dc) := E1.out.c 12
         clear hb1)
      | fail)
    go_ret
    exact ⟨rfl, B1.out⟩
  have hd20 : decide ((20 : Int) < (on : Int)) = false := decide_eq_false (by omega)
  have h20' : ¬ (20 : Int) < (on : Int) := by omega
  by_cases h50 : 50 < dn
  · have h50' : (50 : Int) < (dn : Int) := by omega
    have hd50 : decide ((50 : Int) < (dn : Int)) = true := decide_eq_true h50'
    clear h50 h20
    go_enter Tryz.func4, Tryz.ntmps4
    go_wp2_with (first
      | (go_at_call 5
         go_loud (refine WK.out.mono ?_; rintro e w1 ⟨rfl, hb1⟩)
         have B1 := Keep.mk (HB.out.trans (hb1.mono HB.out.size))
         have E1 := Keep.mk (E0.out.fz (Fz.below hb1 (Nat.le_refl _)) (by simp))
         have x11 : w1.cell? ⟨w.heap.size, 11, none⟩ = some (.slice oA on oc) := E1.out.c 11
         have x12 : w1.cell? ⟨w.heap.size, 12, none⟩ = some (.slice dA dn dc) := E1.out.c 12
         clear hb1)
      | fail)
    go_ret
    exact ⟨rfl, B1.out⟩
  have hd50 : decide ((50 : Int) < (dn : Int)) = false := decide_eq_false (by omega)
  have h50' : ¬ (50 : Int) < (dn : Int) := by omega
  clear h20 h50
  go_enter Tryz.func4, Tryz.ntmps4
  go_wp2_with (first
    | (go_at_call 5
       go_loud (refine WK.out.mono ?_; rintro e w1 ⟨rfl, hb1⟩)
       have B1 := Keep.mk (HB.out.trans (hb1.mono HB.out.size))
       have E1 := Keep.mk (E0.out.fz (Fz.below hb1 (Nat.le_refl _)) (by simp))
       have x11 : w1.cell? ⟨w.heap.size, 11, none⟩ = some (.slice oA on oc) := E1.out.c 11
       have x12 : w1.cell? ⟨w.heap.size, 12, none⟩ = some (.slice dA dn dc) := E1.out.c 12
       clear hb1)
    | (go_at_call 8
       go_loud (refine (ctick_nil _ _).mono ?_; rintro e X ⟨rfl, hX⟩)
       rw [hX]
       clear hX)
    | (go_at_call 11
       go_loud (refine (cwrite_nil _ _).mono ?_; rintro e X ⟨rfl, hX⟩)
       rw [hX]
       clear hX)
    | (go_at_call 12
       go_loud (refine (cread_nil _ _ _).mono ?_; rintro e X ⟨rfl, hX⟩)
       rw [hX]
       clear hX)
    | (go_at_call 6
       go_loud (refine (dial_four 1 0 _).mono ?_; rintro e w2 ⟨rfl, hb2⟩)
       have B2 := Keep.mk (B1.out.trans (hb2.mono B1.out.size))
       have E2 := Keep.mk (E1.out.fz (Fz.below hb2 (Nat.le_refl _)) (by simp))
       clear hb2)
    | (go_at_call 13
       go_loud (refine (accept_bare 1 0 _).mono ?_; rintro e w3 ⟨rfl, hb3⟩)
       have B3 := Keep.mk (B2.out.trans (hb3.mono B2.out.size))
       have E3 := Keep.mk (E2.out.fz (Fz.below hb3 (Nat.le_refl _)) (by simp))
       have y0 : w3.cell? ⟨w.heap.size, 0, none⟩ = some (.int .i64 a0) := E3.out.c 0
       have y1 : w3.cell? ⟨w.heap.size, 1, none⟩ = some (.int .i64 a1) := E3.out.c 1
       have y2 : w3.cell? ⟨w.heap.size, 2, none⟩ = some (.int .i64 a2) := E3.out.c 2
       have y3 : w3.cell? ⟨w.heap.size, 3, none⟩ = some (.int .i64 a3) := E3.out.c 3
       have y4 : w3.cell? ⟨w.heap.size, 4, none⟩ = some (.int .u32 a4) := E3.out.c 4
       have y5 : w3.cell? ⟨w.heap.size, 5, none⟩ = some (.int .u32 a5) := E3.out.c 5
       have y6 : w3.cell? ⟨w.heap.size, 6, none⟩ = some (.bool b6) := E3.out.c 6
       have y7 : w3.cell? ⟨w.heap.size, 7, none⟩ = some (.bool b7) := E3.out.c 7
       have y8 : w3.cell? ⟨w.heap.size, 8, none⟩ = some (.bool b8) := E3.out.c 8
       have y9 : w3.cell? ⟨w.heap.size, 9, none⟩ = some (.bool b9) := E3.out.c 9
       have y10 : w3.cell? ⟨w.heap.size, 10, none⟩ = some (.int .i64 a10) := E3.out.c 10
       have y11 : w3.cell? ⟨w.heap.size, 11, none⟩ = some (.slice oA on oc) := E3.out.c 11
       have y12 : w3.cell? ⟨w.heap.size, 12, none⟩ = some (.slice dA dn dc) := E3.out.c 12
       clear hb3)
    | (go_at_call 14
       go_loud (refine (cmine_nil a0 a1 a2 a3 a4 a5 b6 b7 b8 b9 a10 oA on oc dA dn dc _).mono ?_; rintro e w4 ⟨rfl, hb4⟩)
       have B4 := Keep.mk (B3.out.trans (hb4.mono B3.out.size))
       have E4 := Keep.mk (E3.out.fz (Fz.below hb4 (Nat.le_refl _)) (by simp))
       have z0 : w4.cell? ⟨w.heap.size, 0, none⟩ = some (.int .i64 a0) := E4.out.c 0
       have z1 : w4.cell? ⟨w.heap.size, 1, none⟩ = some (.int .i64 a1) := E4.out.c 1
       have z2 : w4.cell? ⟨w.heap.size, 2, none⟩ = some (.int .i64 a2) := E4.out.c 2
       have z3 : w4.cell? ⟨w.heap.size, 3, none⟩ = some (.int .i64 a3) := E4.out.c 3
       have z4 : w4.cell? ⟨w.heap.size, 4, none⟩ = some (.int .u32 a4) := E4.out.c 4
       have z5 : w4.cell? ⟨w.heap.size, 5, none⟩ = some (.int .u32 a5) := E4.out.c 5
       have z6 : w4.cell? ⟨w.heap.size, 6, none⟩ = some (.bool b6) := E4.out.c 6
       have z7 : w4.cell? ⟨w.heap.size, 7, none⟩ = some (.bool b7) := E4.out.c 7
       have z8 : w4.cell? ⟨w.heap.size, 8, none⟩ = some (.bool b8) := E4.out.c 8
       have z9 : w4.cell? ⟨w.heap.size, 9, none⟩ = some (.bool b9) := E4.out.c 9
       have z10 : w4.cell? ⟨w.heap.size, 10, none⟩ = some (.int .i64 a10) := E4.out.c 10
       have z11 : w4.cell? ⟨w.heap.size, 11, none⟩ = some (.slice oA on oc) := E4.out.c 11
       have z12 : w4.cell? ⟨w.heap.size, 12, none⟩ = some (.slice dA dn dc) := E4.out.c 12
       clear hb4)
    | (go_at_call 15
       go_loud (refine (chear_nil a0 a1 a2 a3 a4 a5 b6 b7 b8 b9 a10 oA on oc dA dn dc n _).mono ?_; rintro e w5 ⟨rfl, hb5⟩)
       have B5 := Keep.mk (B4.out.trans (hb5.mono B4.out.size))
       have E5 := Keep.mk (E4.out.fz (Fz.below hb5 (Nat.le_refl _)) (by simp))
       have v0 : w5.cell? ⟨w.heap.size, 0, none⟩ = some (.int .i64 a0) := E5.out.c 0
       have v1 : w5.cell? ⟨w.heap.size, 1, none⟩ = some (.int .i64 a1) := E5.out.c 1
       have v2 : w5.cell? ⟨w.heap.size, 2, none⟩ = some (.int .i64 a2) := E5.out.c 2
       have v3 : w5.cell? ⟨w.heap.size, 3, none⟩ = some (.int .i64 a3) := E5.out.c 3
       have v4 : w5.cell? ⟨w.heap.size, 4, none⟩ = some (.int .u32 a4) := E5.out.c 4
       have v5 : w5.cell? ⟨w.heap.size, 5, none⟩ = some (.int .u32 a5) := E5.out.c 5
       have v6 : w5.cell? ⟨w.heap.size, 6, none⟩ = some (.bool b6) := E5.out.c 6
       have v7 : w5.cell? ⟨w.heap.size, 7, none⟩ = some (.bool b7) := E5.out.c 7
       have v8 : w5.cell? ⟨w.heap.size, 8, none⟩ = some (.bool b8) := E5.out.c 8
       have v9 : w5.cell? ⟨w.heap.size, 9, none⟩ = some (.bool b9) := E5.out.c 9
       have v10 : w5.cell? ⟨w.heap.size, 10, none⟩ = some (.int .i64 a10) := E5.out.c 10
       have v11 : w5.cell? ⟨w.heap.size, 11, none⟩ = some (.slice oA on oc) := E5.out.c 11
       have v12 : w5.cell? ⟨w.heap.size, 12, none⟩ = some (.slice dA dn dc) := E5.out.c 12
       clear hb5)
    | (go_at_call 16
       go_loud (refine (cjoined_nil a0 a1 a2 a3 a4 a5 b6 b7 b8 b9 a10 oA on oc dA dn dc n _).mono ?_; rintro e w6 ⟨rfl, hb6⟩)
       have B6 := Keep.mk (B5.out.trans (hb6.mono B5.out.size))
       clear hb6)
    | (go_at_call 17
       go_loud (refine (cjoin_nil _ _ _ _ _).mono ?_; rintro e X ⟨rfl, hX⟩)
       rw [hX]
       clear hX)
    | (go_at_call 18
       go_loud (refine (ctell_nil _ _ _).mono ?_; rintro e X ⟨rfl, hX⟩)
       rw [hX]
       clear hX)
    | (go_at_call 19
       go_loud (refine (cshutdown_nil _ _).mono ?_; rintro e X ⟨rfl, hX⟩)
       rw [hX]
       clear hX)
    | (go_at_call 20
       go_loud (refine (cclose_nil _ _).mono ?_; rintro e X ⟨rfl, hX⟩)
       rw [hX]
       clear hX)
    | (go_at_call 21
       go_loud (refine (cabort_nil _ _).mono ?_; rintro e X ⟨rfl, hX⟩)
       rw [hX]
       clear hX)
    | (go_at_call 22
       go_loud (refine (cset_nil _ _).mono ?_; rintro e X ⟨rfl, hX⟩)
       rw [hX]
       clear hX)
    | (go_at_call 7
       go_loud (refine (cout_nil _).mono ?_; rintro e X ⟨rfl, hX⟩)
       rw [hX]
       clear hX)
    | (go_at_call 23
       go_loud (refine (cstate_nil _).mono ?_; rintro e X ⟨rfl, hX⟩)
       rw [hX]
       clear hX)
    | (go_at_call 24
       go_loud (refine (clegs_nil _).mono ?_; rintro e X ⟨rfl, hX⟩)
       rw [hX]
       clear hX)
    | (go_at_call 25
       go_loud (refine (ctimers_nil _).mono ?_; rintro e X ⟨rfl, hX⟩)
       rw [hX]
       clear hX)
    | (go_at_call 9
       go_loud (refine (cerr_nil _).mono ?_; rintro e X ⟨rfl, hX⟩)
       rw [hX]
       clear hX)
    | (go_at_call 10
       go_loud (refine (cover_nil _).mono ?_; rintro e X ⟨rfl, hX⟩)
       rw [hX]
       clear hX)
    | fail)
  go_ret
  exact ⟨by first | rfl | simp, B6.out⟩
end Go.Proofs.YtcjanieeepcddaaGreatDoor
