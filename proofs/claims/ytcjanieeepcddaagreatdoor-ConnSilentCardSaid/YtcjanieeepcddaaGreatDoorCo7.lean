/-
  A flow that hears nothing: its timer, again and again; its death.
-/
import Derived.Test.YtcjanieeepcddaaGreatDoorCo3
namespace Go.Proofs.YtcjanieeepcddaaGreatDoor
open Go.RowKit

/-- How long a flow waits that has waited n times. -/
def wt : Nat → Int
  | 0 => 4
  | 1 => 8
  | _ => 16
section
variable {w : World} {f q : Nat} {times state rcv tries at_ since : Int} {has twice : Bool} {out : Value}
set_option maxRecDepth 100000 in
set_option maxHeartbeats 1600000 in
theorem wait_n (n : Nat) (hn : n ≤ 4) (h : Bk w f (flC q (n : Int) state rcv tries at_ has since twice out) 105) :
    Calls Tryz.prog 178 #[.pointer (some ⟨f, 1, none⟩)] w fun e w' => e = .returned (.int .i64 (wt n)) ∧ w' = w := by
  have c1 : w.cell? ⟨f, 1, none⟩ = some (.bool false) := h.c 1
  have c4 : w.cell? ⟨f, 4, none⟩ = some (.int .i64 (n : Int)) := h.c 4
  clear h
  rcases (by omega : n = 0 ∨ n = 1 ∨ n = 2 ∨ n = 3 ∨ n = 4) with rfl | rfl | rfl | rfl | rfl
  · replace c4 : w.cell? ⟨f, 4, none⟩ = some (.int .i64 0) := c4
    go_enter Tryz.func178, Tryz.ntmps178
    go_wp2_with fail
    go_ret
    exact ⟨by first | rfl | simp [wt] | decide, rfl⟩
  · replace c4 : w.cell? ⟨f, 4, none⟩ = some (.int .i64 1) := c4
    go_enter Tryz.func178, Tryz.ntmps178
    go_wp2_with fail
    go_ret
    exact ⟨by first | rfl | simp [wt] | decide, rfl⟩
  · replace c4 : w.cell? ⟨f, 4, none⟩ = some (.int .i64 2) := c4
    go_enter Tryz.func178, Tryz.ntmps178
    go_wp2_with fail
    go_ret
    exact ⟨by first | rfl | simp [wt] | decide, rfl⟩
  · replace c4 : w.cell? ⟨f, 4, none⟩ = some (.int .i64 3) := c4
    go_enter Tryz.func178, Tryz.ntmps178
    go_wp2_with fail
    go_ret
    exact ⟨by first | rfl | simp [wt] | decide, rfl⟩
  · replace c4 : w.cell? ⟨f, 4, none⟩ = some (.int .i64 4) := c4
    go_enter Tryz.func178, Tryz.ntmps178
    go_wp2_with fail
    go_ret
    exact ⟨by first | rfl | simp [wt] | decide, rfl⟩
set_option maxRecDepth 100000 in
theorem back_n (n : Nat) (hn : n ≤ 8) (h : Bk w f (flC q (n : Int) state rcv tries at_ has since twice out) 105) :
    Calls Tryz.prog 147 #[.pointer (some ⟨f, 1, none⟩)] w fun e w' => e = .returned (.tuple #[]) ∧ Bk w' f (flC q ((n + 1 : Nat) : Int) state rcv tries at_ has since twice out) 105 ∧ Fz w w' [f] := by
  have c4 : w.cell? ⟨f, 4, none⟩ = some (.int .i64 (n : Int)) := h.c 4
  have f4 := h.free 4
  have q1 : IntKind.i64.wrap ((n : Int) + 1) = (n : Int) + 1 := IntWalk.i64_in _ (by omega)
  have hm : min ((n : Int) + 1) 16 = (n : Int) + 1 := by omega
  have HB := Keep.mk h
  clear h
  go_enter Tryz.func147, Tryz.ntmps147
  go_wp2_with fail
  go_end0
  exact ⟨rfl, HB.out.set 4 _, Fz.set _ f 4 _⟩
set_option maxRecDepth 100000 in
theorem farm_n (n : Nat) (hn : n ≤ 4) (tick : Int) (h : Bk w f (flC q (n : Int) state rcv tries at_ has since twice out) 105) (h1 : -4611686018427387904 < tick) (h2 : tick < 4611686018427387904) :
    Calls Tryz.prog 123 #[.pointer (some ⟨f, 0, none⟩), .int .i64 tick] w fun e w' => e = .returned (.tuple #[]) ∧ Bk w' f (flC q (n : Int) state rcv tries (tick + wt n) true since twice out) 105 ∧ Fz w w' [f] := by
  have WT := wait_n n hn h
  obtain ⟨d, hd⟩ : ∃ d, wt n = d := ⟨_, rfl⟩
  have hdb : 0 ≤ d ∧ d ≤ 16 := by
    rw [← hd]
    rcases (by omega : n = 0 ∨ n = 1 ∨ n = 2 ∨ n = 3 ∨ n = 4) with rfl | rfl | rfl | rfl | rfl <;> decide
  rw [hd] at WT ⊢
  have WT := Keep.mk WT
  have q1 : IntKind.i64.wrap (tick + d) = tick + d := IntWalk.i64_in _ (by omega)
  have c8 : w.cell? ⟨f, 8, none⟩ = some (.int .i64 at_) := h.c 8
  have c9 : w.cell? ⟨f, 9, none⟩ = some (.bool has) := h.c 9
  have f8 := h.free 8
  have f9 := h.free 9
  have HB := Keep.mk h
  clear h h1 h2 hd hdb
  go_enter Tryz.func123, Tryz.ntmps123
  go_wp2_with (first
    | (go_at_call 178
       go_loud (refine WT.out.mono ?_; rintro e X ⟨rfl, hX⟩)
       rw [hX]
       clear hX)
    | fail)
  go_end0
  exact ⟨rfl, (HB.out.set 8 (.int .i64 (tick + d))).set 9 (.bool true), ((Fz.set w f 8 _).trans (Fz.set _ f 9 _)).mono (by simp)⟩
set_option maxRecDepth 100000 in
theorem rest_any (h : Bk w f (flC q times state rcv tries at_ has since twice out) 105) :
    Calls Tryz.prog 145 #[.pointer (some ⟨f, 0, none⟩)] w fun e w' => e = .returned (.tuple #[]) ∧ Bk w' f (flC q times state rcv tries 0 false since twice out) 105 ∧ Fz w w' [f] := by
  have c8 : w.cell? ⟨f, 8, none⟩ = some (.int .i64 at_) := h.c 8
  have c9 : w.cell? ⟨f, 9, none⟩ = some (.bool has) := h.c 9
  have f8 := h.free 8
  have f9 := h.free 9
  have HB := Keep.mk h
  clear h
  go_enter Tryz.func145, Tryz.ntmps145
  go_wp2_with fail
  go_end0
  exact ⟨rfl, (HB.out.set 8 (.int .i64 0)).set 9 (.bool false), ((Fz.set w f 8 _).trans (Fz.set _ f 9 _)).mono (by simp)⟩
set_option maxRecDepth 100000 in
theorem dead_any (h : Bk w f (flC q times state rcv tries at_ has since twice out) 105) :
    Calls Tryz.prog 146 #[.pointer (some ⟨f, 0, none⟩)] w fun e w' => e = .returned (.tuple #[]) ∧ Bk w' f (flC q times 11 rcv tries 0 false since twice out) 105 ∧ Fz w w' [f] := by
  have c5 : w.cell? ⟨f, 5, none⟩ = some (.int .i64 state) := h.c 5
  have f5 := h.free 5
  have B1 : Bk (w.setCell ⟨f, 5, none⟩ (.int .i64 11)) f (flC q times 11 rcv tries at_ has since twice out) 105 := h.set 5 _
  have RS := Keep.mk (rest_any B1)
  have E1 := Keep.mk (Fz.set w f 5 (.int .i64 11))
  clear h B1
  go_enter Tryz.func146, Tryz.ntmps146
  go_wp2_with (first
    | (go_at_call 145
       go_loud (refine RS.out.mono ?_; rintro e w2 ⟨rfl, b2, e2⟩)
       have B2 := Keep.mk b2
       have E2 := Keep.mk ((E1.out.trans e2).mono (cs' := [f]) (by simp))
       clear b2 e2)
    | fail)
  go_end0
  exact ⟨rfl, B2.out, E2.out⟩

/-- own of one piece, however much room its row has. -/
theorem own_row (g c : Nat) (s : Int) (w : World) (hc : ∀ j u, (synP s).toList[j]? = some u → w.cell? ⟨g, j, none⟩ = some u) (hgl : g < w.heap.size) :
    Calls Tryz.prog 162 #[.slice (some ⟨g, 0, none⟩) 1 c] w fun e w' => ∃ g', e = .returned (.slice (some ⟨g', 0, none⟩) 1 1) ∧ w.heap.size ≤ g' ∧ Bk w' g' (synP s) 108 ∧ Below w.heap.size w w' := by
  obtain ⟨i0, hi, hz0, hz1, hz2⟩ := info_parts infoPiece
  have hmk : (Instr.makeSlice 84 (.int .i64 1) (.int .i64 1)).run Tryz.prog w = .ok (.slice (some ⟨w.heap.size, 0, none⟩) 1 1) (w.alloc (.cells #[.int .u32 0, .bool false, .bool false, .slice none 0 0, .int .i64 0, .bool false] 108)) := by
    have := run_make (P := Tryz.prog) w 84 108 i0 _ Tryz.underlying84 hi hz0 .i64 .i64 1 1 (by omega) (by omega) (by rw [hz2]; decide) (by omega)
    rw [this, hz1]
    exact congrArg (fun z => Result.ok _ (w.alloc (.cells z 108))) (show madeCells _ _ = _ by kernel_rfl)
  have hcp : (Builtin.copy_ #[84, 84] 3 #[.slice (some ⟨w.heap.size, 0, none⟩) 1 1, .slice (some ⟨g, 0, none⟩) 1 c]).run Tryz.prog (w.alloc (.cells #[.int .u32 0, .bool false, .bool false, .slice none 0 0, .int .i64 0, .bool false] 108)) = .ok (.int .i64 1) (w.alloc (.cells (synP s) 108)) := by
    have := run_copy_rowK (P := Tryz.prog) (w.alloc (.cells #[.int .u32 0, .bool false, .bool false, .slice none 0 0, .int .i64 0, .bool false] 108)) 84 84 3 108 w.heap.size 0 1 1 ⟨g, 0, none⟩ 1 c _ 108 (synP s).toList 6 Tryz.underlying84 (by rw [hi]; exact congrArg some hz1) (heap_alloc_new _ _) rfl (fun j v hv => by
      rw [show (⟨g, 0, none⟩ : Addr).add j = ⟨g, j, none⟩ by unfold Addr.add; split <;> simp_all]
      exact (World.cell?_of_block (Below.heap_alloc _ _ _ hgl)).trans (hc j v hv)) (by simp) (by simp [Value.oneCell'])
    rw [this, World.setRow_alloc_new]
    rfl
  clear hi hz0 hz1 hz2 hc hgl
  go_enter Tryz.func162, Tryz.ntmps162
  go_wp2_with fail
  obtain ⟨W, hW⟩ : ∃ W, w.alloc (.cells (synP s) 108) = W := ⟨_, rfl⟩
  have HW : Keep (Bk W w.heap.size (synP s) 108 ∧ Below w.heap.size w W) := ⟨hW ▸ Bk.new _ _ _, hW ▸ (Below.refl _ w).alloc (Nat.le_refl _) _⟩
  rw [hW]
  clear hmk hcp hW
  go_loopw [13] (fun i wr => ∃ j : Nat, j ≤ 1 ∧ i = .int .i64 j ∧ wr = W) (fun i _ => 1 - (intOf i).toNat)
  case atStart => exact ⟨0, by omega, rfl, rfl⟩
  case round =>
    obtain ⟨j, hj, rfl, rfl⟩ := hrel
    have d3 : wr.cell? ⟨w.heap.size, 3, none⟩ = some (.slice none 0 0) := HW.out.1.c 3
    have f3 := HW.out.1.free 3
    rcases Nat.lt_or_ge j 1 with hlt | hge
    · obtain rfl : j = 0 := by omega
      have hset : wr.setCell ⟨w.heap.size, 3, none⟩ (.slice none 0 0) = wr := HW.out.1.self rfl
      go_wp2_with fail
      go_roundw
      case rel => exact ⟨1, by omega, rfl, by first | rfl | exact hset | trivial⟩
      case measure => simp [intOf]
    · obtain rfl : j = 1 := by omega
      go_wp2_with fail
      go_ret
      exact ⟨_, rfl, Nat.le_refl _, HW.out⟩
set_option maxRecDepth 100000 in
theorem qall_row (g c : Nat) (s e0 : Int) (w : World) (h : Bk w q #[.slice (some ⟨g, 0, none⟩) 1 c, .int .u32 e0] 163) (hc : ∀ j u, (synP s).toList[j]? = some u → w.cell? ⟨g, j, none⟩ = some u) (hgl : g < w.heap.size) :
    Calls Tryz.prog 158 #[.pointer (some ⟨q, 0, none⟩)] w fun e w' => ∃ g', e = .returned (.slice (some ⟨g', 0, none⟩) 1 1) ∧ w.heap.size ≤ g' ∧ Bk w' g' (synP s) 108 ∧ Below w.heap.size w w' := by
  have c0 : w.cell? ⟨q, 0, none⟩ = some (.slice (some ⟨g, 0, none⟩) 1 c) := h.c 0
  have OR := Keep.mk (own_row g c s w hc hgl)
  clear h hc hgl
  go_enter Tryz.func158, Tryz.ntmps158
  go_wp2_with (first
    | (go_at_call 162
       go_loud (refine OR.out.mono ?_; rintro e w1 ⟨g', rfl, l1, k1, b1⟩)
       have L1 := Keep.mk l1
       have K1 := Keep.mk k1
       have B1 := Keep.mk b1
       clear l1 k1 b1)
    | fail)
  go_ret
  exact ⟨g', rfl, L1.out, K1.out, B1.out⟩
set_option maxRecDepth 100000 in
set_option maxHeartbeats 3200000 in
theorem again_syn (n : Nat) (hn : n ≤ 4) (s e0 tick : Int) (g2 c2 : Nat) (h : Bk w f (flC q (n : Int) 1 rcv tries at_ has since twice (.slice none 0 0)) 105) (hq : Bk w q #[.slice (some ⟨g2, 0, none⟩) 1 c2, .int .u32 e0] 163) (hne : f ≠ q) (hgf : g2 ≠ f)
    (hc : ∀ j u, (synP s).toList[j]? = some u → w.cell? ⟨g2, j, none⟩ = some u) (hgl : g2 < w.heap.size) (h1 : -4611686018427387904 < tick) (h2 : tick < 4611686018427387904) :
    Calls Tryz.prog 104 #[.pointer (some ⟨f, 0, none⟩), .int .i64 tick] w fun e w' => e = .returned (.tuple #[]) ∧ ∃ g c, One w w' 177 9 g c (synO s) ∧ Bk w' f (flC q (n : Int) 1 rcv tries (tick + wt n) true since true (.slice (some ⟨g, 0, none⟩) 1 c)) 105 ∧ Fz w w' [f] := by
  obtain ⟨w1, hw1⟩ : ∃ w1, w.setCell ⟨f, 11, none⟩ (.bool true) = w1 := ⟨_, rfl⟩
  have E1 : Fz w w1 [f] := hw1 ▸ Fz.set w f 11 _
  have F1 : Bk w1 f (flC q (n : Int) 1 rcv tries at_ has since true (.slice none 0 0)) 105 := hw1 ▸ h.set 11 _
  have Q1 := hq.fz E1 (by simp; omega)
  have HC1 : ∀ j u, (synP s).toList[j]? = some u → w1.cell? ⟨g2, j, none⟩ = some u := fun j u hu => (World.cell?_of_block (E1.block g2 hgl (by simp; exact hgf))).trans (hc j u hu)
  have QA := Keep.mk (qall_row g2 c2 s e0 w1 Q1 HC1 (Nat.lt_of_lt_of_le hgl E1.size))
  have c11 : w.cell? ⟨f, 11, none⟩ = some (.bool twice) := h.c 11
  have f11 := h.free 11
  have c0 : w1.cell? ⟨f, 0, none⟩ = some (.pointer (some ⟨q, 0, none⟩)) := F1.c 0
  have HFL : Keep (f < w.heap.size) := ⟨h.lt⟩
  have HTK : Keep (-4611686018427387904 < tick ∧ tick < 4611686018427387904 ∧ n ≤ 4) := ⟨h1, h2, hn⟩
  have KF := Keep.mk F1
  have KE := Keep.mk E1
  have HW1 := Keep.mk hw1
  clear h hq hne hgf hc hgl h1 h2 E1 F1 Q1 HC1 hn
  go_enter Tryz.func104, Tryz.ntmps104
  go_wp2_with (first
    | (go_at_call 158
       try rw [hw1]
       go_loud (refine QA.out.mono ?_; rintro e w2 ⟨g', rfl, l2, k2, b2⟩)
       have B2 := Fz.below b2 (Nat.le_refl _)
       have F2 := Keep.mk (KF.out.fz B2 (by simp))
       have E2 : Keep (Fz w w2 [f]) := ⟨(KE.out.trans B2).mono (by simp)⟩
       have K2 := Keep.mk k2
       have L2 := Keep.mk l2
       clear l2 k2 b2 B2)
    | fail)
  clear c11 f11 c0 hw1
  go_loopw [15] (fun i wr => (i = .int .i64 0 ∧ wr = w2) ∨ (i = .int .i64 1 ∧ Keep (∃ g c, One w wr 177 9 g c (synO s) ∧ Bk wr f (flC q (n : Int) 1 rcv tries at_ has since true (.slice (some ⟨g, 0, none⟩) 1 c)) 105 ∧ Fz w wr [f]))) (fun i _ => 1 - (intOf i).toNat)
  case atStart => exact .inl ⟨rfl, rfl⟩
  case round =>
    rcases hrel with ⟨rfl, rfl⟩ | ⟨rfl, HP⟩
    · have p0 : wr.cell? ⟨g', 0, none⟩ = some (.int .u32 s) := K2.out.c 0
      have p1 : wr.cell? ⟨g', 1, none⟩ = some (.bool true) := K2.out.c 1
      have p2 : wr.cell? ⟨g', 2, none⟩ = some (.bool false) := K2.out.c 2
      have p3 : wr.cell? ⟨g', 3, none⟩ = some (.slice none 0 0) := K2.out.c 3
      have p4 : wr.cell? ⟨g', 4, none⟩ = some (.int .i64 0) := K2.out.c 4
      have p5 : wr.cell? ⟨g', 5, none⟩ = some (.bool false) := K2.out.c 5
      have A3 := Fz.alloc wr (.cells (synP s) 108)
      have PT := Keep.mk (fput_syn s _ (F2.out.fz A3 (by simp)))
      have E3 : Keep (Fz w (wr.alloc (.cells (synP s) 108)) [f]) := ⟨(E2.out.trans A3).mono (by simp)⟩
      clear A3
      go_wp2_with (first
        | (go_at_call 121
           go_loud (refine PT.out.mono ?_; rintro e w4 ⟨rfl, g, c, o4, f4, e4⟩)
           have O4 := Keep.mk (o4.from E3.out.size)
           have F4 := Keep.mk f4
           have E4 : Keep (Fz w w4 [f]) := ⟨(E3.out.trans e4).mono (by simp)⟩
           clear o4 f4 e4)
        | fail)
      go_roundw
      case rel => exact .inr ⟨by go_num, ⟨g, c, O4.out, F4.out, E4.out⟩⟩
      case measure => simp [intOf]
    · obtain ⟨g, c, o5, f5, e5⟩ := HP.out
      have AR := Keep.mk (farm_n n HTK.out.2.2 tick f5 HTK.out.1 HTK.out.2.1)
      have O5 := Keep.mk o5
      have E5 := Keep.mk e5
      clear HP o5 f5 e5
      go_wp2_with (first
        | (go_at_call 123
           go_loud (refine AR.out.mono ?_; rintro e w6 ⟨rfl, f6, e6⟩)
           have O6 := Keep.mk (O5.out.fz e6 (by have := O5.out.low; have := HFL.out; simp; omega))
           have F6 := Keep.mk f6
           have E6 : Keep (Fz w w6 [f]) := ⟨(E5.out.trans e6).mono (by simp)⟩
           clear f6 e6)
        | fail)
      go_end0
      exact ⟨rfl, g, c, O6.out, F6.out, E6.out⟩
abbrev heardZ (dead : Bool) : Array Value := #[.bool false, .bool false, .bool false, .bool dead, .bool false, .slice none 0 0]
set_option maxRecDepth 100000 in
set_option maxHeartbeats 3200000 in
/-- The timer, up to four times. -/
theorem expire_n (n : Nat) (hn : n ≤ 3) (s e0 tick : Int) (g2 c2 : Nat) (h : Bk w f (flC q (n : Int) 1 rcv (n : Int) tick true since twice (.slice none 0 0)) 105) (hq : Bk w q #[.slice (some ⟨g2, 0, none⟩) 1 c2, .int .u32 e0] 163) (hne : f ≠ q) (hgf : g2 ≠ f)
    (hc : ∀ j u, (synP s).toList[j]? = some u → w.cell? ⟨g2, j, none⟩ = some u) (hgl : g2 < w.heap.size) (h1 : -4611686018427387904 < tick) (h2 : tick < 4611686018427387904) :
    Calls Tryz.prog 88 #[.pointer (some ⟨f, 0, none⟩), .int .i64 tick] w fun e w' => e = .returned (.agg (heardZ false)) ∧ ∃ g c, One w w' 177 9 g c (synO s) ∧ Bk w' f (flC q ((n + 1 : Nat) : Int) 1 rcv ((n + 1 : Nat) : Int) (tick + wt (n + 1)) true since true (.slice (some ⟨g, 0, none⟩) 1 c)) 105 ∧ Fz w w' [f] := by
  obtain ⟨W, hW⟩ : ∃ W, w.alloc (.cells (heardZ false) 86) = W := ⟨_, rfl⟩
  have R0 : Keep (Bk W w.heap.size (heardZ false) 86) := ⟨hW ▸ Bk.new w _ _⟩
  have A0 : Fz w W [] := hW ▸ Fz.alloc w _
  have F0 := h.fz A0 (by simp)
  have HFL : Keep (f < w.heap.size) := ⟨h.lt⟩
  have Q0 := Keep.mk (hq.fz A0 (by simp))
  have HC0 : Keep (∀ j u, (synP s).toList[j]? = some u → W.cell? ⟨g2, j, none⟩ = some u) := ⟨fun j u hu => (World.cell?_of_block (A0.block g2 hgl (by simp))).trans (hc j u hu)⟩
  have HG : Keep (g2 < w.heap.size ∧ g2 ≠ f ∧ f ≠ q ∧ q < w.heap.size) := ⟨hgl, hgf, hne, hq.lt⟩
  have HTK : Keep (-4611686018427387904 < tick ∧ tick < 4611686018427387904 ∧ n ≤ 3) := ⟨h1, h2, hn⟩
  have c9 : W.cell? ⟨f, 9, none⟩ = some (.bool true) := F0.c 9
  have c8 : W.cell? ⟨f, 8, none⟩ = some (.int .i64 tick) := F0.c 8
  have c5 : W.cell? ⟨f, 5, none⟩ = some (.int .i64 1) := F0.c 5
  have c7 : W.cell? ⟨f, 7, none⟩ = some (.int .i64 (n : Int)) := F0.c 7
  have f7 := F0.free 7
  have B1 : Bk (W.setCell ⟨f, 7, none⟩ (.int .i64 ((n : Int) + 1))) f (flC q (n : Int) 1 rcv ((n : Int) + 1) tick true since twice (.slice none 0 0)) 105 := F0.set 7 _
  have d7 : (W.setCell ⟨f, 7, none⟩ (.int .i64 ((n : Int) + 1))).cell? ⟨f, 7, none⟩ = some (.int .i64 ((n : Int) + 1)) := B1.c 7
  have E1 := Fz.set W f 7 (.int .i64 ((n : Int) + 1))
  have BK := Keep.mk (back_n n (by omega) B1)
  have q1 : IntKind.i64.wrap ((n : Int) + 1) = (n : Int) + 1 := IntWalk.i64_in _ (by omega)
  have hgt : ¬ (4 : Int) < (n : Int) + 1 := by omega
  have KA := Keep.mk A0
  have KE1 := Keep.mk E1
  have HONE : Keep ((heardZ false).all (fun x => x.oneCell') = true) := ⟨by simp [Value.oneCell']⟩
  clear h hq hne hgf hc hgl h1 h2 A0 F0 B1 E1 hn
  go_enter Tryz.func88, Tryz.ntmps88
  go_wp2_with (first
    | (go_at_call 147
       try rw [hW]
       go_loud (refine BK.out.mono ?_; rintro e w2 ⟨rfl, b2, e2⟩)
       have X2 : Keep (Fz W w2 [f]) := ⟨(KE1.out.trans e2).mono (by simp)⟩
       have R2 := Keep.mk (R0.out.fz X2.out (by have := HFL.out; simp; omega))
       have AG := Keep.mk (again_syn (n + 1) (by have := HTK.out; omega) s e0 tick g2 c2 b2 (Q0.out.fz X2.out (by have := HG.out; simp; omega)) HG.out.2.2.1 HG.out.2.1 (fun j u hu => (World.cell?_of_block (X2.out.block g2 (Nat.lt_of_lt_of_le HG.out.1 KA.out.size) (by simp; exact HG.out.2.1))).trans (HC0.out j u hu)) (by have := HG.out.1; have := KA.out.size; have := X2.out.size; omega) HTK.out.1 HTK.out.2.1)
       clear b2 e2)
    | (go_at_call 104
       go_loud (refine AG.out.mono ?_; rintro e w3 ⟨rfl, g, c, o3, f3, e3⟩)
       have R3 := Keep.mk (R2.out.fz e3 (by have := HFL.out; simp; omega))
       have X3 : Keep (Fz w w3 [f]) := ⟨((KA.out.trans X2.out).trans e3).mono (by simp)⟩
       have O3 := Keep.mk (o3.from (w := w) (by have := KA.out.size; have := X2.out.size; omega))
       have NE : Keep (g ≠ w.heap.size) := ⟨by have := o3.low; have := R2.out.lt; omega⟩
       have F3 := Keep.mk f3
       clear o3 f3 e3)
    | (refine Go.wpList_store_row rfl 86 (.tmp 4) (.tmp 56) rfl w.heap.size (heardZ false) rfl rfl 86 _ R3.out.eq (by kernel_rfl) rfl HONE.out ?_)
    | fail)
  try simp only [Exit.inBlock, Exit.then]
  refine bodyPost_ret (v := .agg (heardZ false)) (results_cell_row Tryz.results88 _ _ w.heap.size 86 _ (0, 0) _ rfl (setRow_heap _ _ _ _ _ _ R3.out.eq) Tryz.underlying86 rfl (by kernel_rfl)) rfl ⟨rfl, g, c, O3.out.fz (Fz.row _ _ _) (by simp; exact NE.out), F3.out.fz (Fz.row _ _ _) (by have := HFL.out; simp; omega), (X3.out.trans (Fz.row _ _ _)).mono (by simp; omega)⟩
end
end Go.Proofs.YtcjanieeepcddaaGreatDoor
