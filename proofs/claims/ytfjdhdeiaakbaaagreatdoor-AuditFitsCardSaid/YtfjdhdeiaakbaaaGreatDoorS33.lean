/-
  Walks and laws, one behind the other (part 33).
-/
import Derived.Test.YtfjdhdeiaakbaaaGreatDoorS29
import Derived.Test.YtfjdhdeiaakbaaaGreatDoorS32
set_option linter.unusedSimpArgs false
set_option linter.unusedVariables false
/-
  A connection whose one leg dies: what its parts answer then.
-/
namespace Go.Proofs.YtfjdhdeiaakbaaaGreatDoor
open Go.RowKit

set_option maxRecDepth 100000 in
set_option maxHeartbeats 3200000 in
/-- Nothing is armed: Cancel of some handles. -/
theorem cancel_void {w : World} {base b m nb : Nat} {S : Nat → Value} {now : Int} (h : Wl w base b m nb S now []) (g k c : Nat) (hs : Nat → Int) (hg : g < w.heap.size) (hc : ∀ j, j < k → w.cell? ⟨g, j, none⟩ = some (.int .i64 (hs j)) ∧ wfI (hs j)) (hk : k ≤ 100) :
    Calls Tryz.prog 229 #[.pointer (some ⟨b, 0, none⟩), .slice (some ⟨g, 0, none⟩) k c] w fun e w' => e = .returned (.int .i64 0) ∧ Below w.heap.size w w' := by
  obtain ⟨N, hw, hi⟩ := h.ex
  have HW := Lib.hid hw
  have HC := Lib.hid hc
  clear h hw hi hc
  go_enter Tryz.func229, Tryz.ntmps229
  go_wp2
  go_loopw [5, 15] (fun n i wr => ∃ j : Nat, j ≤ k ∧ i = .int .i64 j ∧ n = .int .i64 0 ∧ Below w.heap.size w wr) (fun _ i _ => k - (intOf i).toNat)
  case atStart => exact ⟨0, by omega, rfl, rfl, Below.refl _ _⟩
  case round =>
    obtain ⟨j, hj, rfl, rfl, hb⟩ := hrel
    rcases Nat.lt_or_ge j k with hlt | hge
    · obtain ⟨h1, h2⟩ := HC.out j hlt
      have hWr := HW.out.below (hb.mono (Nat.le_refl _))
      have hcc : wr.cell? ⟨g, j, none⟩ = some (.int .i64 (hs j)) := (hb.cell hg).trans h1
      have hcm := (hWr.st.alloc (.cells #[.int .i64 (hs j)] 3)).mapC
      have hcb : (wr.alloc (.cells #[.int .i64 (hs j)] 3)).cell? ⟨wr.heap.size, 0, none⟩ = some (.int .i64 (hs j)) := by rw [World.cell?_alloc_new]; rfl
      obtain ⟨x, hx, -⟩ := ((hWr.mp.alloc (.cells #[.int .i64 (hs j)] 3)).drew 1).look h2
      rw [show tk [] (hs j) = none from rfl, Option.isSome_none] at hx
      have hji : ((j : Nat) : Int) < (k : Int) := by omega
      have HB := Keep.mk hb
      clear hWr h1 h2 hb
      go_wp2_with fail
      go_region_held3 (fun W => W.cell? ⟨b, 50, none⟩ = some (.map (some m)) ∧ W.cell? ⟨wr.heap.size, 0, none⟩ = some (.int .i64 (hs j)) ∧ (Instr.lookup 262 (.map (some m)) (.int .i64 (hs j)) true).run Tryz.prog W = .ok (.tuple #[.int .i64 x, .bool false]) W)
        (exact ⟨hcm, hcb, hx⟩)
        (fail)
      go_wp2_with fail
      go_roundw
      case rel => exact ⟨j + 1, by omega, by go_num, by first | rfl | trivial, (HB.out.alloc HB.out.size _).drew⟩
      case measure => simp [intOf] <;> omega
    · obtain rfl : j = k := by omega
      go_wp2_with fail
      go_ret
      exact ⟨rfl, hb⟩

section
variable {w0 w : World} {base wb wm nb : Nat} {S : Nat → Value} {now : Int} {L : List Due} {c sd st rv mp st2 lg fl pb q : Nat} {p1 p2 k state err ld : Int} {out fout : Value} {times rcv tries at_ since : Int} {has twice : Bool} {carr farr : Array Value}
set_option maxRecDepth 100000 in
theorem pump_any (tick : Int) (c7 : w.cell? ⟨c, 7, none⟩ = some (.int .i64 0)) : Calls Tryz.prog 208 #[.pointer (some ⟨c, 0, none⟩), .int .i64 tick] w fun e w' => e = .returned (.tuple #[]) ∧ w' = w := by
  go_enter Tryz.func208, Tryz.ntmps208
  go_wp2_with fail
  try simp only [Exit.inBlock, Exit.then]
  refine bodyPost_ret (results_none rfl _ _ _) rfl ⟨rfl, rfl⟩
set_option maxRecDepth 100000 in
set_option maxHeartbeats 1600000 in
theorem tellend_any (tick : Int) (h : Cs w0 w base wb wm nb S now L c sd st rv mp st2 lg fl carr farr) (h9 : carr[9]? = some (.pointer (some ⟨sd, 0, none⟩))) (h22 : carr[22]? = some (.pointer (some ⟨wb, 0, none⟩))) (hn : 0 ≤ now) (hn2 : now < 2305843009213693952) (hL : L.length ≤ 10000) (h8 : tk L 8 = none) :
    Calls Tryz.prog 209 #[.pointer (some ⟨c, 0, none⟩), .int .i64 tick] w fun e w' => e = .returned (.tuple #[]) ∧ ∃ S', Cs w0 w' base wb wm nb S' now (dropH 8 L) c sd st rv mp st2 lg fl carr farr ∧ Fm w w' wb wm S S' := by
  have c9 : w.cell? ⟨c, 9, none⟩ = some (.pointer (some ⟨sd, 0, none⟩)) := (h.cn.c 9).trans h9
  have DN := Keep.mk (due_no w h.snd)
  have W8 : Keep (wfI 8) := ⟨wfI_of (by omega) (by omega)⟩
  have HC := Keep.mk h
  have H22 := Keep.mk h22
  have HN : Keep (0 ≤ now ∧ now < 2305843009213693952 ∧ L.length ≤ 10000) := ⟨hn, hn2, hL⟩
  have H8 := Keep.mk h8
  clear h hn hn2 hL h8 h9 h22
  go_enter Tryz.func209, Tryz.ntmps209
  go_wp2_with (first
    | (go_at_call 269
       go_loud (refine DN.out.mono ?_; rintro e w1 ⟨rfl, n1, hw1⟩)
       have C1 := Keep.mk (HC.out.quiet (w1 := w1) (by rw [hw1]; exact below_dn w n1))
       have c22 : w1.cell? ⟨c, 22, none⟩ = some (.pointer (some ⟨wb, 0, none⟩)) := (C1.out.cn.c 22).trans H22.out
       have AT := Keep.mk (at_wl C1.out.wl W8.out)
       have M1 : Keep (Fm w w1 wb wm S S) := ⟨Fm.quiet (by rw [hw1]; exact below_dn w n1) _ _ _⟩
       clear hw1)
    | (go_at_call 270
       go_loud (refine AT.out.mono ?_; rintro e X ⟨cx, rfl, -, hX⟩)
       rw [hX, H8.out]
       clear hX
       have C2 := Keep.mk (C1.out.quiet ((Below.refl _ w1).alloc (Nat.le_refl _) (.cells #[.int .i64 8] 3)))
       have CW := Keep.mk (cancel_wl (c := 1) C2.out.wl C2.out.hs (by simp) (cells_one w1 8) W8.out HN.out.1 HN.out.2.1 HN.out.2.2))
    | (go_at_call 229
       go_loud (refine CW.out.mono ?_; rintro e w3 ⟨rfl, S', wl3, fm3⟩)
       have C3 := Keep.mk (C2.out.wheel wl3 fm3)
       have M3 := Keep.mk ((M1.out.trans (Fm.alloc w1 _ wb wm S)).trans fm3)
       clear wl3 fm3)
    | fail)
  try simp only [Exit.inBlock, Exit.then]
  refine bodyPost_ret (results_none rfl _ _ _) rfl ⟨rfl, S', C3.out, M3.out⟩
set_option maxRecDepth 100000 in
set_option maxHeartbeats 1600000 in
theorem flush_none (hl : Bk w lg (legC fl) 212) (hf : Bk w fl (flC q times state rcv tries at_ has since twice (.slice none 0 0)) 286) :
    Calls Tryz.prog 210 #[.pointer (some ⟨c, 0, none⟩), .pointer (some ⟨lg, 0, none⟩), .slice none 0 0] w fun e w' => e = .returned (.tuple #[]) ∧ Bk w' fl (flC q times state rcv tries at_ has since twice (.slice none 0 0)) 286 ∧ Fz w w' [fl] := by
  have c0l : w.cell? ⟨lg, 0, none⟩ = some (.pointer (some ⟨fl, 0, none⟩)) := hl.c 0
  have FO := Keep.mk (fout_any hf none 0 0 rfl)
  clear hl hf
  go_enter Tryz.func210, Tryz.ntmps210
  go_wp2_with (first
    | (go_at_call 238
       go_loud (refine FO.out.mono ?_; rintro e w1 ⟨rfl, f1, e1⟩)
       have F1 := Keep.mk f1
       have K1 := Keep.mk e1
       clear f1 e1)
    | fail)
  clear c0l
  go_loopw [17] (fun i wr => i = .int .i64 0 ∧ wr = w1) (fun i _ => 1 - (intOf i).toNat)
  case atStart => exact ⟨rfl, rfl⟩
  case round =>
    obtain ⟨rfl, rfl⟩ := hrel
    go_wp2_with fail
    go_end0
    exact ⟨rfl, F1.out, K1.out⟩
set_option maxRecDepth 100000 in
set_option maxHeartbeats 3200000 in
/-- The fifth time: it is dead. -/
theorem expire_dead (tick : Int) (h : Bk w fl (flC q times 1 rcv 4 tick true since twice (.slice none 0 0)) 286) :
    Calls Tryz.prog 204 #[.pointer (some ⟨fl, 0, none⟩), .int .i64 tick] w fun e w' => e = .returned (.agg (heardZ true)) ∧ Bk w' fl (flC q times 11 rcv 5 0 false since twice (.slice none 0 0)) 286 ∧ Fz w w' [fl] := by
  obtain ⟨W, hW⟩ : ∃ W, w.alloc (.cells (heardZ false) 247) = W := ⟨_, rfl⟩
  have R0 : Keep (Bk W w.heap.size (heardZ false) 247) := ⟨hW ▸ Bk.new w _ _⟩
  have A0 : Fz w W [] := hW ▸ Fz.alloc w _
  have F0 := h.fz A0 (by simp)
  have HFL : Keep (fl < w.heap.size) := ⟨h.lt⟩
  have c9 : W.cell? ⟨fl, 9, none⟩ = some (.bool true) := F0.c 9
  have c8 : W.cell? ⟨fl, 8, none⟩ = some (.int .i64 tick) := F0.c 8
  have c5 : W.cell? ⟨fl, 5, none⟩ = some (.int .i64 1) := F0.c 5
  have c7 : W.cell? ⟨fl, 7, none⟩ = some (.int .i64 4) := F0.c 7
  have f7 := F0.free 7
  have B1 : Bk (W.setCell ⟨fl, 7, none⟩ (.int .i64 5)) fl (flC q times 1 rcv 5 tick true since twice (.slice none 0 0)) 286 := F0.set 7 _
  have d7 : (W.setCell ⟨fl, 7, none⟩ (.int .i64 5)).cell? ⟨fl, 7, none⟩ = some (.int .i64 5) := B1.c 7
  have DD := Keep.mk (dead_any B1)
  have KA := Keep.mk A0
  have KE1 := Keep.mk (Fz.set W fl 7 (.int .i64 5))
  have HONE : Keep ((heardZ true).all (fun x => x.oneCell') = true) := ⟨by simp [Value.oneCell']⟩
  clear h A0 F0 B1
  go_enter Tryz.func204, Tryz.ntmps204
  go_wp2_with (first
    | (go_at_call 261
       try rw [hW]
       go_loud (refine DD.out.mono ?_; rintro e w2 ⟨rfl, b2, e2⟩)
       have X2 : Keep (Fz W w2 [fl]) := ⟨(KE1.out.trans e2).mono (by simp)⟩
       have R2 := Keep.mk (R0.out.fz X2.out (by have := HFL.out; simp; omega))
       have F2 := Keep.mk b2
       clear b2 e2)
    | (refine Go.wpList_store_row rfl 247 (.tmp 4) (.tmp 48) rfl w.heap.size (heardZ true) rfl rfl 247 _ R2.out.eq (by kernel_rfl) rfl HONE.out ?_)
    | fail)
  try simp only [Exit.inBlock, Exit.then]
  refine bodyPost_ret (v := .agg (heardZ true)) (results_cell_row Tryz.results204 _ _ w.heap.size 247 _ (0, 0) _ rfl (setRow_heap _ _ _ _ _ _ R2.out.eq) Tryz.underlying247 rfl (by kernel_rfl)) rfl ⟨rfl, F2.out.fz (Fz.row _ _ _) (by have := HFL.out; simp; omega), ((KA.out.trans X2.out).trans (Fz.row _ _ _)).mono (by simp; omega)⟩
end
end Go.Proofs.YtfjdhdeiaakbaaaGreatDoor
/-
  The timer of a connection's leg: it sends again, or it dies.
-/
namespace Go.Proofs.YtfjdhdeiaakbaaaGreatDoor
open Go.RowKit

section
variable {w : World} {c sd rv pb lg wb fl q : Nat} {p1 p2 k : Int} {out fout : Value} {times state rcv tries at_ since : Int} {has twice : Bool}
set_option maxRecDepth 100000 in
theorem left_row (g cc : Nat) (s e0 : Int) (hf : Bk w fl (flC q times state rcv tries at_ has since twice fout) 286) (hq : Bk w q #[.slice (some ⟨g, 0, none⟩) 1 cc, .int .u32 e0] 346) (hc : ∀ j u, (synP s).toList[j]? = some u → w.cell? ⟨g, j, none⟩ = some u) (hgl : g < w.heap.size) :
    Calls Tryz.prog 258 #[.pointer (some ⟨fl, 0, none⟩)] w fun e w' => ∃ g', e = .returned (.slice (some ⟨g', 0, none⟩) 1 1) ∧ w.heap.size ≤ g' ∧ Bk w' g' (synP s) 289 ∧ Below w.heap.size w w' := by
  have c0 : w.cell? ⟨fl, 0, none⟩ = some (.pointer (some ⟨q, 0, none⟩)) := hf.c 0
  have QA := Keep.mk (qall_row g cc s e0 w hq hc hgl)
  clear hf hq hc hgl
  go_enter Tryz.func258, Tryz.ntmps258
  go_wp2_with (first
    | (go_at_call 290
       go_loud (refine QA.out.mono ?_; rintro e w1 ⟨g', rfl, lo, b1, be⟩)
       have K1 : Keep (w.heap.size ≤ g' ∧ Bk w1 g' (synP s) 289 ∧ Below w.heap.size w w1) := ⟨lo, b1, be⟩
       clear lo b1 be)
    | fail)
  go_ret
  exact ⟨g', rfl, K1.out⟩
set_option maxRecDepth 100000 in
set_option maxHeartbeats 3200000 in
theorem lost_row (g cc : Nat) (s e0 : Int) (h : Bk w c (conD p1 p2 k sd rv pb lg wb out) 191) (hl : Bk w lg (legC fl) 212) (hf : Bk w fl (flC q times state rcv tries at_ has since twice fout) 286) (hq : Bk w q #[.slice (some ⟨g, 0, none⟩) 1 cc, .int .u32 e0] 346) (hc : ∀ j u, (synP s).toList[j]? = some u → w.cell? ⟨g, j, none⟩ = some u) (hgl : g < w.heap.size) (hp : Bk w pb pathC 303) :
    Calls Tryz.prog 205 #[.pointer (some ⟨c, 0, none⟩), .pointer (some ⟨lg, 0, none⟩)] w fun e w' => e = .returned (.tuple #[]) ∧ Bk w' pb pathG 303 ∧ Fz w w' [pb] := by
  have c0 : w.cell? ⟨lg, 0, none⟩ = some (.pointer (some ⟨fl, 0, none⟩)) := hl.c 0
  have LR := Keep.mk (left_row g cc s e0 hf hq hc hgl)
  have NE : Keep (c ≠ pb ∧ lg ≠ pb) := ⟨h.ne_ty hp (by decide), hl.ne_ty hp (by decide)⟩
  have HC := Keep.mk h
  have HL := Keep.mk hl
  have HP := Keep.mk hp
  clear h hl hf hq hc hgl hp
  go_enter Tryz.func205, Tryz.ntmps205
  go_wp2_with (first
    | (go_at_call 258
       go_loud (refine LR.out.mono ?_; rintro e w1 ⟨g', rfl, lo, b1, be⟩)
       have B1 := Keep.mk b1
       have K1 := Keep.mk (Fz.below be (Nat.le_refl _))
       clear lo b1 be)
    | fail)
  clear c0
  go_loopw [12] (fun i wr => ∃ j : Nat, j ≤ 1 ∧ i = .int .i64 j ∧ Below w1.heap.size w1 wr) (fun i _ => 1 - (intOf i).toNat)
  case atStart => exact ⟨0, by omega, rfl, Below.refl _ _⟩
  case round =>
    obtain ⟨j, hj, rfl, hb⟩ := hrel
    have X := Fz.below hb (Nat.le_refl _)
    rcases Nat.lt_or_ge j 1 with hlt | hge
    · obtain rfl : j = 0 := by omega
      have R1 := B1.out.fz X (by simp)
      have r0 : wr.cell? ⟨g', 0, none⟩ = some (.int .u32 s) := R1.c 0
      have r1 : wr.cell? ⟨g', 1, none⟩ = some (.bool true) := R1.c 1
      have r2 : wr.cell? ⟨g', 2, none⟩ = some (.bool false) := R1.c 2
      have r3 : wr.cell? ⟨g', 3, none⟩ = some (.slice none 0 0) := R1.c 3
      have r4 : wr.cell? ⟨g', 4, none⟩ = some (.int .i64 0) := R1.c 4
      have r5 : wr.cell? ⟨g', 5, none⟩ = some (.bool false) := R1.c 5
      have HB := Keep.mk hb
      clear hb X R1
      go_wp2_with fail
      go_roundw
      case rel => exact ⟨1, by omega, rfl, HB.out.alloc HB.out.size _⟩
      case measure => simp [intOf]
    · obtain rfl : j = 1 := by omega
      have KX := Keep.mk ((K1.out.trans X).mono (cs' := []) (by simp))
      have C2 := HC.out.fz KX.out (by simp)
      have L2 := HL.out.fz KX.out (by simp)
      have P2 := Keep.mk (HP.out.fz KX.out (by simp))
      have d11 : wr.cell? ⟨c, 11, none⟩ = some (.pointer (some ⟨pb, 0, none⟩)) := C2.c 11
      have d1 : wr.cell? ⟨lg, 1, none⟩ = some (.int .i64 0) := L2.c 1
      have d2 : wr.cell? ⟨lg, 2, none⟩ = some (.int .i64 1) := L2.c 2
      have KC2 := Keep.mk C2
      have KL2 := Keep.mk L2
      have GN := Keep.mk (gone_01 (pb := pb) wr.drew (P2.out.fz (Fz.drew wr 1) (by simp)))
      clear X hb C2 L2
      go_wp2_with fail
      go_region_held3 (fun W => W.cell? ⟨c, 11, none⟩ = some (.pointer (some ⟨pb, 0, none⟩)) ∧ W.cell? ⟨lg, 1, none⟩ = some (.int .i64 0) ∧ W.cell? ⟨lg, 2, none⟩ = some (.int .i64 1))
        (first | exact ⟨d11, d1, d2⟩ | exact ⟨(KC2.out.fz X3.out (by simp; exact NE.out.1)).c 11, (KL2.out.fz X3.out (by simp; exact NE.out.2)).c 1, (KL2.out.fz X3.out (by simp; exact NE.out.2)).c 2⟩)
        (first
          | (go_at_call 264
             go_loud (refine GN.out.mono ?_; rintro e w3 ⟨rfl, p3, x3⟩)
             have X3 : Keep (Fz wr w3 [pb]) := ⟨((Fz.drew wr 1).trans x3).mono (by simp)⟩
             have P3 := Keep.mk p3
             clear x3 p3)
          | fail)
      go_wp2_with fail
      go_end0
      exact ⟨rfl, P3.out, (KX.out.trans X3.out).mono (by simp)⟩
set_option maxRecDepth 100000 in
set_option maxHeartbeats 3200000 in
theorem died_row (g cc : Nat) (s e0 : Int) (h : Bk w c (conD p1 p2 k sd rv pb lg wb out) 191) (hl : Bk w lg (legC fl) 212) (hf : Bk w fl (flC q times state rcv tries at_ has since twice fout) 286) (hq : Bk w q #[.slice (some ⟨g, 0, none⟩) 1 cc, .int .u32 e0] 346) (hc : ∀ j u, (synP s).toList[j]? = some u → w.cell? ⟨g, j, none⟩ = some u) (hgl : g < w.heap.size) (hp : Bk w pb pathC 303) :
    Calls Tryz.prog 188 #[.pointer (some ⟨c, 0, none⟩), .pointer (some ⟨lg, 0, none⟩), .int .i64 13] w fun e w' => e = .returned (.tuple #[]) ∧ Bk w' pb pathG 303 ∧ Bk w' c (conE p1 p2 k 0 0 13 sd rv pb lg wb out) 191 ∧ Fz w w' [pb, c] := by
  have LO := Keep.mk (lost_row g cc s e0 h hl hf hq hc hgl hp)
  have HC := Keep.mk h
  have NE : Keep (c ≠ pb) := ⟨h.ne_ty hp (by decide)⟩
  clear h hl hf hq hc hgl hp
  go_enter Tryz.func188, Tryz.ntmps188
  go_wp2_with (first
    | (go_at_call 205
       go_loud (refine LO.out.mono ?_; rintro e w1 ⟨rfl, p1', x1⟩)
       have C1 := HC.out.fz x1 (by simp; exact NE.out)
       have c27 : w1.cell? ⟨c, 27, none⟩ = some (.int .i64 0) := C1.c 27
       have f27 := C1.free 27
       have C2 : Bk (w1.setCell ⟨c, 27, none⟩ (.int .i64 13)) c (conE p1 p2 k 0 0 13 sd rv pb lg wb out) 191 := C1.set 27 _
       have c28 : (w1.setCell ⟨c, 27, none⟩ (.int .i64 13)).cell? ⟨c, 28, none⟩ = some (.bool false) := C2.c 28
       have P1 := Keep.mk p1'
       have X1 := Keep.mk x1
       have KC2 := Keep.mk C2
       clear p1' x1 C1 C2)
    | fail)
  go_end0
  exact ⟨rfl, P1.out.fz (Fz.set w1 c 27 _) (by simp; exact fun e => NE.out e.symm), KC2.out, (X1.out.trans (Fz.set w1 c 27 _)).mono (by simp)⟩
set_option maxRecDepth 100000 in
set_option maxHeartbeats 3200000 in
/-- The leg's timer, up to four times. -/
theorem cexpire_live (n : Nat) (hn : n ≤ 3) (s e0 tick : Int) (g cc : Nat) (h : Bk w c (conD p1 p2 k sd rv pb lg wb out) 191) (hl : Bk w lg (legC fl) 212) (hf : Bk w fl (flC q (n : Int) 1 rcv (n : Int) tick true since twice (.slice none 0 0)) 286) (hq : Bk w q #[.slice (some ⟨g, 0, none⟩) 1 cc, .int .u32 e0] 346)
    (hgf : g ≠ fl) (hc : ∀ j u, (synP s).toList[j]? = some u → w.cell? ⟨g, j, none⟩ = some u) (hgl : g < w.heap.size) (h1 : -4611686018427387904 < tick) (h2 : tick < 4611686018427387904) :
    Calls Tryz.prog 131 #[.pointer (some ⟨c, 0, none⟩), .int .i64 0, .int .i64 tick] w fun e w' => e = .returned (.tuple #[]) ∧ ∃ g' c', One w w' 338 9 g' c' (synO s) ∧ Bk w' fl (flC q ((n + 1 : Nat) : Int) 1 rcv ((n + 1 : Nat) : Int) (tick + wt (n + 1)) true since true (.slice (some ⟨g', 0, none⟩) 1 c')) 286 ∧ Fz w w' [fl] := by
  have c12 : w.cell? ⟨c, 12, none⟩ = some (.pointer (some ⟨lg, 0, none⟩)) := h.c 12
  have c0 : w.cell? ⟨lg, 0, none⟩ = some (.pointer (some ⟨fl, 0, none⟩)) := hl.c 0
  have EX := Keep.mk (expire_n n hn s e0 tick g cc hf hq (hf.ne_ty hq (by decide)) hgf hc hgl h1 h2)
  have NL : Keep (lg ≠ fl) := ⟨hl.ne_ty hf (by decide)⟩
  have HL := Keep.mk hl
  clear h hl hf hq hgf hc hgl h1 h2
  go_enter Tryz.func131, Tryz.ntmps131
  go_wp2_with (first
    | (go_at_call 204
       go_loud (refine EX.out.mono ?_; rintro e w1 ⟨rfl, g', c', o1, f1, x1⟩)
       have A1 := Fz.alloc w1 (.cells (heardZ false) 247)
       have O1 := Keep.mk (o1.fz A1 (by simp))
       have F1 := Keep.mk (f1.fz A1 (by simp))
       have X1 : Keep (Fz w (w1.alloc (.cells (heardZ false) 247)) [fl]) := ⟨(x1.trans A1).mono (by simp)⟩
       have d3 : (w1.alloc (.cells (heardZ false) 247)).cell? ⟨w1.heap.size, 3, none⟩ = some (.bool false) := by rw [World.cell?_alloc_new]; rfl
       have OV := Keep.mk (over_any lg fl q _ 1 rcv _ _ true since true _ _ (HL.out.fz X1.out (by simp; exact NL.out)) F1.out)
       clear o1 f1 x1 A1)
    | (go_at_call 157
       go_loud (refine OV.out.mono ?_; rintro e X ⟨rfl, hX⟩)
       rw [hX]
       clear hX)
    | fail)
  try go_end0
  exact ⟨rfl, g', c', O1.out, F1.out, X1.out⟩
set_option maxRecDepth 100000 in
set_option maxHeartbeats 3200000 in
/-- The fifth time the leg dies. -/
theorem cexpire_dead (s e0 tick : Int) (g cc : Nat) (h : Bk w c (conD p1 p2 k sd rv pb lg wb out) 191) (hl : Bk w lg (legC fl) 212) (hf : Bk w fl (flC q times 1 rcv 4 tick true since twice (.slice none 0 0)) 286) (hq : Bk w q #[.slice (some ⟨g, 0, none⟩) 1 cc, .int .u32 e0] 346)
    (hgf : g ≠ fl) (hc : ∀ j u, (synP s).toList[j]? = some u → w.cell? ⟨g, j, none⟩ = some u) (hgl : g < w.heap.size) (hp : Bk w pb pathC 303) :
    Calls Tryz.prog 131 #[.pointer (some ⟨c, 0, none⟩), .int .i64 0, .int .i64 tick] w fun e w' => e = .returned (.tuple #[]) ∧ Bk w' c (conE p1 p2 k 0 0 13 sd rv pb lg wb out) 191 ∧ Bk w' fl (flC q times 11 rcv 5 0 false since twice (.slice none 0 0)) 286 ∧ Fz w w' [fl, pb, c] := by
  have c12 : w.cell? ⟨c, 12, none⟩ = some (.pointer (some ⟨lg, 0, none⟩)) := h.c 12
  have c0 : w.cell? ⟨lg, 0, none⟩ = some (.pointer (some ⟨fl, 0, none⟩)) := hl.c 0
  have EX := Keep.mk (expire_dead tick hf)
  have NL : Keep (lg ≠ fl ∧ c ≠ fl ∧ q ≠ fl ∧ pb ≠ fl ∧ g ≠ fl ∧ g < w.heap.size) := ⟨hl.ne_ty hf (by decide), h.ne_ty hf (by decide), hq.ne_ty hf (by decide), hp.ne_ty hf (by decide), hgf, hgl⟩
  have HC := Keep.mk h
  have HL := Keep.mk hl
  have HQ := Keep.mk hq
  have HP := Keep.mk hp
  have HR := Lib.hid hc
  clear h hl hf hq hgf hc hgl hp
  go_enter Tryz.func131, Tryz.ntmps131
  go_wp2_with (first
    | (go_at_call 204
       go_loud (refine EX.out.mono ?_; rintro e w1 ⟨rfl, f1, x1⟩)
       have A1 := Fz.alloc w1 (.cells (heardZ true) 247)
       have F1 := Keep.mk (f1.fz A1 (by simp))
       have X1 : Keep (Fz w (w1.alloc (.cells (heardZ true) 247)) [fl]) := ⟨(x1.trans A1).mono (by simp)⟩
       have d3 : (w1.alloc (.cells (heardZ true) 247)).cell? ⟨w1.heap.size, 3, none⟩ = some (.bool true) := by rw [World.cell?_alloc_new]; rfl
       have DI := Keep.mk (died_row g cc s e0 (HC.out.fz X1.out (by simp; exact NL.out.2.1)) (HL.out.fz X1.out (by simp; exact NL.out.1)) F1.out (HQ.out.fz X1.out (by simp; exact NL.out.2.2.1)) (fun j u hu => (World.cell?_of_block (X1.out.block g NL.out.2.2.2.2.2 (by simp; exact NL.out.2.2.2.2.1))).trans (HR.out j u hu)) (Nat.lt_of_lt_of_le NL.out.2.2.2.2.2 X1.out.size) (HP.out.fz X1.out (by simp; exact NL.out.2.2.2.1)))
       clear f1 x1 A1)
    | (go_at_call 188
       go_loud (refine DI.out.mono ?_; rintro e w2 ⟨rfl, p2', c2', x2⟩)
       have C2 := Keep.mk c2'
       have F2 := Keep.mk (F1.out.fz x2 (by simp; exact ⟨fun e => NL.out.2.2.2.1 e.symm, fun e => NL.out.2.1 e.symm⟩))
       have X2 : Keep (Fz w w2 [fl, pb, c]) := ⟨(X1.out.trans x2).mono (by simp)⟩
       clear p2' c2' x2)
    | fail)
  try go_end0
  exact ⟨rfl, C2.out, F2.out, X2.out⟩
end
end Go.Proofs.YtfjdhdeiaakbaaaGreatDoor
/-
  A connection whose one leg is dead: it fails; its timers are struck.
-/
namespace Go.Proofs.YtfjdhdeiaakbaaaGreatDoor
open Go.RowKit

section
variable {w0 w : World} {base wb wm nb : Nat} {S : Nat → Value} {now : Int} {c sd st rv mp st2 lg fl pb q : Nat} {p1 p2 k : Int} {out fout : Value} {times rcv tries at_ since : Int} {has twice : Bool}
set_option maxRecDepth 100000 in
set_option maxHeartbeats 3200000 in
theorem fail_dead (tick : Int) (h : Bk w c (conE p1 p2 k 0 0 13 sd rv pb lg wb out) 191) (hl : Bk w lg (legC fl) 212) (hf : Bk w fl (flC q times 11 rcv tries at_ has since twice fout) 286) :
    Calls Tryz.prog 133 #[.pointer (some ⟨c, 0, none⟩), .int .i64 13, .int .i64 tick, .slice none 0 0] w fun e w' => e = .returned (.tuple #[]) ∧ Bk w' c (conE p1 p2 k 8 13 13 sd rv pb lg wb out) 191 ∧ Fz w w' [c] := by
  have c7 : w.cell? ⟨c, 7, none⟩ = some (.int .i64 0) := h.c 7
  have c8 : w.cell? ⟨c, 8, none⟩ = some (.int .i64 0) := h.c 8
  have f8 := h.free 8
  have n1 : lg ≠ c := hl.ne_ty h (by decide)
  have n2 : fl ≠ c := hf.ne_ty h (by decide)
  obtain ⟨w1, hw1⟩ : ∃ w1, w.setCell ⟨c, 8, none⟩ (.int .i64 13) = w1 := ⟨_, rfl⟩
  have E1 : Fz w w1 [c] := hw1 ▸ Fz.set w c 8 _
  have B1 : Bk w1 c (conE p1 p2 k 0 13 13 sd rv pb lg wb out) 191 := hw1 ▸ h.set 8 _
  have OV := Keep.mk (over_any lg fl q times 11 rcv tries at_ has since twice fout w1 (hl.fz E1 (by simp; exact n1)) (hf.fz E1 (by simp; exact n2)))
  have MV := Keep.mk (move_abort tick B1 (hl.fz E1 (by simp; exact n1)) (hf.fz E1 (by simp; exact n2)) n1 n2)
  have KE := Keep.mk E1
  have l0 : w1.cell? ⟨c, 12, none⟩ = some (.pointer (some ⟨lg, 0, none⟩)) := B1.c 12
  have l1 : w1.cell? ⟨c, 13, none⟩ = some (.pointer none) := B1.c 13
  have l2 : w1.cell? ⟨c, 14, none⟩ = some (.pointer none) := B1.c 14
  have l3 : w1.cell? ⟨c, 15, none⟩ = some (.pointer none) := B1.c 15
  have l4 : w1.cell? ⟨c, 16, none⟩ = some (.pointer none) := B1.c 16
  have l5 : w1.cell? ⟨c, 17, none⟩ = some (.pointer none) := B1.c 17
  have l6 : w1.cell? ⟨c, 18, none⟩ = some (.pointer none) := B1.c 18
  have l7 : w1.cell? ⟨c, 19, none⟩ = some (.pointer none) := B1.c 19
  clear h hl hf E1 B1 n1 n2
  go_enter Tryz.func133, Tryz.ntmps133
  go_wp2_with (first | (rw [hw1]; fail) | fail)
  try rw [hw1]
  try go_wp2_with fail
  clear l0 l1 l2 l3 l4 l5 l6 l7 c7 c8 f8 hw1
  go_loopw [23] (fun i wr => ∃ j : Nat, j ≤ 8 ∧ i = .int .i64 j ∧ wr = w1) (fun i _ => 8 - (intOf i).toNat)
  case atStart => exact ⟨0, by omega, rfl, rfl⟩
  case round =>
    obtain ⟨j, hj, rfl, rfl⟩ := hrel
    rcases Nat.lt_or_ge j 8 with hlt | hge
    · have hji : ((j : Nat) : Int) < 8 := by omega
      rcases Nat.eq_zero_or_pos j with rfl | hpos
      · have ix := index_leg (legsA lg) 0 _ rfl (by omega) wr
        rw [show ((0 : Nat) : Int) = 0 from rfl] at ix
        go_wp2_with (first
          | (go_at_call 157
             go_loud (refine OV.out.mono ?_; rintro e X ⟨rfl, hX⟩)
             rw [hX]
             clear hX)
          | fail)
        go_roundw
        case rel => exact ⟨1, by omega, by go_num, by first | rfl | trivial⟩
        case measure => simp [intOf]
      · have ix := index_leg (legsA lg) j _ (legsA_nil hpos hlt) hlt wr
        clear hpos
        go_wp2_with (first
          | (go_at_call 157
             go_loud (refine (over_nil _).mono ?_; rintro e X ⟨rfl, hX⟩)
             rw [hX]
             clear hX)
          | fail)
        go_roundw
        case rel => exact ⟨j + 1, by omega, by go_num, by first | rfl | trivial⟩
        case measure => simp [intOf] <;> omega
    · obtain rfl : j = 8 := by omega
      go_wp2_with (first
        | (go_at_call 161
           go_loud (refine MV.out.mono ?_; rintro e w2 ⟨rfl, c2, x2⟩)
           have C2 := Keep.mk c2
           have X2 := Keep.mk ((KE.out.trans x2).mono (cs' := [c]) (by simp))
           clear c2 x2)
        | fail)
      go_end0
      exact ⟨rfl, C2.out, X2.out⟩
set_option maxRecDepth 100000 in
theorem alone_dead (tick : Int) (h : Bk w c (conE p1 p2 k 0 0 13 sd rv pb lg wb out) 191) (hl : Bk w lg (legC fl) 212) (hf : Bk w fl (flC q times 11 rcv tries at_ has since twice fout) 286) :
    Calls Tryz.prog 211 #[.pointer (some ⟨c, 0, none⟩), .int .i64 tick] w fun e w' => e = .returned (.tuple #[]) ∧ Bk w' c (conE p1 p2 k 8 13 13 sd rv pb lg wb out) 191 ∧ Fz w w' [c] := by
  have c7 : w.cell? ⟨c, 7, none⟩ = some (.int .i64 0) := h.c 7
  have c27 : w.cell? ⟨c, 27, none⟩ = some (.int .i64 13) := h.c 27
  have LG := Keep.mk (legs_none h hl hf)
  have FD := Keep.mk (fail_dead tick h hl hf)
  clear h hl hf
  go_enter Tryz.func211, Tryz.ntmps211
  go_wp2_with (first
    | (go_at_call 214
       go_loud (refine LG.out.mono ?_; rintro e X ⟨rfl, hX⟩)
       rw [hX]
       clear hX)
    | (go_at_call 133
       go_loud (refine FD.out.mono ?_; rintro e w2 ⟨rfl, c2, x2⟩)
       have C2 := Keep.mk c2
       have X2 := Keep.mk x2
       clear c2 x2)
    | fail)
  go_end0
  exact ⟨rfl, C2.out, X2.out⟩
set_option maxRecDepth 100000 in
set_option maxHeartbeats 6400000 in
theorem arm_closed (tick : Int) (h : Cs w0 w base wb wm nb S now [] c sd st rv mp st2 lg fl (conE p1 p2 k 8 13 13 sd rv pb lg wb out) (flC q times 11 rcv tries at_ has since twice fout)) :
    Calls Tryz.prog 212 #[.pointer (some ⟨c, 0, none⟩), .int .i64 tick] w fun e w' => e = .returned (.tuple #[]) ∧ Below w.heap.size w w' := by
  have c22 : w.cell? ⟨c, 22, none⟩ = some (.pointer (some ⟨wb, 0, none⟩)) := h.cn.c 22
  have l0 : w.cell? ⟨c, 12, none⟩ = some (.pointer (some ⟨lg, 0, none⟩)) := h.cn.c 12
  have l1 : w.cell? ⟨c, 13, none⟩ = some (.pointer none) := h.cn.c 13
  have l2 : w.cell? ⟨c, 14, none⟩ = some (.pointer none) := h.cn.c 14
  have l3 : w.cell? ⟨c, 15, none⟩ = some (.pointer none) := h.cn.c 15
  have l4 : w.cell? ⟨c, 16, none⟩ = some (.pointer none) := h.cn.c 16
  have l5 : w.cell? ⟨c, 17, none⟩ = some (.pointer none) := h.cn.c 17
  have l6 : w.cell? ⟨c, 18, none⟩ = some (.pointer none) := h.cn.c 18
  have l7 : w.cell? ⟨c, 19, none⟩ = some (.pointer none) := h.cn.c 19
  have NW := Keep.mk (now_wl h.wl)
  have HC := Keep.mk h
  clear h
  go_enter Tryz.func212, Tryz.ntmps212
  go_wp2_with (first
    | (go_at_call 129
       go_loud (refine NW.out.mono ?_; rintro e X ⟨rfl, hX⟩)
       rw [hX]
       clear hX)
    | fail)
  clear c22 l0 l1 l2 l3 l4 l5 l6 l7 NW
  go_loopw [22] (fun i wr => ∃ j : Nat, j ≤ 8 ∧ i = .int .i64 j ∧ Below w.heap.size w wr) (fun i _ => 8 - (intOf i).toNat)
  case atStart => exact ⟨0, by omega, rfl, Below.refl _ _⟩
  case round =>
    obtain ⟨j, hj, rfl, hb⟩ := hrel
    have hk := HC.out.quiet hb
    have d22 : wr.cell? ⟨c, 22, none⟩ = some (.pointer (some ⟨wb, 0, none⟩)) := hk.cn.c 22
    rcases Nat.lt_or_ge j 8 with hlt | hge
    · have hji : ((j : Nat) : Int) < 8 := by omega
      have C2 := hk.quiet ((Below.refl _ wr).alloc (Nat.le_refl _) (.cells #[.int .i64 (j : Int)] 3))
      have CW := Keep.mk (cancel_void C2.wl wr.heap.size 1 1 (fun _ => (j : Int)) (by simp) (fun i hi => by
        obtain rfl : i = 0 := by omega
        exact ⟨cells_one wr (j : Int), wfI_of (by omega) (by omega)⟩) (by omega))
      have HB := Keep.mk hb
      rcases Nat.eq_zero_or_pos j with rfl | hpos
      · have ix := index_leg (legsA lg) 0 _ rfl (by omega) wr
        rw [show ((0 : Nat) : Int) = 0 from rfl] at ix
        have OV := Keep.mk (over_any lg fl q times 11 rcv tries at_ has since twice fout wr hk.leg hk.flw)
        clear hk C2 hb
        go_wp2_with (first
          | (go_at_call 157
             go_loud (refine OV.out.mono ?_; rintro e X ⟨rfl, hX⟩)
             rw [hX]
             clear hX)
          | (go_at_call 229
             go_loud (refine CW.out.mono ?_; rintro e w3 ⟨rfl, b3⟩)
             have B3 := Keep.mk ((HB.out.alloc HB.out.size _).trans (b3.mono (by have := HB.out.size; simp; omega)))
             clear b3)
          | fail)
        go_roundw
        case rel => exact ⟨1, by omega, by go_num, B3.out⟩
        case measure => simp [intOf]
      · have ix := index_leg (legsA lg) j _ (legsA_nil hpos hlt) hlt wr
        have HP := Keep.mk hpos
        clear hk C2 hb hpos
        go_wp2_with (first
          | (go_at_call 157
             go_loud (refine (over_nil _).mono ?_; rintro e X ⟨rfl, hX⟩)
             rw [hX]
             clear hX)
          | (go_at_call 229
             go_loud (refine CW.out.mono ?_; rintro e w3 ⟨rfl, b3⟩)
             have B3 := Keep.mk ((HB.out.alloc HB.out.size _).trans (b3.mono (by have := HB.out.size; simp; omega)))
             clear b3)
          | fail)
        go_roundw
        case rel => exact ⟨j + 1, by omega, by go_num, B3.out⟩
        case measure => simp [intOf] <;> omega
    · obtain rfl : j = 8 := by omega
      have d7 : wr.cell? ⟨c, 7, none⟩ = some (.int .i64 8) := hk.cn.c 7
      have C2 := hk.quiet ((Below.refl _ wr).alloc (Nat.le_refl _) (.cells #[.int .i64 8, .int .i64 9, .int .i64 10, .int .i64 11, .int .i64 12] 3))
      have B5 := Bk.new wr #[.int .i64 8, .int .i64 9, .int .i64 10, .int .i64 11, .int .i64 12] 3
      have CW := Keep.mk (cancel_void C2.wl wr.heap.size 5 5 (fun i => 8 + (i : Int)) (by simp) (fun i hi => by
        refine ⟨(B5.c i).trans ?_, wfI_of (by omega) (by omega)⟩
        rcases (by omega : i = 0 ∨ i = 1 ∨ i = 2 ∨ i = 3 ∨ i = 4) with rfl | rfl | rfl | rfl | rfl <;> rfl) (by omega))
      have HB := Keep.mk hb
      clear hk C2 hb B5
      go_wp2_with (first
        | (go_at_call 229
           go_loud (refine CW.out.mono ?_; rintro e w3 ⟨rfl, b3⟩)
           have B3 := Keep.mk ((HB.out.alloc HB.out.size _).trans (b3.mono (by have := HB.out.size; simp; omega)))
           clear b3)
        | fail)
      try simp only [Exit.inBlock, Exit.then]
      first | (go_end0; exact ⟨rfl, B3.out⟩) | exact bodyPost_ret (results_none rfl _ _ _) rfl ⟨rfl, B3.out⟩
set_option maxRecDepth 100000 in
set_option maxHeartbeats 6400000 in
theorem settle_dead (tick s : Int) (ov : Value) (gos : List Nat) (h : Cs w0 w base wb wm nb S now [] c sd st rv mp st2 lg fl (conE p1 p2 k 0 0 13 sd rv pb lg wb ov) (flC q times 11 rcv tries at_ has since twice (.slice none 0 0))) (hn : 0 ≤ now) (hn2 : now < 1152921504606846976)
    (hov : Outs w w0.heap.size p1 p2 k s ov gos) (hfree : ∀ kb, (ov.ownBlock = some kb ∨ kb ∈ gos) → ¬ Owns wb wm S kb) :
    Calls Tryz.prog 132 #[.pointer (some ⟨c, 0, none⟩), .int .i64 tick] w fun e w' => e = .returned (.tuple #[]) ∧ ∃ S', Cs w0 w' base wb wm nb S' now [] c sd st rv mp st2 lg fl (conE p1 p2 k 8 13 13 sd rv pb lg wb ov) (flC q times 11 rcv tries at_ has since twice (.slice none 0 0)) ∧
      Outs w' w0.heap.size p1 p2 k s ov gos := by
  have c9 : w.cell? ⟨c, 9, none⟩ = some (.pointer (some ⟨sd, 0, none⟩)) := h.cn.c 9
  have c10 : w.cell? ⟨c, 10, none⟩ = some (.pointer (some ⟨rv, 0, none⟩)) := h.cn.c 10
  have DN := Keep.mk (done_no w h.snd)
  have EN := Keep.mk (ended_no w h.rcv)
  have HC := Keep.mk h
  have HN : Keep (0 ≤ now ∧ now < 1152921504606846976) := ⟨hn, hn2⟩
  have HOV := Keep.mk hov
  have HFR := Keep.mk hfree
  clear h hn hn2 hov hfree
  go_enter Tryz.func132, Tryz.ntmps132
  go_wp2_with (first
    | (go_at_call 206
       go_loud (refine DN.out.mono ?_; rintro e X ⟨rfl, hX⟩)
       rw [hX]
       clear hX)
    | (go_at_call 207
       go_loud (refine EN.out.mono ?_; rintro e w1 ⟨rfl, n1, hw1⟩)
       have hb1 : Below w.heap.size w w1 := by rw [hw1]; exact below_dn w n1
       have C1 := Keep.mk (HC.out.quiet hb1)
       have M1 : Keep (Fm w w1 wb wm S S) := ⟨Fm.quiet hb1 _ _ _⟩
       have PI := Keep.mk (pump_any (c := c) tick (C1.out.cn.c 7))
       have TE := Keep.mk (tellend_any tick C1.out rfl rfl HN.out.1 (by have := HN.out.2; omega) (by simp) rfl)
       clear hw1 hb1)
    | (go_at_call 208
       go_loud (refine PI.out.mono ?_; rintro e X ⟨rfl, hX⟩)
       rw [hX]
       clear hX)
    | (go_at_call 209
       go_loud (refine TE.out.mono ?_; rintro e w3 ⟨rfl, S3, c3, m3⟩)
       rw [show dropH 8 [] = [] from rfl] at c3
       have C3 := Keep.mk c3
       have M3 := Keep.mk (M1.out.trans m3)
       have l0 : w3.cell? ⟨c, 12, none⟩ = some (.pointer (some ⟨lg, 0, none⟩)) := C3.out.cn.c 12
       have l1 : w3.cell? ⟨c, 13, none⟩ = some (.pointer none) := C3.out.cn.c 13
       have l2 : w3.cell? ⟨c, 14, none⟩ = some (.pointer none) := C3.out.cn.c 14
       have l3 : w3.cell? ⟨c, 15, none⟩ = some (.pointer none) := C3.out.cn.c 15
       have l4 : w3.cell? ⟨c, 16, none⟩ = some (.pointer none) := C3.out.cn.c 16
       have l5 : w3.cell? ⟨c, 17, none⟩ = some (.pointer none) := C3.out.cn.c 17
       have l6 : w3.cell? ⟨c, 18, none⟩ = some (.pointer none) := C3.out.cn.c 18
       have l7 : w3.cell? ⟨c, 19, none⟩ = some (.pointer none) := C3.out.cn.c 19
       clear c3 m3)
    | fail)
  clear c9 c10 l0 l1 l2 l3 l4 l5 l6 l7
  have OV3 : Keep (Outs w3 w0.heap.size p1 p2 k s ov gos) := ⟨HOV.out.fw M3.out.fw fun kb e => ⟨HFR.out kb e, by simp⟩⟩
  have FL := Keep.mk (flush_none (c := c) C3.out.leg C3.out.flw)
  go_loopw [52] (fun i wr => (i = .int .i64 0 ∧ wr = w3) ∨ ∃ j : Nat, 0 < j ∧ j ≤ 8 ∧ i = .int .i64 j ∧ Keep (Bk wr fl (flC q times 11 rcv tries at_ has since twice (.slice none 0 0)) 286 ∧ Fz w3 wr [fl])) (fun i _ => 8 - (intOf i).toNat)
  case atStart => exact .inl ⟨rfl, rfl⟩
  case round =>
    rcases hrel with ⟨rfl, rfl⟩ | ⟨j, hpos, hj, rfl, HP⟩
    · have ix := index_leg (legsA lg) 0 _ rfl (by omega) wr
      rw [show ((0 : Nat) : Int) = 0 from rfl] at ix
      go_wp2_with (first
        | (go_at_call 210
           go_loud (refine FL.out.mono ?_; rintro e w4 ⟨rfl, f4, x4⟩)
           have FL4 := Keep.mk (And.intro f4 x4)
           clear f4 x4)
        | fail)
      go_roundw
      case rel => exact .inr ⟨1, by omega, by omega, by go_num, FL4⟩
      case measure => simp [intOf]
    · rcases Nat.lt_or_ge j 8 with hlt | hge
      · have ix := index_leg (legsA lg) j _ (legsA_nil hpos hlt) hlt wr
        have hji : ((j : Nat) : Int) < 8 := by omega
        have HPP := Keep.mk hpos
        clear hpos
        go_wp2_with fail
        go_roundw
        case rel => exact .inr ⟨j + 1, by omega, by omega, by go_num, HP⟩
        case measure => simp [intOf] <;> omega
      · obtain rfl : j = 8 := by omega
        obtain ⟨f4, x4⟩ := HP.out
        have C4 := C3.out.own (l := []) (x4.mono (fun x _ hx => by simp at hx; subst hx; simp)) (C3.out.cn.fz x4 (by simp; exact C3.out.cn.ne_ty C3.out.flw (by decide))) f4 (by simp)
        have OV4 := Keep.mk (OV3.out.keep (fun kb e => x4.block kb (OV3.out.lt' e) (by simp; exact OV3.out.ne' C3.out.flw (by decide) (by decide) e)))
        have AL := Keep.mk (alone_dead tick C4.cn C4.leg C4.flw)
        have K4 := Keep.mk C4
        clear HP C4 f4 x4 FL
        go_wp2_with (first
          | (go_at_call 211
             go_loud (refine AL.out.mono ?_; rintro e w5 ⟨rfl, c5, x5⟩)
             have K5 := Keep.mk (K4.out.own (l := []) (x5.mono (fun x _ hx => by simp at hx; subst hx; simp)) c5 (K4.out.flw.fz x5 (by simp; exact K4.out.flw.ne_ty K4.out.cn (by decide))) (by simp))
             have OV5 := Keep.mk (OV4.out.keep (fun kb e => x5.block kb (OV4.out.lt' e) (by simp; exact OV4.out.ne' K4.out.cn (by decide) (by decide) e)))
             have AR := Keep.mk (arm_closed tick K5.out)
             clear c5 x5)
          | (go_at_call 212
             go_loud (refine AR.out.mono ?_; rintro e w6 ⟨rfl, b6⟩)
             have K6 := Keep.mk (K5.out.quiet b6)
             have OV6 := Keep.mk (OV5.out.keep (fun kb e => b6.block kb (OV5.out.lt' e)))
             clear b6)
          | fail)
        go_end0
        exact ⟨rfl, S3, K6.out, OV6.out⟩
end
end Go.Proofs.YtfjdhdeiaakbaaaGreatDoor
/-
  A connection that hears nothing: its ticks, as long as it lives.
-/
namespace Go.Proofs.YtfjdhdeiaakbaaaGreatDoor
open Go.RowKit

theorem adv_idle {n t : Int} {L' O : List Due} (h : Adv n [(0, t)] L' O) (ht : n < t) : L' = [(0, t)] ∧ O = [] := by
  refine ⟨by rw [h.rest]; simp [ht], ?_⟩
  have := h.perm
  rw [show ([((0 : Int), t)].filter fun d => decide (d.2 ≤ n)) = [] by simp; omega] at this
  exact List.perm_nil.1 this
theorem adv_due {n t : Int} {L' O : List Due} (h : Adv n [(0, t)] L' O) (ht : t ≤ n) : L' = [] ∧ O = [(0, t)] := by
  refine ⟨by rw [h.rest]; simp; omega, ?_⟩
  have := h.perm
  rw [show ([((0 : Int), t)].filter fun d => decide (d.2 ≤ n)) = [(0, t)] by simp [ht]] at this
  exact List.perm_singleton.1 this
/-- The ticks at which it sends again, from the dial on. -/
def dlN : Nat → Int
  | 0 => 4
  | 1 => 12
  | 2 => 28
  | 3 => 44
  | _ => 60
theorem dlN_step {n : Nat} (h : n ≤ 3) : dlN n + wt (n + 1) = dlN (n + 1) := by
  rcases (by omega : n = 0 ∨ n = 1 ∨ n = 2 ∨ n = 3) with rfl | rfl | rfl | rfl <;> rfl
theorem dlN_bd (n : Nat) : 4 ≤ dlN n ∧ dlN n ≤ 60 := by
  unfold dlN
  split <;> omega
theorem dlN_last {n : Nat} (h : n ≤ 4) (h2 : 45 ≤ dlN n) : n = 4 := by
  rcases (by omega : n = 0 ∨ n = 1 ∨ n = 2 ∨ n = 3 ∨ n = 4) with rfl | rfl | rfl | rfl | rfl
  all_goals first | rfl | (simp [dlN] at h2)
theorem dlN_lt {n : Nat} (h : n ≤ 3) : dlN n ≤ 44 ∧ dlN n < dlN (n + 1) := by
  rcases (by omega : n = 0 ∨ n = 1 ∨ n = 2 ∨ n = 3) with rfl | rfl | rfl | rfl <;> decide
section
variable {w0 w w1 : World} {base wb wm nb nb' : Nat} {S S' : Nat → Value} {now now' : Int} {L L' : List Due} {c sd st rv mp st2 lg fl pb q g2 c2 : Nat} {p1 p2 k s e0 : Int} {ov ov' : Value} {gos gos' : List Nat} {farr farr' : Array Value}
theorem Dl.next (h : Dl w0 w base wb wm nb S now L c sd st rv mp st2 lg fl pb q g2 p1 p2 k s e0 c2 ov gos farr) (F : Fw w w1 wb wm S S' (c :: fl :: ov.ownBlock.toList)) (cs' : Cs w0 w1 base wb wm nb' S' now' L' c sd st rv mp st2 lg fl (conD p1 p2 k sd rv pb lg wb ov') farr') (o' : Outs w1 w0.heap.size p1 p2 k s ov' gos')
    (f' : ∀ kb, (ov'.ownBlock = some kb ∨ kb ∈ gos') → ¬ Owns wb wm S' kb) : Dl w0 w1 base wb wm nb' S' now' L' c sd st rv mp st2 lg fl pb q g2 p1 p2 k s e0 c2 ov' gos' farr' := by
  obtain ⟨cur, hcur⟩ := h.rty
  have nin : ∀ {b : Nat} {arr : Array Value} {ty : TypeId}, Bk w b arr ty → ty ≠ 191 → ty ≠ 286 → 129 ≠ ty → b ∉ c :: fl :: ov.ownBlock.toList := fun hb h1 h2 h3 => by
    simp only [List.mem_cons, not_or, Option.mem_toList]
    exact ⟨hb.ne_ty h.cs.cn h1, hb.ne_ty h.cs.flw h2, fun e => h.outs.ne hb h3 e rfl⟩
  refine ⟨cs', o', f', h.que.fw F (h.free2 _ (by simp)).2 (nin h.que (by decide) (by decide) (by decide)), fun j u hu => (World.cell?_of_block (F.block g2 hcur.lt (h.free2 _ (by simp)).2 (nin hcur (by decide) (by decide) (by decide)))).trans (h.row j u hu), ⟨cur, hcur.fw F (h.free2 _ (by simp)).2 (nin hcur (by decide) (by decide) (by decide))⟩, h.pat.fw F (h.free2 _ (by simp)).2 (nin h.pat (by decide) (by decide) (by decide)), fun kb hk => ⟨(h.free2 kb hk).1, F.free ?_ (h.free2 kb hk).2⟩⟩
  simp only [List.mem_cons, List.not_mem_nil, or_false] at hk
  rcases hk with rfl | rfl | rfl
  · exact h.que.lt
  · exact hcur.lt
  · exact h.pat.lt
theorem Dl.wheel (h : Dl w0 w base wb wm nb S now L c sd st rv mp st2 lg fl pb q g2 p1 p2 k s e0 c2 ov gos farr) (hw : Wl w1 base wb wm nb' S' now' L') (hf : Fm w w1 wb wm S S') : Dl w0 w1 base wb wm nb' S' now' L' c sd st rv mp st2 lg fl pb q g2 p1 p2 k s e0 c2 ov gos farr :=
  h.next (hf.fw.mono (by simp)) (h.cs.wheel hw hf) (h.outs.fw hf.fw fun kb e => ⟨h.free kb e, by simp⟩) fun kb e => hf.fw.free (h.outs.lt' e) (h.free kb e)
theorem Dl.quiet (h : Dl w0 w base wb wm nb S now L c sd st rv mp st2 lg fl pb q g2 p1 p2 k s e0 c2 ov gos farr) (hB : Below w.heap.size w w1) : Dl w0 w1 base wb wm nb S now L c sd st rv mp st2 lg fl pb q g2 p1 p2 k s e0 c2 ov gos farr :=
  h.next ((Fm.quiet hB wb wm S).fw.mono (by simp)) (h.cs.quiet hB) (h.outs.keep fun kb e => hB.block kb (h.outs.lt' e)) h.free
theorem Dl.flow (h : Dl w0 w base wb wm nb S now L c sd st rv mp st2 lg fl pb q g2 p1 p2 k s e0 c2 ov gos farr) (F : Fz w w1 [fl]) (hf : Bk w1 fl farr' 286) : Dl w0 w1 base wb wm nb S now L c sd st rv mp st2 lg fl pb q g2 p1 p2 k s e0 c2 ov gos farr' :=
  h.next ((F.fw wb wm S).mono (fun x _ hx => by simp at hx; subst hx; simp)) (h.cs.own (l := []) (F.mono (fun x _ hx => by simp at hx; subst hx; simp)) (h.cs.cn.fz F (by simp; exact h.cs.cn.ne_ty h.cs.flw (by decide))) hf (by simp)) (h.outs.keep fun kb e => F.block kb (h.outs.lt' e) (by simp; exact h.outs.ne' h.cs.flw (by decide) (by decide) e)) h.free
/-- It lives, j ticks behind the dial. -/
structure Live (w0 w : World) (base wb wm c sd st rv mp st2 lg fl pb q g2 : Nat) (p1 p2 k s e0 : Int) (c2 : Nat) (at0 : Int) (j : Nat) : Prop where
  ex : ∃ (n nb : Nat) (S : Nat → Value) (ov : Value) (gos : List Nat) (since : Int) (twice : Bool), n ≤ 4 ∧ nb ≤ 1 + j ∧ gos.length = n ∧ (j : Int) < dlN n ∧
    Dl w0 w base wb wm nb S (at0 + j) [(0, at0 + dlN n)] c sd st rv mp st2 lg fl pb q g2 p1 p2 k s e0 c2 ov gos (flC q (n : Int) 1 0 (n : Int) (at0 + dlN n) true since twice (.slice none 0 0))
set_option maxRecDepth 100000 in
set_option maxHeartbeats 12800000 in
theorem ctick_live (at0 : Int) (J j0 : Nat) (hJ : J ≤ 59) (hj0 : j0 ≤ J) (a0 : 0 ≤ at0) (a1 : at0 ≤ 100000) (h : Live w0 w base wb wm c sd st rv mp st2 lg fl pb q g2 p1 p2 k s e0 c2 at0 j0) :
    Calls Tryz.prog 81 #[.pointer (some ⟨c, 0, none⟩), .int .i64 (at0 + (J : Int))] w fun e w' => e = .returned (.tuple #[]) ∧ Live w0 w' base wb wm c sd st rv mp st2 lg fl pb q g2 p1 p2 k s e0 c2 at0 J := by
  have HH := Keep.mk h
  obtain ⟨n, nb, S, ov, gos, since, twice, hn, hnb, hg, hj, hd⟩ := h.ex
  have c22 : w.cell? ⟨c, 22, none⟩ = some (.pointer (some ⟨wb, 0, none⟩)) := hd.cs.cn.c 22
  have NW := Keep.mk (now_wl hd.cs.wl)
  have q1 : IntKind.i64.wrap (at0 + (j0 : Int) + 10000) = at0 + j0 + 10000 := IntWalk.i64_in _ (by omega)
  have hm : min (at0 + (J : Int)) (at0 + (j0 : Int) + 10000) = at0 + J := by omega
  have HA : Keep (0 ≤ at0 ∧ at0 ≤ 100000 ∧ J ≤ 59 ∧ j0 ≤ J) := ⟨a0, a1, hJ, hj0⟩
  clear h hd hn hnb hg hj a0 a1 hJ
  go_enter Tryz.func81, Tryz.ntmps81
  go_wp2_with (first
    | (go_at_call 129
       go_loud (refine NW.out.mono ?_; rintro e X ⟨rfl, hX⟩)
       rw [hX]
       clear hX)
    | fail)
  clear c22 NW q1 hm
  go_loopg [] (J - j0) (fun gg wr => ∃ j : Nat, j0 ≤ j ∧ j ≤ J ∧ J - j ≤ gg ∧ Keep (Live w0 wr base wb wm c sd st rv mp st2 lg fl pb q g2 p1 p2 k s e0 c2 at0 j))
  case atStart => exact ⟨j0, by omega, HA.out.2.2.2, by omega, HH⟩
  case round =>
    obtain ⟨j, hj1, hj2, hgg, HL⟩ := hrel
    by_cases hlt : j < J
    · obtain ⟨n, nb, S, ov, gos, since, twice, hn, hnb, hg, hjd, hd⟩ := HL.out.ex
      obtain ⟨wo, hwo⟩ : ∃ wo : World, wo = wr := ⟨_, rfl⟩
      rw [← hwo] at hd ⊢
      clear hwo HL
      have b1 := HA.out.1
      have b2 := HA.out.2.1
      have b3 := HA.out.2.2.1
      have b4 := dlN_bd n
      have c22 : wo.cell? ⟨c, 22, none⟩ = some (.pointer (some ⟨wb, 0, none⟩)) := hd.cs.cn.c 22
      have NW := Keep.mk (now_wl hd.cs.wl)
      have D1 : Keep (Dl w0 wo.drew base wb wm nb S (at0 + j) [(0, at0 + dlN n)] c sd st rv mp st2 lg fl pb q g2 p1 p2 k s e0 c2 ov gos (flC q (n : Int) 1 0 (n : Int) (at0 + dlN n) true since twice (.slice none 0 0))) := ⟨hd.quiet (below_dn wo 1)⟩
      have NW2 := Keep.mk (now_wl D1.out.cs.wl)
      have hlti : at0 + (j : Int) < at0 + (J : Int) := by omega
      have q2 : IntKind.i64.wrap (at0 + (j : Int) + 1) = at0 + j + 1 := IntWalk.i64_in _ (by omega)
      have AV := advance_wl D1.out.cs.wl D1.out.cs.hs (at0 + j + 1) (by omega) (by omega) (by simp) (by simp; exact wfI_of (by omega) (by omega))
      rw [show max (at0 + (j : Int)) (min (at0 + (j : Int) + 1) (at0 + (j : Int) + 10000)) = at0 + j + 1 by omega] at AV
      have AV := Keep.mk AV
      have HB : Keep (n ≤ 4 ∧ nb ≤ 1 + j ∧ gos.length = n ∧ (j : Int) < dlN n ∧ 4 ≤ dlN n ∧ dlN n ≤ 60) := ⟨hn, hnb, hg, hjd, b4⟩
      by_cases hdu : (j : Int) + 1 < dlN n
      · have HDU := Keep.mk hdu
        clear hd hn hnb hg hjd b1 b2 b3 b4 hdu
        go_wp2_with (first
          | (go_at_call 129
             go_loud (refine NW.out.mono ?_; rintro e X ⟨rfl, hX⟩)
             rw [hX]
             clear hX)
          | fail)
        go_region_held3 (fun W => W.cell? ⟨c, 22, none⟩ = some (.pointer (some ⟨wb, 0, none⟩)))
          (first | exact D1.out.cs.cn.c 22 | exact D2.out.cs.cn.c 22)
          (first
            | (go_at_call 129
               go_loud (refine NW2.out.mono ?_; rintro e X ⟨rfl, hX⟩)
               rw [hX]
               clear hX)
            | (go_at_call 130
               go_loud (refine AV.out.mono ?_; rintro e w2 ⟨v, S2, L2, O2, rfl, wl2, be2, nw2, fm2, ad2⟩)
               obtain ⟨hL2, hO2⟩ := adv_idle ad2 (by have := HDU.out; omega)
               subst hL2 hO2
               obtain ⟨A2, k2, rfl, _⟩ := own_slice be2.own
               have D2 := Keep.mk (D1.out.wheel wl2 fm2)
               have NW3 := Keep.mk (now_wl D2.out.cs.wl)
               clear wl2 be2 nw2 fm2 ad2)
            | fail)
        go_wp2_with fail
        go_loopw [36] (fun i wi => i = .int .i64 0 ∧ wi = w2) (fun i _ => 1 - (intOf i).toNat)
        case atStart => exact ⟨rfl, rfl⟩
        case round =>
          obtain ⟨rfl, rfl⟩ := hrel
          have d22 : wr.cell? ⟨c, 22, none⟩ = some (.pointer (some ⟨wb, 0, none⟩)) := D2.out.cs.cn.c 22
          have SD := settle_dial (at0 + j + 1) s _ ov gos (fun _ g' => g' = gos) D2.out.cs (by have := HA.out; omega) (by have := HA.out; have := HB.out; omega) (by simp) (by simp) (by have := HA.out; have := HB.out; omega) (by have := HA.out; have := HB.out; omega) D2.out.outs D2.out.free (fun w3 S3 c3 m3 => by
            refine (flush_nil s c3.cn c3.leg c3.flw (c3.cn.ne_ty c3.flw (by decide)) (D2.out.outs.fw m3.fw fun kb e => ⟨D2.out.free kb e, by simp⟩)).mono ?_
            rintro e w9 ⟨rfl, hf⟩
            exact ⟨rfl, ov, gos, hf, rfl⟩)
          rw [show max (at0 + dlN n) (at0 + (j : Int) + 1 + 1) = at0 + dlN n by have := HDU.out; omega] at SD
          have SD := Keep.mk SD
          go_wp2_with (first
            | (go_at_call 129
               go_loud (refine NW3.out.mono ?_; rintro e X ⟨rfl, hX⟩)
               rw [hX]
               clear hX)
            | (go_at_call 132
               go_loud (refine SD.out.mono ?_; rintro e w4 ⟨rfl, S4, ov4, gos4, c4, o4, rfl, f4, x4⟩)
               have D4 := Keep.mk (D2.out.next x4 c4 o4 f4)
               clear c4 o4 f4 x4)
            | fail)
          go_roundg (J - (j + 1))
          case measure => omega
          case rel => exact ⟨j + 1, by omega, by omega, Nat.le_refl _, ⟨⟨n, nb + 1, S4, ov4, _, since, twice, HB.out.1, by have := HB.out; omega, HB.out.2.2.1, by have := HDU.out; push_cast; omega, by rw [show at0 + ((j + 1 : Nat) : Int) = at0 + (j : Int) + 1 by push_cast; omega]; exact D4.out⟩⟩⟩
      · have hdu2 : dlN n = (j : Int) + 1 := by omega
        have hn3 : n ≤ 3 := by
          rcases (by omega : n ≤ 3 ∨ n = 4) with h | rfl
          · exact h
          · have : dlN 4 = 60 := rfl
            omega
        have HDU : Keep (dlN n = (j : Int) + 1 ∧ n ≤ 3) := ⟨hdu2, hn3⟩
        clear hd hn hnb hg hjd b1 b2 b3 b4 hdu hdu2 hn3
        go_wp2_with (first
          | (go_at_call 129
             go_loud (refine NW.out.mono ?_; rintro e X ⟨rfl, hX⟩)
             rw [hX]
             clear hX)
          | fail)
        go_region_held3 (fun W => W.cell? ⟨c, 22, none⟩ = some (.pointer (some ⟨wb, 0, none⟩)))
          (first | exact D1.out.cs.cn.c 22 | exact D2.out.cs.cn.c 22)
          (first
            | (go_at_call 129
               go_loud (refine NW2.out.mono ?_; rintro e X ⟨rfl, hX⟩)
               rw [hX]
               clear hX)
            | (go_at_call 130
               go_loud (refine AV.out.mono ?_; rintro e w2 ⟨v, S2, L2, O2, rfl, wl2, be2, nw2, fm2, ad2⟩)
               obtain ⟨hL2, hO2⟩ := adv_due ad2 (by have := HDU.out; omega)
               subst hL2 hO2
               obtain ⟨A2, k2, rfl, _⟩ := own_slice be2.own
               have D2 := Keep.mk (D1.out.wheel wl2 fm2)
               obtain ⟨ga, off, hA2, hgl2, hcs2⟩ := Rd.of_own (l := [((0 : Int), at0 + dlN n)]) dueC_length (by decide) be2.own (by simp)
               have GC : Keep (ga < w2.heap.size ∧ w2.cell? ⟨ga, off, none⟩ = some (.int .i64 0) ∧ w2.cell? ⟨ga, off + 1, none⟩ = some (.int .i64 (at0 + dlN n))) := ⟨hgl2, hcs2 0 _ rfl 0 _ rfl, hcs2 0 _ rfl 1 _ rfl⟩
               clear wl2 be2 nw2 fm2 ad2 hgl2 hcs2)
            | fail)
        subst hA2
        go_wp2_with fail
        go_loopw [36] (fun i wi => (i = .int .i64 0 ∧ wi = w2) ∨ (i = .int .i64 1 ∧ Keep (∃ g' c', (w2.heap.size ≤ g' ∧ g' < wi.heap.size ∧ g' ≠ fl ∧ ∀ y u, (synO s)[y]? = some u → wi.cell? ⟨g', y, none⟩ = some u) ∧
          Dl w0 wi base wb wm nb S2 (at0 + j + 1) [] c sd st rv mp st2 lg fl pb q g2 p1 p2 k s e0 c2 ov gos (flC q ((n + 1 : Nat) : Int) 1 0 ((n + 1 : Nat) : Int) (at0 + dlN n + wt (n + 1)) true since true (.slice (some ⟨g', 0, none⟩) 1 c'))))) (fun i _ => 1 - (intOf i).toNat)
        case atStart => exact .inl ⟨rfl, rfl⟩
        case round =>
          rcases hrel with ⟨rfl, rfl⟩ | ⟨rfl, HQ⟩
          · have r0 : wr.cell? ⟨ga, off, none⟩ = some (.int .i64 0) := GC.out.2.1
            have r1 : wr.cell? ⟨ga, off + 1, none⟩ = some (.int .i64 (at0 + dlN n)) := GC.out.2.2
            have D3 := Keep.mk (D2.out.quiet ((Below.refl _ wr).alloc (Nat.le_refl _) (.cells #[.int .i64 0, .int .i64 (at0 + dlN n)] 195)))
            have d7 : (wr.alloc (.cells #[.int .i64 0, .int .i64 (at0 + dlN n)] 195)).cell? ⟨c, 7, none⟩ = some (.int .i64 0) := D3.out.cs.cn.c 7
            have x0 : (wr.alloc (.cells #[.int .i64 0, .int .i64 (at0 + dlN n)] 195)).cell? ⟨wr.heap.size, 0, none⟩ = some (.int .i64 0) := by rw [World.cell?_alloc_new]; rfl
            have x1 : (wr.alloc (.cells #[.int .i64 0, .int .i64 (at0 + dlN n)] 195)).cell? ⟨wr.heap.size, 1, none⟩ = some (.int .i64 (at0 + dlN n)) := by rw [World.cell?_alloc_new]; rfl
            obtain ⟨cur, hcur⟩ := D3.out.rty
            have EX := Keep.mk (cexpire_live n HDU.out.2 s e0 (at0 + dlN n) g2 c2 D3.out.cs.cn D3.out.cs.leg D3.out.cs.flw D3.out.que (hcur.ne_ty D3.out.cs.flw (by decide)) D3.out.row hcur.lt (by have := HA.out; have := HB.out; omega) (by have := HA.out; have := HB.out; omega))
            clear hcur
            go_wp2_with (first
              | (go_at_call 131
                 go_loud (refine EX.out.mono ?_; rintro e w4 ⟨rfl, g', c', o4, f4, x4⟩)
                 have Q4 : Keep (∃ g' c', (wr.heap.size ≤ g' ∧ g' < w4.heap.size ∧ g' ≠ fl ∧ ∀ y u, (synO s)[y]? = some u → w4.cell? ⟨g', y, none⟩ = some u) ∧
                     Dl w0 w4 base wb wm nb S2 (at0 + j + 1) [] c sd st rv mp st2 lg fl pb q g2 p1 p2 k s e0 c2 ov gos (flC q ((n + 1 : Nat) : Int) 1 0 ((n + 1 : Nat) : Int) (at0 + dlN n + wt (n + 1)) true since true (.slice (some ⟨g', 0, none⟩) 1 c'))) :=
                   ⟨g', c', ⟨Nat.le_trans (by simp) o4.low, o4.lt, o4.ne_bk f4 (by decide), o4.cell⟩, D3.out.flow x4 f4⟩
                 clear o4 f4 x4)
              | fail)
            go_roundw
            case rel => exact .inr ⟨rfl, Q4⟩
            case measure => simp [intOf]
          · obtain ⟨g', c', ⟨gl, gs, gf, gc⟩, d4⟩ := HQ.out
            have NG : Keep (¬ Owns wb wm S2 g') := ⟨fun o => by have := D2.out.cs.wl.lt o; omega⟩
            have GG := Keep.mk gc
            have G2 : Keep (g' < wr.heap.size ∧ g' ≠ fl) := ⟨gs, gf⟩
            have D4 := Keep.mk d4
            have d22 : wr.cell? ⟨c, 22, none⟩ = some (.pointer (some ⟨wb, 0, none⟩)) := d4.cs.cn.c 22
            have NW3 := Keep.mk (now_wl d4.cs.wl)
            have hst := dlN_step HDU.out.2
            have hlt4 := dlN_lt HDU.out.2
            have hbd := dlN_bd (n + 1)
            have SD := settle_dial (at0 + j + 1) s _ ov gos (fun _ g' => ∃ go, g' = gos ++ [go]) d4.cs (by have := HA.out; omega) (by have := HA.out; have := HB.out; omega) (by simp) (by simp) (by have := HA.out; have := HB.out; have := HDU.out; omega) (by have := HA.out; have := HB.out; omega) d4.outs d4.free (fun w3 S3 c3 m3 => by
              have G8 := m3.other gs NG.out
              refine (flush_syn s c3.cn c3.leg c3.rcv c3.flw (Nat.lt_of_lt_of_le gs m3.size) (fun y u hu => (World.cell?_of_block G8).trans (GG.out y u hu)) (nd_four c3.nd) gf (d4.outs.fw m3.fw fun kb e => ⟨d4.free kb e, by simp⟩) (Nat.le_trans c3.hb c3.hs) (by have := HB.out; omega)).mono ?_
              rintro e w9 ⟨rfl, ov', go, hf⟩
              exact ⟨rfl, ov', gos ++ [go], hf, go, rfl⟩)
            rw [show max (at0 + dlN n + wt (n + 1)) (at0 + (j : Int) + 1 + 1) = at0 + dlN (n + 1) by have := HDU.out; omega, show at0 + dlN n + wt (n + 1) = at0 + dlN (n + 1) by omega] at SD
            have SD := Keep.mk SD
            have HS : Keep ((j : Int) + 1 < dlN (n + 1) ∧ at0 + dlN n + wt (n + 1) = at0 + dlN (n + 1)) := ⟨by have := HDU.out; omega, by omega⟩
            clear d4 gl gs gf gc HQ hst hlt4 hbd
            go_wp2_with (first
              | (go_at_call 129
                 go_loud (refine NW3.out.mono ?_; rintro e X ⟨rfl, hX⟩)
                 rw [hX]
                 clear hX)
              | (go_at_call 132
                 go_loud (refine SD.out.mono ?_; rintro e w5 ⟨rfl, S5, ov5, gos5, c5, o5, ⟨go5, rfl⟩, f5, x5⟩)
                 have D5 := Keep.mk (D4.out.next x5 c5 o5 f5)
                 clear c5 o5 f5 x5)
              | fail)
            go_roundg (J - (j + 1))
            case measure => omega
            case rel => exact ⟨j + 1, by omega, by omega, Nat.le_refl _, ⟨⟨n + 1, nb + 1, S5, ov5, gos ++ [go5], since, true, by have := HDU.out; omega, by have := HB.out; omega, by rw [List.length_append, HB.out.2.2.1]; rfl, by have := HS.out; push_cast; omega, by rw [show at0 + ((j + 1 : Nat) : Int) = at0 + (j : Int) + 1 by push_cast; omega]; exact D5.out⟩⟩⟩
    · obtain rfl : j = J := by omega
      obtain ⟨n, nb, S, ov, gos, since, twice, hn, hnb, hg, hjd, hd⟩ := HL.out.ex
      have c22 : wr.cell? ⟨c, 22, none⟩ = some (.pointer (some ⟨wb, 0, none⟩)) := hd.cs.cn.c 22
      have NW := Keep.mk (now_wl hd.cs.wl)
      have hirr : ¬ at0 + (j : Int) < at0 + (j : Int) := by omega
      clear hd
      go_wp2_with (first
        | (go_at_call 129
           go_loud (refine NW.out.mono ?_; rintro e X ⟨rfl, hX⟩)
           rw [hX]
           clear hX)
        | fail)
      go_end0
      exact ⟨rfl, HL.out⟩
end
end Go.Proofs.YtfjdhdeiaakbaaaGreatDoor
/-
  A connection that hears nothing: its last tick; what it says then.
-/
namespace Go.Proofs.YtfjdhdeiaakbaaaGreatDoor
open Go.RowKit

section
variable {w0 w w1 : World} {base wb wm : Nat} {c sd st rv mp st2 lg fl pb q g2 c2 : Nat} {p1 p2 k s e0 : Int}
/-- It is dead: it failed with the error 13, its state is 8. -/
structure Gone (w0 w : World) (base wb wm c sd st rv mp st2 lg fl pb q : Nat) (p1 p2 k s : Int) (now : Int) : Prop where
  ex : ∃ (nb : Nat) (S : Nat → Value) (ov : Value) (gos : List Nat) (times since : Int) (twice : Bool), gos.length = 4 ∧
    Cs w0 w base wb wm nb S now [] c sd st rv mp st2 lg fl (conE p1 p2 k 8 13 13 sd rv pb lg wb ov) (flC q times 11 0 5 0 false since twice (.slice none 0 0)) ∧ Outs w w0.heap.size p1 p2 k s ov gos
set_option maxRecDepth 100000 in
set_option maxHeartbeats 12800000 in
theorem ctick_dead (at0 : Int) (a0 : 0 ≤ at0) (a1 : at0 ≤ 100000) (h : Live w0 w base wb wm c sd st rv mp st2 lg fl pb q g2 p1 p2 k s e0 c2 at0 59) :
    Calls Tryz.prog 81 #[.pointer (some ⟨c, 0, none⟩), .int .i64 (at0 + 60)] w fun e w' => e = .returned (.tuple #[]) ∧ Gone w0 w' base wb wm c sd st rv mp st2 lg fl pb q p1 p2 k s (at0 + 60) := by
  have HH := Keep.mk h
  obtain ⟨n, nb, S, ov, gos, since, twice, hn, hnb, hg, hj, hd⟩ := h.ex
  have c22 : w.cell? ⟨c, 22, none⟩ = some (.pointer (some ⟨wb, 0, none⟩)) := hd.cs.cn.c 22
  have NW := now_wl hd.cs.wl
  rw [show at0 + ((59 : Nat) : Int) = at0 + 59 from rfl] at NW
  have NW := Keep.mk NW
  have q1 : IntKind.i64.wrap (at0 + 59 + 10000) = at0 + 59 + 10000 := IntWalk.i64_in _ (by omega)
  have hm : min (at0 + 60) (at0 + 59 + 10000) = at0 + 60 := by omega
  have HA : Keep (0 ≤ at0 ∧ at0 ≤ 100000) := ⟨a0, a1⟩
  clear h hd hn hnb hg hj a0 a1
  go_enter Tryz.func81, Tryz.ntmps81
  go_wp2_with (first
    | (go_at_call 129
       go_loud (refine NW.out.mono ?_; rintro e X ⟨rfl, hX⟩)
       rw [hX]
       clear hX)
    | fail)
  clear c22 NW q1 hm
  go_loopg [] 1 (fun gg wr => (gg = 1 ∧ Keep (Live w0 wr base wb wm c sd st rv mp st2 lg fl pb q g2 p1 p2 k s e0 c2 at0 59)) ∨ Keep (Gone w0 wr base wb wm c sd st rv mp st2 lg fl pb q p1 p2 k s (at0 + 60)))
  case atStart => exact .inl ⟨rfl, HH⟩
  case round =>
    rcases hrel with ⟨rfl, HL⟩ | HG
    · obtain ⟨n, nb, S, ov, gos, since, twice, hn, hnb, hg, hjd, hd⟩ := HL.out.ex
      obtain ⟨wo, hwo⟩ : ∃ wo : World, wo = wr := ⟨_, rfl⟩
      rw [← hwo] at hd ⊢
      clear hwo HL
      have b1 := HA.out.1
      have b2 := HA.out.2
      obtain rfl : n = 4 := dlN_last hn (by omega)
      have hd4 : dlN 4 = 60 := rfl
      rw [hd4, show at0 + ((59 : Nat) : Int) = at0 + 59 from rfl] at hd
      have c22 : wo.cell? ⟨c, 22, none⟩ = some (.pointer (some ⟨wb, 0, none⟩)) := hd.cs.cn.c 22
      have NW := Keep.mk (now_wl hd.cs.wl)
      have D1 : Keep (Dl w0 wo.drew base wb wm nb S (at0 + 59) [(0, at0 + 60)] c sd st rv mp st2 lg fl pb q g2 p1 p2 k s e0 c2 ov gos (flC q 4 1 0 4 (at0 + 60) true since twice (.slice none 0 0))) := ⟨hd.quiet (below_dn wo 1)⟩
      have NW2 := Keep.mk (now_wl D1.out.cs.wl)
      have hlti : at0 + 59 < at0 + 60 := by omega
      have q2 : IntKind.i64.wrap (at0 + 59 + 1) = at0 + 60 := by rw [IntWalk.i64_in _ (by omega)]; omega
      have AV := advance_wl D1.out.cs.wl D1.out.cs.hs (at0 + 60) (by omega) (by omega) (by simp) (by simp; exact wfI_of (by omega) (by omega))
      rw [show max (at0 + 59) (min (at0 + 60) (at0 + 59 + 10000)) = at0 + 60 by omega] at AV
      have AV := Keep.mk AV
      have HGL := Keep.mk hg
      clear hd hn hnb hg hjd b1 b2 hd4
      go_wp2_with (first
        | (go_at_call 129
           go_loud (refine NW.out.mono ?_; rintro e X ⟨rfl, hX⟩)
           rw [hX]
           clear hX)
        | fail)
      go_region_held3 (fun W => W.cell? ⟨c, 22, none⟩ = some (.pointer (some ⟨wb, 0, none⟩)))
        (first | exact D1.out.cs.cn.c 22 | exact D2.out.cs.cn.c 22)
        (first
          | (go_at_call 129
             go_loud (refine NW2.out.mono ?_; rintro e X ⟨rfl, hX⟩)
             rw [hX]
             clear hX)
          | (go_at_call 130
             go_loud (refine AV.out.mono ?_; rintro e w2 ⟨v, S2, L2, O2, rfl, wl2, be2, nw2, fm2, ad2⟩)
             obtain ⟨hL2, hO2⟩ := adv_due ad2 (by omega)
             subst hL2 hO2
             obtain ⟨A2, k2, rfl, _⟩ := own_slice be2.own
             have D2 := Keep.mk (D1.out.wheel wl2 fm2)
             obtain ⟨ga, off, hA2, hgl2, hcs2⟩ := Rd.of_own (l := [((0 : Int), at0 + 60)]) dueC_length (by decide) be2.own (by simp)
             have GC : Keep (ga < w2.heap.size ∧ w2.cell? ⟨ga, off, none⟩ = some (.int .i64 0) ∧ w2.cell? ⟨ga, off + 1, none⟩ = some (.int .i64 (at0 + 60))) := ⟨hgl2, hcs2 0 _ rfl 0 _ rfl, hcs2 0 _ rfl 1 _ rfl⟩
             clear wl2 be2 nw2 fm2 ad2 hgl2 hcs2)
          | fail)
      subst hA2
      go_wp2_with fail
      go_loopw [36] (fun i wi => (i = .int .i64 0 ∧ wi = w2) ∨ (i = .int .i64 1 ∧ Keep (Cs w0 wi base wb wm nb S2 (at0 + 60) [] c sd st rv mp st2 lg fl (conE p1 p2 k 0 0 13 sd rv pb lg wb ov) (flC q 4 11 0 5 0 false since twice (.slice none 0 0)) ∧
        Outs wi w0.heap.size p1 p2 k s ov gos ∧ ∀ kb, (ov.ownBlock = some kb ∨ kb ∈ gos) → ¬ Owns wb wm S2 kb))) (fun i _ => 1 - (intOf i).toNat)
      case atStart => exact .inl ⟨rfl, rfl⟩
      case round =>
        rcases hrel with ⟨rfl, rfl⟩ | ⟨rfl, HQ⟩
        · have r0 : wr.cell? ⟨ga, off, none⟩ = some (.int .i64 0) := GC.out.2.1
          have r1 : wr.cell? ⟨ga, off + 1, none⟩ = some (.int .i64 (at0 + 60)) := GC.out.2.2
          have D3 := Keep.mk (D2.out.quiet ((Below.refl _ wr).alloc (Nat.le_refl _) (.cells #[.int .i64 0, .int .i64 (at0 + 60)] 195)))
          have d7 : (wr.alloc (.cells #[.int .i64 0, .int .i64 (at0 + 60)] 195)).cell? ⟨c, 7, none⟩ = some (.int .i64 0) := D3.out.cs.cn.c 7
          have x0 : (wr.alloc (.cells #[.int .i64 0, .int .i64 (at0 + 60)] 195)).cell? ⟨wr.heap.size, 0, none⟩ = some (.int .i64 0) := by rw [World.cell?_alloc_new]; rfl
          have x1 : (wr.alloc (.cells #[.int .i64 0, .int .i64 (at0 + 60)] 195)).cell? ⟨wr.heap.size, 1, none⟩ = some (.int .i64 (at0 + 60)) := by rw [World.cell?_alloc_new]; rfl
          obtain ⟨cur, hcur⟩ := D3.out.rty
          have EX := Keep.mk (cexpire_dead s e0 (at0 + 60) g2 c2 D3.out.cs.cn D3.out.cs.leg D3.out.cs.flw D3.out.que (hcur.ne_ty D3.out.cs.flw (by decide)) D3.out.row hcur.lt D3.out.pat)
          clear hcur
          go_wp2_with (first
            | (go_at_call 131
               go_loud (refine EX.out.mono ?_; rintro e w4 ⟨rfl, c4, f4, x4⟩)
               have P3 := D3.out.pat
               have Q4 : Keep (Cs w0 w4 base wb wm nb S2 (at0 + 60) [] c sd st rv mp st2 lg fl (conE p1 p2 k 0 0 13 sd rv pb lg wb ov) (flC q 4 11 0 5 0 false since twice (.slice none 0 0)) ∧
                   Outs w4 w0.heap.size p1 p2 k s ov gos ∧ ∀ kb, (ov.ownBlock = some kb ∨ kb ∈ gos) → ¬ Owns wb wm S2 kb) :=
                 ⟨D3.out.cs.own (l := [pb]) (x4.mono (fun x _ hx => by simp at hx; rcases hx with rfl | rfl | rfl <;> simp)) c4 f4 (by
                    intro y hy
                    obtain rfl : y = pb := by simpa using hy
                    refine ⟨(D3.out.free2 y (by simp)).1, (D3.out.free2 y (by simp)).2, ?_⟩
                    simp only [List.mem_cons, List.not_mem_nil, or_false, not_or]
                    exact ⟨P3.ne_ty D3.out.cs.snd (by decide), P3.ne_ty D3.out.cs.rcv (by decide), P3.ne_ty D3.out.cs.leg (by decide)⟩),
                  D3.out.outs.keep (fun kb e => x4.block kb (D3.out.outs.lt' e) (by
                    simp only [List.mem_cons, List.not_mem_nil, or_false, not_or]
                    exact ⟨D3.out.outs.ne' D3.out.cs.flw (by decide) (by decide) e, D3.out.outs.ne' P3 (by decide) (by decide) e, D3.out.outs.ne' D3.out.cs.cn (by decide) (by decide) e⟩)),
                  D3.out.free⟩
               clear c4 f4 x4 P3)
            | fail)
          go_roundw
          case rel => exact .inr ⟨rfl, Q4⟩
          case measure => simp [intOf]
        · have d22 : wr.cell? ⟨c, 22, none⟩ = some (.pointer (some ⟨wb, 0, none⟩)) := HQ.out.1.cn.c 22
          have NW3 := Keep.mk (now_wl HQ.out.1.wl)
          have SD := Keep.mk (settle_dead (at0 + 60) s ov gos HQ.out.1 (by have := HA.out; omega) (by have := HA.out; omega) HQ.out.2.1 HQ.out.2.2)
          go_wp2_with (first
            | (go_at_call 129
               go_loud (refine NW3.out.mono ?_; rintro e X ⟨rfl, hX⟩)
               rw [hX]
               clear hX)
            | (go_at_call 132
               go_loud (refine SD.out.mono ?_; rintro e w5 ⟨rfl, S5, c5, o5⟩)
               have G5 : Keep (Gone w0 w5 base wb wm c sd st rv mp st2 lg fl pb q p1 p2 k s (at0 + 60)) := ⟨⟨nb, S5, ov, gos, 4, since, twice, HGL.out, c5, o5⟩⟩
               clear c5 o5)
            | fail)
          go_roundg 0
          case measure => omega
          case rel => exact .inr G5
    · obtain ⟨nb, S, ov, gos, times, since, twice, hg, hc, ho⟩ := HG.out.ex
      have c22 : wr.cell? ⟨c, 22, none⟩ = some (.pointer (some ⟨wb, 0, none⟩)) := hc.cn.c 22
      have NW := Keep.mk (now_wl hc.wl)
      have hirr : ¬ at0 + 60 < at0 + 60 := by omega
      clear hc ho
      go_wp2_with (first
        | (go_at_call 129
           go_loud (refine NW.out.mono ?_; rintro e X ⟨rfl, hX⟩)
           rw [hX]
           clear hX)
        | fail)
      go_end0
      exact ⟨rfl, HG.out⟩
end
end Go.Proofs.YtfjdhdeiaakbaaaGreatDoor
/-
  The walk of ConnSilent.
-/
namespace Go.Proofs.YtfjdhdeiaakbaaaGreatDoor
open Go.RowKit

section
variable {w0 w : World} {base wb wm nb : Nat} {S : Nat → Value} {now : Int} {c sd st rv mp st2 lg fl pb q : Nat} {p1 p2 k state err ld : Int} {out fout : Value} {times rcv tries at_ since : Int} {has twice : Bool} {carr farr : Array Value}
set_option maxRecDepth 100000 in
theorem cout_e (h : Bk w c (conE p1 p2 k state err ld sd rv pb lg wb out) 191) (A : Option Addr) (n cc : Nat) (hv : out = .slice A n cc) :
    Calls Tryz.prog 135 #[.pointer (some ⟨c, 0, none⟩)] w fun e w' => e = .returned (.slice A n cc) ∧ Bk w' c (conE p1 p2 k state err ld sd rv pb lg wb (.slice none 0 0)) 191 ∧ Fz w w' [c] := by
  subst hv
  have c29 : w.cell? ⟨c, 29, none⟩ = some (.slice A n cc) := h.c 29
  have f29 := h.free 29
  have HB := Keep.mk h
  clear h
  go_enter Tryz.func135, Tryz.ntmps135
  go_wp2_with fail
  go_ret
  exact ⟨rfl, HB.out.set 29 _, Fz.set _ c 29 _⟩
set_option maxRecDepth 100000 in
theorem timers_none (h : Cs w0 w base wb wm nb S now [] c sd st rv mp st2 lg fl carr farr) (h22 : carr[22]? = some (.pointer (some ⟨wb, 0, none⟩))) :
    Calls Tryz.prog 215 #[.pointer (some ⟨c, 0, none⟩)] w fun e w' => e = .returned (.int .i64 0) ∧ w' = w := by
  have c22 : w.cell? ⟨c, 22, none⟩ = some (.pointer (some ⟨wb, 0, none⟩)) := (h.cn.c 22).trans h22
  have LN := Keep.mk (len_wl h.wl)
  clear h h22
  go_enter Tryz.func215, Tryz.ntmps215
  go_wp2_with (first
    | (go_at_call 276
       go_loud (refine LN.out.mono ?_; rintro e X ⟨rfl, hX⟩)
       rw [hX]
       clear hX)
    | fail)
  go_ret
  exact ⟨by first | rfl | simp, rfl⟩
set_option maxRecDepth 100000 in
theorem over_gone (h : Cs w0 w base wb wm nb S now [] c sd st rv mp st2 lg fl (conE p1 p2 k 8 err ld sd rv pb lg wb out) (flC q times 11 rcv tries at_ has since twice fout)) :
    Calls Tryz.prog 136 #[.pointer (some ⟨c, 0, none⟩)] w fun e w' => e = .returned (.bool true) ∧ w' = w := by
  have c7 : w.cell? ⟨c, 7, none⟩ = some (.int .i64 8) := h.cn.c 7
  have LG := Keep.mk (legs_none h.cn h.leg h.flw)
  have TM := Keep.mk (timers_none h rfl)
  clear h
  go_enter Tryz.func136, Tryz.ntmps136
  go_wp2_with (first
    | (go_at_call 214
       go_loud (refine LG.out.mono ?_; rintro e X ⟨rfl, hX⟩)
       rw [hX]
       clear hX)
    | (go_at_call 215
       go_loud (refine TM.out.mono ?_; rintro e X ⟨rfl, hX⟩)
       rw [hX]
       clear hX)
    | fail)
  go_ret
  exact ⟨by first | rfl | simp, rfl⟩
theorem segS_length (p1 p2 s : Int) (go : Nat) : (segS p1 p2 s go).length = 13 := rfl
end
end Go.Proofs.YtfjdhdeiaakbaaaGreatDoor
/-
  A host dials.
-/
namespace Go.Proofs.YtfjdhdeiaakbaaaGreatDoor
open Go.RowKit

/-- The world as it is, but for the blocks from the n-th one on. -/
def cutW (w : World) (n : Nat) : World := { w with heap := w.heap.extract 0 n }
theorem cutW_size {w : World} {n : Nat} (h : n ≤ w.heap.size) : (cutW w n).heap.size = n := by simp [cutW]; omega
theorem cutW_below {w : World} {n : Nat} (h : n ≤ w.heap.size) : Below n (cutW w n) w :=
  ⟨rfl, rfl, rfl, by rw [cutW_size h]; exact h, fun k hk => by simp [cutW, Array.getElem?_extract, hk]; omega⟩
section
variable {w0 w w1 : World} {base wb wm nb : Nat} {S : Nat → Value} {now : Int} {L : List Due} {c sd st rv mp st2 lg fl pb q g2 c2 : Nat} {p1 p2 k s e0 : Int} {ov : Value} {gos : List Nat} {farr : Array Value}
/-- Its host has taken what it wants to be sent, and written blocks that are none of its own. -/
theorem Dl.host {cs : List Nat} (h : Dl w0 w base wb wm nb S now L c sd st rv mp st2 lg fl pb q g2 p1 p2 k s e0 c2 ov gos farr) (F : Fz w w1 cs) (hc : Bk w1 c (conD p1 p2 k sd rv pb lg wb (.slice none 0 0)) 191) (hcs : ∀ x ∈ cs, x < w0.heap.size ∨ x = c) :
    Dl (cutW w1 w0.heap.size) w1 base wb wm nb S now L c sd st rv mp st2 lg fl pb q g2 p1 p2 k s e0 c2 (.slice none 0 0) [] farr := by
  have hsz : w0.heap.size ≤ w1.heap.size := Nat.le_trans h.cs.below.size F.size
  have off : ∀ x, w0.heap.size ≤ x → x ≠ c → x ∉ cs := fun x hx hn hm => by
    rcases hcs x hm with h1 | h1
    · omega
    · exact hn h1
  have ty : ∀ {x : Nat} {arr : Array Value} {t : TypeId}, Bk w x arr t → 191 ≠ t → x ≠ c := fun hb ht e => hb.ne_ty h.cs.cn (fun e => ht e.symm) e
  refine ⟨⟨h.cs.wl.same F.size fun x ho => F.block x (h.cs.wl.lt ho) (off x (Nat.le_trans h.cs.hb (h.cs.wl.low ho)) fun e => h.cs.ow c (by simp) (e ▸ ho)), hc, h.cs.snd.fz F (off _ (h.cs.lo _ (by simp)) (ty h.cs.snd (by decide))), h.cs.rcv.fz F (off _ (h.cs.lo _ (by simp)) (ty h.cs.rcv (by decide))), h.cs.leg.fz F (off _ (h.cs.lo _ (by simp)) (ty h.cs.leg (by decide))), h.cs.flw.fz F (off _ (h.cs.lo _ (by simp)) (ty h.cs.flw (by decide))), h.cs.ow, h.cs.nd, ?_, ?_, Nat.le_trans h.cs.hs F.size, ?_⟩, ?_, ?_, h.que.fz F (off _ (h.free2 q (by simp)).1 (ty h.que (by decide))), fun j u hu => ?_, ?_, h.pat.fz F (off _ (h.free2 pb (by simp)).1 (ty h.pat (by decide))), ?_⟩
  · rw [cutW_size hsz]; exact cutW_below hsz
  · rw [cutW_size hsz]; exact h.cs.hb
  · rw [cutW_size hsz]; exact h.cs.lo
  · rw [cutW_size hsz]; exact Outs.nil _ _ _ _ _ _
  · rintro kb (e | e) <;> cases e
  · obtain ⟨cur, hk⟩ := h.rty
    exact (World.cell?_of_block (F.block g2 hk.lt (off _ (h.free2 g2 (by simp)).1 (ty hk (by decide))))).trans (h.row j u hu)
  · obtain ⟨cur, hk⟩ := h.rty
    exact ⟨cur, hk.fz F (off _ (h.free2 g2 (by simp)).1 (ty hk (by decide)))⟩
  · rw [cutW_size hsz]; exact h.free2
end
/-- A host, all of whose connections have dialed, and have nothing to be sent. -/
structure Hc (lo : Nat) (w : World) (hb tb m nbt : Nat) (seed : Int) (ports lv : Value) (made tick : Int) (outv : Value) (M : Int → Option En) (k : Nat) (l : List (Nat × Nat)) (R : List SegR) : Prop where
  hst : Hst lo w hb tb m nbt seed ports lv made tick outv M k
  sk : Sk w lo lv l
  con : ∃ ca : Nat → Array Value, ∀ i s c, l[i]? = some (s, c) → Bk w c (ca i) 191 ∧ (ca i)[7]? = some (.int .i64 0) ∧ (ca i)[29]? = some (.slice none 0 0) ∧ lo ≤ c
  nd : (l.map Prod.snd).Nodup
  row : w.ownsRow lo 129 13 outv R.length (R.flatMap Subtype.val)
  lo : lo ≤ hb ∧ lo ≤ w.heap.size
theorem range_none {rs : Nat → List SegR} : ∀ n, (∀ i, i < n → rs i = []) → (List.range n).flatMap rs = []
  | 0, _ => rfl
  | n + 1, h => by rw [List.range_succ, List.flatMap_append, range_none n (fun i hi => h i (by omega))]; simp [h n (by omega)]
/-- What a dialed segment is. -/
def synR (p1 p2 s : Int) (go : Nat) : SegR := ⟨segS p1 p2 s go, rfl, by simp [segS, Value.oneCell']⟩
/-- Blocks of other types than a host's stay as they were. -/
def Kept (w w' : World) : Prop := ∀ b arr ty, Bk w b arr ty → 91 ≠ ty → 135 ≠ ty → 191 ≠ ty → 129 ≠ ty → Bk w' b arr ty
/-- What dialing leaves: one handle more. -/
structure Dialed (lo : Nat) (w w' : World) (hb tb m nbt : Nat) (seed : Int) (ports : Value) (made tick : Int) (M : Int → Option En) (k : Nat) (l : List (Nat × Nat)) (R : List SegR) (x : Int) (cs : List Nat) : Prop where
  ex : ∃ (lv outv : Value) (sk c go : Nat) (s : Int), Hc lo w' hb tb m (nbt + 1) seed ports lv (made + 1) tick outv (setT M (tokN x) (some ⟨made + 1, true, 0⟩)) (k + 1) (l ++ [(sk, c)]) (R ++ [synR (1024 + (made + 1)) 80 s go]) ∧ Bk w' go (capO x) 173 ∧
    ∃ (w0 : World) (base wb wm : Nat) (S : Nat → Value) (sd st rv mp st2 lg fl pb q g2 : Nat) (e0 : Int) (c2 : Nat), w.heap.size ≤ w0.heap.size ∧ Dl w0 w' base wb wm 1 S tick [(0, tick + 4)] c sd st rv mp st2 lg fl pb q g2 (1024 + (made + 1)) 80 x s e0 c2 (.slice none 0 0) [] (flC q 0 1 0 0 (tick + 4) true tick false (.slice none 0 0))
  below : Below lo w w'
  kept : Kept w w'
  fz : Fz w w' cs
  rng : 0 ≤ x ∧ x < 18446744073709551616
section
variable {lo : Nat} {w : World} {hb tb m nbt : Nat} {seed : Int} {ports lv : Value} {made tick : Int} {outv : Value} {M : Int → Option En} {k : Nat} {l : List (Nat × Nat)} {R : List SegR}
theorem Hc.out {x : Nat} {arr : Array Value} {ty : TypeId} (h : Hc lo w hb tb m nbt seed ports lv made tick outv M k l R) (hb' : Bk w x arr ty) (ht : 91 ≠ ty) : x ∉ [hb, m] := by
  obtain ⟨_, _, _, hB, _⟩ := h.hst.ex
  simp only [List.mem_cons, List.not_mem_nil, or_false, not_or]
  exact ⟨fun e => hB.ne_ty hb' ht e.symm, h.hst.ne.2.2 _ _ _ hb'⟩
theorem Hc.step {w' : World} {nbt' k' : Nat} {M' : Int → Option En} {made' : Int} (h : Hc lo w hb tb m nbt seed ports lv made tick outv M k l R) (F : Fz w w' [hb, m]) (h' : Hst lo w' hb tb m nbt' seed ports lv made' tick outv M' k') : Hc lo w' hb tb m nbt' seed ports lv made' tick outv M' k' l R := by
  obtain ⟨ca, hca⟩ := h.con
  exact ⟨h', h.sk.fz F (fun b cur hb' => h.out hb' (by decide)) (fun b cur hb' => h.out hb' (by decide)), ⟨ca, fun i s c hi => let ⟨a, b, d, e⟩ := hca i s c hi; ⟨a.fz F (h.out a (by decide)), b, d, e⟩⟩, h.nd, own_blockW h.row (fun kb e => let ⟨_, _, h2⟩ := own_ty h.row e; F.block kb h2.lt (h.out h2 (by decide))), h.lo.1, Nat.le_trans h.lo.2 F.size⟩
theorem hcn_five {w0 w4 w5 : World} {base wb wm nb : Nat} {S : Nat → Value} {now : Int} {L : List Due} {c sd st rv mp st2 lg fl pb q g2 c2 go sk : Nat} {p1 p2 x s e0 : Int} {ov : Value} {farr : Array Value} (hc4 : Hc lo w4 hb tb m nbt seed ports lv made tick outv M k l R)
    (dl : Dl w0 w4 base wb wm nb S now L c sd st rv mp st2 lg fl pb q g2 p1 p2 x s e0 c2 ov [go] farr) (hlo : lo ≤ w0.heap.size) (hov : ∀ kb, outv.ownBlock = some kb → kb < w0.heap.size) (F : Fz w4 w5 (hb :: lv.ownBlock.toList)) (ca : Nat → Array Value)
    (hca : ∀ i s c, l[i]? = some (s, c) → Bk w4 c (ca i) 191 ∧ (ca i)[7]? = some (.int .i64 0) ∧ (ca i)[29]? = some (.slice none 0 0) ∧ lo ≤ c) : ∀ i s' c', (l ++ [(sk, c)])[i]? = some (s', c') →
      Hcn w5 lo outv c' (if i < l.length then ca i else conD p1 p2 x sd rv pb lg wb ov) (if i < l.length then .slice none 0 0 else ov) (if i < l.length then [] else [synR p1 p2 s go]) 0 := by
  intro i s' c' hi
  obtain ⟨_, _, _, hB, _⟩ := hc4.hst.ex
  have NIN : ∀ {b : Nat} {arr : Array Value} {ty : TypeId}, Bk w4 b arr ty → 91 ≠ ty → 135 ≠ ty → b ∉ hb :: lv.ownBlock.toList := fun hb' h1 h2 hm => by
    rcases List.mem_cons.1 hm with rfl | hm
    · exact hB.ne_ty hb' h1 rfl
    · exact NIV hc4.sk.row hb' h2 hm
  by_cases hlt : i < l.length
  · rw [if_pos hlt, if_pos hlt, if_pos hlt]
    rw [List.getElem?_append_left hlt] at hi
    obtain ⟨a, b, d, _⟩ := hca i s' c' hi
    exact ⟨a.fz F (NIN a (by decide) (by decide)), b, by decide, d, World.ownsRow_nil _ _ _ _, fun kb e => by cases e⟩
  · rw [if_neg hlt, if_neg hlt, if_neg hlt]
    have hil : i < (l ++ [(sk, c)]).length := (List.getElem?_eq_some_iff.1 hi).1
    obtain rfl : i = l.length := by simp at hil; omega
    rw [List.getElem?_append_right (Nat.le_refl _), Nat.sub_self] at hi
    cases hi
    refine ⟨dl.cs.cn.fz F (NIN dl.cs.cn (by decide) (by decide)), rfl, by decide, rfl, own_low (own_blockW dl.outs.row (fun kb e => let ⟨_, _, hk⟩ := own_ty dl.outs.row e; F.block kb hk.lt (NIN hk (by decide) (by decide)))) hlo, fun kb e e' => ?_⟩
    have := (dl.outs.lt e).1
    have := hov kb e'
    omega
theorem hc_of_stl {w5 w6 : World} {ca : Nat → Array Value} {ovs : Nat → Value} {rs : Nat → List SegR} {sts : Nat → Int} (h : Stl lo w5 w6 hb tb m nbt seed ports lv made tick outv M k l ca ovs rs sts R l.length) (hn : (l.map Prod.snd).Nodup)
    (hq : ∀ i s c, l[i]? = some (s, c) → (ca i)[7]? = some (.int .i64 0) ∧ (∃ v, (ca i)[29]? = some v) ∧ lo ≤ c) (hlo : lo ≤ hb ∧ lo ≤ w5.heap.size) : ∃ outv', Hc lo w6 hb tb m nbt seed ports lv made tick outv' M k l (R ++ (List.range l.length).flatMap rs) := by
  obtain ⟨outv', hst, _, hcd, hrow, _⟩ := h.ex
  refine ⟨outv', hst, h.sk, ⟨fun i => (ca i).setIfInBounds 29 (.slice none 0 0), fun i s c hi => ?_⟩, hn, hrow, hlo.1, Nat.le_trans hlo.2 h.fz.size⟩
  obtain ⟨h7, ⟨v, hv⟩, hl⟩ := hq i s c hi
  have hil : i < l.length := (List.getElem?_eq_some_iff.1 hi).1
  refine ⟨hcd i s c hi hil, ?_, ?_, hl⟩
  · rw [Array.getElem?_setIfInBounds_ne (by decide)]; exact h7
  · have h29 := (Array.getElem?_eq_some_iff.1 hv).1
    simp [h29]
set_option maxRecDepth 100000 in
set_option maxHeartbeats 6400000 in
theorem hconnect_any (h : Hc lo w hb tb m nbt seed ports lv made tick outv M k l R) (hl : l.length ≤ 5) (hm0 : 0 ≤ made) (hm1 : made ≤ 1000) (ht0 : 0 ≤ tick) (ht1 : tick ≤ 1000000) (hnb : nbt < 100000) (hRl : R.length ≤ 1000) :
    Calls Tryz.prog 58 #[.pointer (some ⟨hb, 0, none⟩), .int .i64 0, .int .i64 1, .int .i64 80] w fun e w' =>
      (∃ er, ((er = 15 ∧ k = 4) ∨ (er = 6 ∧ (k ≠ 4 ∧ ∃ t, (M t).isSome = true))) ∧ e = .returned (.tuple #[.int .i64 0, .int .i64 er]) ∧ Hc lo w' hb tb m nbt seed ports lv made tick outv M k l R ∧ Below lo w w' ∧ Kept w w') ∨
      (∃ x, k ≠ 4 ∧ M (tokN x) = none ∧ e = .returned (.tuple #[.int .i64 (made + 1), .int .i64 0]) ∧ Dialed lo w w' hb tb m nbt seed ports made tick M k l R x (hb :: m :: (lv.ownBlock.toList ++ (l.map Prod.snd ++ outv.ownBlock.toList)))) := by
  obtain ⟨drawn, pv, ps, hB, hP⟩ := h.hst.ex
  obtain ⟨A, cc, hlv, hcc⟩ := own_slice h.sk.row
  have c5 : w.cell? ⟨hb, 5, none⟩ = some (.int .i64 made) := hB.c 5
  have c4 : w.cell? ⟨hb, 4, none⟩ = some (.slice A l.length cc) := hlv ▸ hB.c 4
  have q1 : IntKind.i64.wrap (made + 1) = made + 1 := IntWalk.i64_in _ (by omega)
  have q2 : IntKind.i64.wrap (made + 1 + 1024) = made + 1 + 1024 := IntWalk.i64_in _ (by omega)
  have q3 : IntKind.i64.wrap (1024 + (made + 1)) = 1024 + (made + 1) := IntWalk.i64_in _ (by omega)
  have d1 : decide (65535 < made + 1 + 1024) = false := by simp; omega
  have d2 : decide ((6 : Int) ≤ (l.length : Int)) = false := by simp; omega
  have RY : Keep (∀ W, Calls Tryz.prog 84 #[.agg (bareS 0 1 0 80 0 0 false false false false 0)] W fun e w' => e = .returned (.bool true) ∧ Below W.heap.size W w') := ⟨fun W => right_yes 0 1 0 80 0 0 false false false false 0 W (by omega) (by omega) (by omega) (by omega) (by omega) (by omega) (by omega) (by omega) (by omega) (by omega)⟩
  have HH := Keep.mk h
  have HL := Keep.mk hl
  have HM : Keep (0 ≤ made ∧ made ≤ 1000 ∧ 0 ≤ tick ∧ tick ≤ 1000000 ∧ nbt < 100000 ∧ R.length ≤ 1000) := ⟨hm0, hm1, ht0, ht1, hnb, hRl⟩
  have HB0 := Keep.mk hB
  have HLV := Keep.mk hlv
  clear h hl hm0 hm1 ht0 ht1 hnb hRl hB hP hcc hlv
  go_enter Tryz.func58, Tryz.ntmps58
  go_wp2_with (first
    | (go_at_call 84
       go_loud (refine (RY.out _).mono ?_; rintro e w1 ⟨rfl, b1⟩)
       have F1 := Fz.below b1 (Nat.le_refl _)
       have B1 := Keep.mk b1
       have HB1 := HB0.out.fz F1 (by simp)
       have e5 : w1.cell? ⟨hb, 5, none⟩ = some (.int .i64 made) := HB1.c 5
       have e4 : w1.cell? ⟨hb, 4, none⟩ = some (.slice A l.length cc) := HLV.out ▸ HB1.c 4
       have KF1 := Keep.mk F1
       have TA := Keep.mk (htake_any (made + 1) (HH.out.hst.fz F1 (by simp) (by simp) (by simp) (by simp)) HM.out.2.2.2.2.1)
       clear b1 F1 HB1)
    | (go_at_call 85
       go_loud (refine TA.out.mono ?_; rintro e w2 ⟨f2, h2⟩)
       have KF2 := Keep.mk f2
       have H2 := Keep.mk h2
       clear f2 h2 TA
       have F02 : Keep (Fz w w2 [hb, m]) := ⟨(KF1.out.trans KF2.out).mono (by simp)⟩
       obtain ⟨drawn2, pv2, ps2, hB2, hP2⟩ : ∃ dr pv' ps', Bk w2 hb (hostC seed dr pv' ports lv made tb tick outv) 91 ∧ Prm w2 pv' ps' := by
         rcases H2.out with ⟨_, _, _, hs2⟩ | ⟨_, _, _, _, _, _, hs2⟩
         · exact hs2.ex
         · exact hs2.ex
       have g5 : w2.cell? ⟨hb, 5, none⟩ = some (.int .i64 made) := hB2.c 5
       have f5 := hB2.free 5
       have HB2 := Keep.mk hB2
       have HP2 := Keep.mk hP2
       clear hB2 hP2
       rcases H2.out with ⟨er, ⟨rfl, hk4⟩ | ⟨rfl, hk4⟩, rfl, hs2⟩ | ⟨x, x0, x1, rfl, hk4, hMx, hs2⟩)
    | fail)
  · refine bodyPost_ret (results_tmp2 rfl _ _ _) rfl (.inl ⟨15, .inl ⟨rfl, hk4⟩, rfl, HH.out.step F02.out hs2, F02.out.toBelow HH.out.lo.2 (by simp; exact ⟨HH.out.lo.1, HH.out.hst.tab.lowm⟩), fun b arr ty hb' h1 _ _ _ => hb'.fz F02.out (HH.out.out hb' h1)⟩)
  · refine bodyPost_ret (results_tmp2 rfl _ _ _) rfl (.inl ⟨6, .inr ⟨rfl, hk4⟩, rfl, HH.out.step F02.out hs2, F02.out.toBelow HH.out.lo.2 (by simp; exact ⟨HH.out.lo.1, HH.out.hst.tab.lowm⟩), fun b arr ty hb' h1 _ _ _ => hb'.fz F02.out (HH.out.out hb' h1)⟩)
  · have HC2 := Keep.mk (HH.out.step F02.out hs2)
    have HK4 := Keep.mk (And.intro hk4 hMx)
    have HX : Keep (0 ≤ x ∧ x < 18446744073709551616) := ⟨x0, x1⟩
    obtain ⟨w3, hw3⟩ : ∃ w3, w2.setCell ⟨hb, 5, none⟩ (.int .i64 (made + 1)) = w3 := ⟨_, rfl⟩
    have X3 : Fz w2 w3 [hb] := hw3 ▸ Fz.set w2 hb 5 _
    have B3 : Bk w3 hb (hostC seed drawn2 pv2 ports lv (made + 1) tb tick outv) 91 := hw3 ▸ HB2.out.set 5 _
    have HB3 := Keep.mk (B3.fz (Fz.drew w3 1) (by simp))
    have KX3 := Keep.mk X3
    have DI := Keep.mk (dial_any (1024 + (made + 1)) 80 x tick (w3.drewN 1) (by have := HM.out; omega) (by have := HM.out; omega) (by omega) (by omega) HM.out.2.2.1 HM.out.2.2.2.1)
    rw [hw3]
    clear hs2 hk4 hMx H2 x0 x1 X3 B3 hw3
    go_region_held3 (fun X => X.cell? ⟨hb, 5, none⟩ = some (.int .i64 (made + 1)) ∧ X.cell? ⟨hb, 7, none⟩ = some (.int .i64 tick))
      (first | exact ⟨HB3.out.c 5, HB3.out.c 7⟩ | exact ⟨HB4.out.c 5, HB4.out.c 7⟩)
      (first
        | (go_at_call 86
           go_loud (refine DI.out.mono ?_; rintro e w4 ⟨base, wb, wm, S, c, sd, st, rv, mp, st2, lg, fl, pb, q, g2, s, e0, c2, ov, go, rfl, dl⟩)
           have F4 := Fz.below dl.cs.below (Nat.le_refl _)
           have HB4 := Keep.mk (HB3.out.fz F4 (by simp))
           have KF4 := Keep.mk F4
           have DL4 := Keep.mk dl
           clear F4 dl)
        | fail)
    have F24 : Keep (Fz w2 w4 [hb]) := ⟨((KX3.out.trans (Fz.drew w3 1)).trans KF4.out).mono (by simp)⟩
    have HC4 : Keep (Hc lo w4 hb tb m (nbt + 1) seed ports lv (made + 1) tick outv (setT M (tokN x) (some ⟨made + 1, true, 0⟩)) (k + 1) l R) := ⟨HC2.out.step (F24.out.mono (by simp; exact fun _ _ e => .inl e)) ⟨⟨_, _, _, HB4.out, HP2.out.fz F24.out (fun b cur hb' => by simp; exact hb'.ne_ty HB2.out (by decide))⟩, HC2.out.hst.tab.fz F24.out (by simp; exact fun e => HC2.out.hst.ne.1 e.symm) (by simp; exact fun e => HC2.out.hst.ne.2.1 e.symm)⟩⟩
    have SZ : Keep (w2.heap.size ≤ (w3.drewN 1).heap.size ∧ lo ≤ w2.heap.size ∧ w.heap.size ≤ w2.heap.size) := ⟨KX3.out.size, HC2.out.lo.2, F02.out.size⟩
    have PU := Keep.mk (hput_any c HC4.out.hst HC4.out.sk HC4.out.lo.2 (by have := HL.out; omega))
    obtain ⟨ca, hca⟩ := HC4.out.con
    obtain ⟨ca2, hca2⟩ := HC2.out.con
    have HCA := Lib.hid hca
    have HCA2 := Lib.hid hca2
    have HOV : Keep (∀ kb, outv.ownBlock = some kb → kb < (w3.drewN 1).heap.size) := ⟨fun kb e => let ⟨_, _, hk⟩ := own_ty HC2.out.row e; Nat.lt_of_lt_of_le hk.lt SZ.out.1⟩
    have HLVB : Keep (∀ kb, lv.ownBlock = some kb → lo ≤ kb ∧ kb < (w3.drewN 1).heap.size) := ⟨fun kb e => let ⟨h0, _, hk⟩ := own_ty HC2.out.sk.row e; ⟨h0, Nat.lt_of_lt_of_le hk.lt SZ.out.1⟩⟩
    have HLC : Keep (∀ y ∈ l.map Prod.snd, lo ≤ y ∧ y < (w3.drewN 1).heap.size) := ⟨fun y hy => by
      obtain ⟨⟨s', c'⟩, hm', rfl⟩ := List.mem_map.1 hy
      obtain ⟨i, hi, hi'⟩ := List.getElem_of_mem hm'
      obtain ⟨hb', _, _, hl'⟩ := HCA2.out i s' c' (by rw [List.getElem?_eq_getElem hi, hi'])
      exact ⟨hl', Nat.lt_of_lt_of_le hb'.lt SZ.out.1⟩⟩
    have HND : Keep (((l ++ [(0, c)]).map Prod.snd).Nodup) := ⟨by
      rw [List.map_append, List.nodup_append]
      refine ⟨HC2.out.nd, by simp, fun a ha b hb' e => ?_⟩
      have h1 := (HLC.out a ha).2
      have h2 := DL4.out.cs.lo c (by simp)
      simp only [List.map_cons, List.map_nil, List.mem_cons, List.not_mem_nil, or_false] at hb'
      omega⟩
    clear hca hca2
    go_wp2_with (first
      | (go_at_call 87
         go_loud (refine PU.out.mono ?_; rintro e w5 ⟨sk, lv', rfl, hsk, hst5, sk5, f5⟩)
         have hcn5 := hcn_five (sk := sk) HC4.out DL4.out (Nat.le_trans SZ.out.2.1 SZ.out.1) HOV.out f5 ca HCA.out
         have row5 := own_blockW HC4.out.row (w' := w5) (fun kb e => let ⟨_, _, hk⟩ := own_ty HC4.out.row e; f5.block kb hk.lt (fun hm => by
           rcases List.mem_cons.1 hm with rfl | hm
           · exact hk.ne_ty HB4.out (by decide) rfl
           · exact NIV HC4.out.sk.row hk (by decide) hm))
         have ST := Keep.mk (hsettle_any (l := l ++ [(sk, c)]) _ _ _ (fun _ => 0) R hst5 sk5 (by have := HL.out; simp; omega) hcn5 (by simpa using HND.out) row5 (by
           rw [show (l ++ [(sk, c)]).length = l.length + 1 by simp, List.range_succ, List.flatMap_append, range_none l.length (fun i hi => if_pos hi)]
           have := HM.out.2.2.2.2.2
           simp
           omega) (Nat.le_trans HC4.out.lo.2 f5.size))
         have KF5 := Keep.mk f5
         have KSK5 := Keep.mk sk5
         clear hst5 sk5 f5 hcn5 row5 hsk)
      | (go_at_call 83
         go_loud (refine ST.out.mono ?_; rintro e w6 ⟨rfl, st6⟩)
         obtain ⟨outv6, hst6, _, hcd6, hrow6, _⟩ := st6.ex
         obtain ⟨drawn6, pv6, ps6, hB6, hP6⟩ := hst6.ex
         have g6 : w6.cell? ⟨hb, 5, none⟩ = some (.int .i64 (made + 1)) := hB6.c 5
         have ST6 := Keep.mk st6
         have CD6 := Lib.hid hcd6
         clear hst6 hcd6 hrow6 hB6 hP6 st6 ST)
      | fail)
    have hl1 : (l ++ [(sk, c)]).length = l.length + 1 := by simp
    have hn1 : ((l ++ [(sk, c)]).map Prod.snd).Nodup := by simpa using HND.out
    have hq1 : ∀ i s' c', (l ++ [(sk, c)])[i]? = some (s', c') → ((fun i => if i < l.length then ca i else conD (1024 + (made + 1)) 80 x sd rv pb lg wb ov) i)[7]? = some (.int .i64 0) ∧ (∃ v, ((fun i => if i < l.length then ca i else conD (1024 + (made + 1)) 80 x sd rv pb lg wb ov) i)[29]? = some v) ∧ lo ≤ c' := fun i s' c' hi => by
      by_cases hlt : i < l.length
      · rw [List.getElem?_append_left hlt] at hi
        obtain ⟨_, b, d, e⟩ := HCA.out i s' c' hi
        simp only [if_pos hlt]
        exact ⟨b, ⟨_, d⟩, e⟩
      · have hil : i < (l ++ [(sk, c)]).length := (List.getElem?_eq_some_iff.1 hi).1
        obtain rfl : i = l.length := by simp at hil; omega
        rw [List.getElem?_append_right (Nat.le_refl _), Nat.sub_self] at hi
        cases hi
        simp only [if_neg hlt]
        exact ⟨rfl, ⟨_, rfl⟩, Nat.le_trans (Nat.le_trans SZ.out.2.1 SZ.out.1) (DL4.out.cs.lo c (by simp))⟩
    obtain ⟨outv9, hc9⟩ := hc_of_stl ST6.out hn1 hq1 ⟨HC2.out.lo.1, Nat.le_trans HC4.out.lo.2 KF5.out.size⟩
    rw [hl1, List.range_succ, List.flatMap_append, range_none l.length (fun i hi => if_pos hi)] at hc9
    simp only [List.flatMap_cons, List.flatMap_nil, Nat.lt_irrefl, if_false, List.nil_append, List.append_nil] at hc9
    have hc6 : Bk w6 c (conD (1024 + (made + 1)) 80 x sd rv pb lg wb (.slice none 0 0)) 191 := by
      have := CD6.out l.length sk c (by rw [List.getElem?_append_right (Nat.le_refl _), Nat.sub_self]; rfl) (by simp)
      rw [if_neg (Nat.lt_irrefl _)] at this
      exact this
    have cs46 : ∀ y ∈ (hb :: lv.ownBlock.toList) ++ (hb :: ((l ++ [(sk, c)]).map Prod.snd ++ outv.ownBlock.toList)), lo ≤ y ∧ (y < (w3.drewN 1).heap.size ∨ y = c) := fun y hy => by
      have hbl : lo ≤ hb ∧ (hb < (w3.drewN 1).heap.size ∨ hb = c) := ⟨HC2.out.lo.1, .inl HB3.out.lt⟩
      rcases List.mem_append.1 hy with hy | hy
      · rcases List.mem_cons.1 hy with rfl | hy
        · exact hbl
        · have := HLVB.out y (by simpa using hy)
          exact ⟨this.1, .inl this.2⟩
      · rcases List.mem_cons.1 hy with rfl | hy
        · exact hbl
        rcases List.mem_append.1 hy with hy | hy
        · rw [List.map_append, List.mem_append] at hy
          rcases hy with hy | hy
          · have := HLC.out y hy
            exact ⟨this.1, .inl this.2⟩
          · obtain rfl : y = c := by simpa using hy
            exact ⟨Nat.le_trans (Nat.le_trans SZ.out.2.1 SZ.out.1) (DL4.out.cs.lo _ (by simp)), .inr rfl⟩
        · have h1 := HOV.out y (by simpa using hy)
          obtain ⟨h2, _⟩ := own_ty HC2.out.row (by simpa using hy)
          exact ⟨h2, .inl h1⟩
    have F46 := KF5.out.trans ST6.out.fz
    have B46 := F46.toBelow HC4.out.lo.2 (fun y hy => (cs46 y hy).1)
    have B04 : Below lo w w4 := (F02.out.trans F24.out).toBelow HH.out.lo.2 (by simp; exact ⟨HH.out.lo.1, HH.out.hst.tab.lowm, HH.out.lo.1⟩)
    have KP4 : ∀ b arr ty, Bk w4 b arr ty → 91 ≠ ty → 135 ≠ ty → 191 ≠ ty → 129 ≠ ty → Bk w6 b arr ty := fun b arr ty b4 h1 h2 h3 h4 => by
      refine b4.fz F46 fun hm => ?_
      have hh : b ≠ hb := fun e => HB4.out.ne_ty b4 h1 e.symm
      rcases List.mem_append.1 hm with hm | hm
      · rcases List.mem_cons.1 hm with e | hm
        · exact hh e
        · exact NIV HC4.out.sk.row b4 h2 hm
      · rcases List.mem_cons.1 hm with e | hm
        · exact hh e
        rcases List.mem_append.1 hm with hm | hm
        · rw [List.map_append, List.mem_append] at hm
          rcases hm with hm | hm
          · obtain ⟨⟨s', c'⟩, hm', rfl⟩ := List.mem_map.1 hm
            obtain ⟨i, hi, hi'⟩ := List.getElem_of_mem hm'
            exact (HCA.out i s' c' (by rw [List.getElem?_eq_getElem hi, hi'])).1.ne_ty b4 h3 rfl
          · obtain rfl : b = c := by simpa using hm
            exact DL4.out.cs.cn.ne_ty b4 h3 rfl
        · exact NIV HC4.out.row b4 h4 hm
    have KP : Kept w w6 := fun b arr ty hb' h1 h2 h3 h4 => by
      have b2 := hb'.fz F02.out (HH.out.out hb' h1)
      have b4 := b2.fz F24.out (by simp; exact fun e => HB2.out.ne_ty b2 h1 e.symm)
      exact KP4 b arr ty b4 h1 h2 h3 h4
    have GO6 : Bk w6 go (capO x) 173 := KP4 go _ _ (DL4.out.outs.opt go (by simp)) (by decide) (by decide) (by decide) (by decide)
    have FZ : Fz w w6 (hb :: m :: (lv.ownBlock.toList ++ (l.map Prod.snd ++ outv.ownBlock.toList))) := ((F02.out.trans F24.out).trans F46).mono (fun y hy hm => by
      have hy3 : y < (w3.drewN 1).heap.size := Nat.lt_of_lt_of_le hy (Nat.le_trans SZ.out.2.2 SZ.out.1)
      have hc := DL4.out.cs.lo c (by simp)
      simp only [List.mem_append, List.mem_cons, List.not_mem_nil, or_false, List.map_append, List.map_cons, List.map_nil] at hm ⊢
      rcases hm with ((rfl | rfl) | rfl) | ((rfl | h) | (rfl | ((h | rfl) | h)))
      · exact .inl rfl
      · exact .inr (.inl rfl)
      · exact .inl rfl
      · exact .inl rfl
      · exact .inr (.inr (.inl h))
      · exact .inl rfl
      · exact .inr (.inr (.inr (.inl h)))
      · omega
      · exact .inr (.inr (.inr (.inr h))))
    refine bodyPost_ret (results_tmp2 rfl _ _ _) rfl (.inr ⟨x, HK4.out.1, HK4.out.2, rfl, ⟨lv', outv9, sk, c, go, s, hc9, GO6, cutW w6 (w3.drewN 1).heap.size, base, wb, wm, S, sd, st, rv, mp, st2, lg, fl, pb, q, g2, e0, c2, ?_, DL4.out.host F46 hc6 (fun y hy => (cs46 y hy).2)⟩, B04.trans B46, KP, FZ, HX.out⟩)
    rw [cutW_size (Nat.le_trans KF4.out.size F46.size)]
    exact Nat.le_trans SZ.out.2.2 SZ.out.1
end
end Go.Proofs.YtfjdhdeiaakbaaaGreatDoor
/-
  A connection that waits: one tick that does nothing; a host's tick.
-/
namespace Go.Proofs.YtfjdhdeiaakbaaaGreatDoor
open Go.RowKit

section
variable {w0 w : World} {base wb wm nb : Nat} {S : Nat → Value} {c sd st rv mp st2 lg fl pb q g2 c2 : Nat} {p1 p2 k s e0 : Int} {ov : Value} {gos : List Nat} {times rcv tries since : Int} {twice : Bool}
/-- What an idle tick leaves. -/
structure Idle (w0 w w' : World) (base wb wm nb : Nat) (S : Nat → Value) (now a : Int) (c sd st rv mp st2 lg fl pb q g2 : Nat) (p1 p2 k s e0 : Int) (c2 : Nat) (ov : Value) (gos : List Nat) (farr : Array Value) : Prop where
  ex : ∃ S', Dl w0 w' base wb wm nb S' now [(0, a)] c sd st rv mp st2 lg fl pb q g2 p1 p2 k s e0 c2 ov gos farr ∧ Fw w w' wb wm S S' (c :: fl :: ov.ownBlock.toList)
set_option maxRecDepth 100000 in
set_option maxHeartbeats 12800000 in
theorem ctick_idle (t a : Int) (t0 : 0 ≤ t) (t1 : t ≤ 1000000) (ha1 : t + 1 < a) (ha2 : a ≤ t + 64) (hnb : nb < 9000)
    (h : Dl w0 w base wb wm nb S t [(0, a)] c sd st rv mp st2 lg fl pb q g2 p1 p2 k s e0 c2 ov gos (flC q times 1 rcv tries a true since twice (.slice none 0 0))) :
    Calls Tryz.prog 81 #[.pointer (some ⟨c, 0, none⟩), .int .i64 (t + 1)] w fun e w' => e = .returned (.tuple #[]) ∧ Idle w0 w w' base wb wm (nb + 1) S (t + 1) a c sd st rv mp st2 lg fl pb q g2 p1 p2 k s e0 c2 ov gos (flC q times 1 rcv tries a true since twice (.slice none 0 0)) := by
  have HH := Keep.mk h
  have c22 : w.cell? ⟨c, 22, none⟩ = some (.pointer (some ⟨wb, 0, none⟩)) := h.cs.cn.c 22
  have NW := Keep.mk (now_wl h.cs.wl)
  have q1 : IntKind.i64.wrap (t + 10000) = t + 10000 := IntWalk.i64_in _ (by omega)
  have hm : min (t + 1) (t + 10000) = t + 1 := by omega
  have HA : Keep (0 ≤ t ∧ t ≤ 1000000 ∧ t + 1 < a ∧ a ≤ t + 64 ∧ nb < 9000) := ⟨t0, t1, ha1, ha2, hnb⟩
  clear h t0 t1 ha1 ha2 hnb
  go_enter Tryz.func81, Tryz.ntmps81
  go_wp2_with (first
    | (go_at_call 129
       go_loud (refine NW.out.mono ?_; rintro e X ⟨rfl, hX⟩)
       rw [hX]
       clear hX)
    | fail)
  clear c22 NW q1 hm
  go_loopg [] 1 (fun gg wr => (gg = 1 ∧ Keep (wr = w)) ∨ Keep (Idle w0 w wr base wb wm (nb + 1) S (t + 1) a c sd st rv mp st2 lg fl pb q g2 p1 p2 k s e0 c2 ov gos (flC q times 1 rcv tries a true since twice (.slice none 0 0))))
  case atStart => exact .inl ⟨rfl, ⟨rfl⟩⟩
  case round =>
    rcases hrel with ⟨rfl, HL⟩ | HG
    · obtain ⟨wo, hwo⟩ : ∃ wo : World, wo = wr := ⟨_, rfl⟩
      have hd := HH.out
      rw [← HL.out, ← hwo] at hd
      rw [← hwo]
      have HW : Keep (wo = w) := ⟨hwo.trans HL.out⟩
      have b1 := HA.out
      clear hwo HL
      have c22 : wo.cell? ⟨c, 22, none⟩ = some (.pointer (some ⟨wb, 0, none⟩)) := hd.cs.cn.c 22
      have NW := Keep.mk (now_wl hd.cs.wl)
      have D1 : Keep (Dl w0 wo.drew base wb wm nb S t [(0, a)] c sd st rv mp st2 lg fl pb q g2 p1 p2 k s e0 c2 ov gos (flC q times 1 rcv tries a true since twice (.slice none 0 0))) := ⟨hd.quiet (below_dn wo 1)⟩
      have NW2 := Keep.mk (now_wl D1.out.cs.wl)
      have hlti : t < t + 1 := by omega
      have q2 : IntKind.i64.wrap (t + 1) = t + 1 := IntWalk.i64_in _ (by omega)
      have AV := advance_wl D1.out.cs.wl D1.out.cs.hs (t + 1) (by omega) (by omega) (by simp) (by simp; exact wfI_of (by omega) (by omega))
      rw [show max t (min (t + 1) (t + 10000)) = t + 1 by omega] at AV
      have AV := Keep.mk AV
      clear hd b1
      go_wp2_with (first
        | (go_at_call 129
           go_loud (refine NW.out.mono ?_; rintro e X ⟨rfl, hX⟩)
           rw [hX]
           clear hX)
        | fail)
      go_region_held3 (fun W => W.cell? ⟨c, 22, none⟩ = some (.pointer (some ⟨wb, 0, none⟩)))
        (first | exact D1.out.cs.cn.c 22 | exact D2.out.cs.cn.c 22)
        (first
          | (go_at_call 129
             go_loud (refine NW2.out.mono ?_; rintro e X ⟨rfl, hX⟩)
             rw [hX]
             clear hX)
          | (go_at_call 130
             go_loud (refine AV.out.mono ?_; rintro e w2 ⟨v, S2, L2, O2, rfl, wl2, be2, nw2, fm2, ad2⟩)
             obtain ⟨hL2, hO2⟩ := adv_idle ad2 (by have := HA.out; omega)
             subst hL2 hO2
             obtain ⟨A2, k2, rfl, _⟩ := own_slice be2.own
             have D2 := Keep.mk (D1.out.wheel wl2 fm2)
             have NW3 := Keep.mk (now_wl D2.out.cs.wl)
             have FF2 : Keep (Fw w w2 wb wm S S2 []) := ⟨HW.out ▸ (((Fz.drew wo 1).fw wb wm S).trans fm2.fw : Fw wo w2 wb wm S S2 [])⟩
             clear wl2 be2 nw2 fm2 ad2)
          | fail)
      go_wp2_with fail
      go_loopw [36] (fun i wi => i = .int .i64 0 ∧ wi = w2) (fun i _ => 1 - (intOf i).toNat)
      case atStart => exact ⟨rfl, rfl⟩
      case round =>
        obtain ⟨rfl, rfl⟩ := hrel
        have d22 : wr.cell? ⟨c, 22, none⟩ = some (.pointer (some ⟨wb, 0, none⟩)) := D2.out.cs.cn.c 22
        have SD := settle_dial (t + 1) s _ ov gos (fun v g' => v = ov ∧ g' = gos) D2.out.cs (by have := HA.out; omega) (by have := HA.out; omega) (by simp) (by simp) (by have := HA.out; omega) (by have := HA.out; omega) D2.out.outs D2.out.free (fun w3 S3 c3 m3 => by
          refine (flush_nil s c3.cn c3.leg c3.flw (c3.cn.ne_ty c3.flw (by decide)) (D2.out.outs.fw m3.fw fun kb e => ⟨D2.out.free kb e, by simp⟩)).mono ?_
          rintro e w9 ⟨rfl, hf⟩
          exact ⟨rfl, ov, gos, hf, rfl, rfl⟩)
        rw [show max a (t + 1 + 1) = a by have := HA.out; omega] at SD
        have SD := Keep.mk SD
        go_wp2_with (first
          | (go_at_call 129
             go_loud (refine NW3.out.mono ?_; rintro e X ⟨rfl, hX⟩)
             rw [hX]
             clear hX)
          | (go_at_call 132
             go_loud (refine SD.out.mono ?_; rintro e w4 ⟨rfl, S4, ov4, gos4, c4, o4, ⟨rfl, rfl⟩, f4, x4⟩)
             have D4 := Keep.mk (D2.out.next x4 c4 o4 f4)
             have F4 := Keep.mk (FF2.out.trans x4)
             clear c4 o4 f4 x4)
          | fail)
        go_roundg 0
        case measure => omega
        case rel => exact .inr ⟨S4, D4.out, F4.out⟩
    · obtain ⟨S', hd, hf⟩ := HG.out.ex
      have c22 : wr.cell? ⟨c, 22, none⟩ = some (.pointer (some ⟨wb, 0, none⟩)) := hd.cs.cn.c 22
      have NW := Keep.mk (now_wl hd.cs.wl)
      have hirr : ¬ t + 1 < t + 1 := by omega
      clear hd hf
      go_wp2_with (first
        | (go_at_call 129
           go_loud (refine NW.out.mono ?_; rintro e X ⟨rfl, hX⟩)
           rw [hX]
           clear hX)
        | fail)
      go_end0
      exact ⟨rfl, HG.out⟩
end
theorem Wl.off {w : World} {base b m nb x : Nat} {S : Nat → Value} {now : Int} {L : List Due} {arr : Array Value} {ty : TypeId} (h : Wl w base b m nb S now L) (hb : Bk w x arr ty) (h1 : 264 ≠ ty) (h2 : 195 ≠ ty) : ¬ Owns b m S x := by
  obtain ⟨N, hw, _⟩ := h.ex
  rintro (rfl | rfl | ⟨i, hi, e⟩)
  · exact (⟨hw.st.blk⟩ : Bk w x _ _).ne_ty hb h1 rfl
  · obtain ⟨D, ⟨es, clock, hm, _⟩, _⟩ := hw.mp
    rw [hb.eq] at hm
    cases hm
  · obtain ⟨_, cur, hk⟩ := own_ty (hw.st.rows i hi) e
    exact hk.ne_ty hb h2 rfl
theorem one_at {a b i s c : Nat} (hi : [(a, b)][i]? = some (s, c)) : s = a ∧ c = b := by
  cases i with
  | zero => cases hi; exact ⟨rfl, rfl⟩
  | succ i => cases hi
/-- The blocks of a wheel, as a list. -/
def ownL (b m : Nat) (S : Nat → Value) : List Nat := b :: m :: (List.range 49).filterMap fun i => (S i).ownBlock
theorem mem_ownL {b m k : Nat} {S : Nat → Value} : k ∈ ownL b m S ↔ Owns b m S k := by
  unfold ownL Owns
  simp only [List.mem_cons, List.mem_filterMap, List.mem_range]
theorem Fw.fz {w w' : World} {b m : Nat} {S S' : Nat → Value} {cs : List Nat} (h : Fw w w' b m S S' cs) : Fz w w' (ownL b m S ++ cs) :=
  ⟨h.os, h.tape, h.output, h.size, fun k hk hn => h.block k hk (fun o => hn (List.mem_append.2 (.inl (mem_ownL.2 o)))) (fun e => hn (List.mem_append.2 (.inr e)))⟩
section
variable {lo : Nat} {w : World} {hb tb m nbt : Nat} {seed : Int} {ports lv : Value} {made tick : Int} {outv : Value} {M : Int → Option En} {k : Nat} {R : List SegR}
variable {w0 : World} {base wb wm nb : Nat} {S : Nat → Value} {sk c sd st rv mp st2 lg fl pb q g2 c2 : Nat} {p1 p2 x s e0 a : Int} {times rcv tries since : Int} {twice : Bool}
set_option maxRecDepth 100000 in
set_option maxHeartbeats 6400000 in
theorem htick_one (h : Hc lo w hb tb m nbt seed ports lv made tick outv M k [(sk, c)] R) (d : Dl w0 w base wb wm nb S tick [(0, a)] c sd st rv mp st2 lg fl pb q g2 p1 p2 x s e0 c2 (.slice none 0 0) [] (flC q times 1 rcv tries a true since twice (.slice none 0 0)))
    (hb0 : hb < w0.heap.size) (hm0 : m < w0.heap.size) (hlo : lo ≤ w0.heap.size) (t0 : 0 ≤ tick) (t1 : tick ≤ 1000000) (ha1 : tick + 1 < a) (ha2 : a ≤ tick + 64) (hnb : nb < 9000) (hR : R.length ≤ 1000) :
    Calls Tryz.prog 56 #[.pointer (some ⟨hb, 0, none⟩)] w fun e w' => e = .returned (.tuple #[]) ∧ ∃ outv' M' k', Hc lo w' hb tb m nbt seed ports lv made (tick + 1) outv' M' k' [(sk, c)] R ∧ Below lo w w' := by
  obtain ⟨drawn, pv, ps, hB, hP⟩ := h.hst.ex
  have c7 : w.cell? ⟨hb, 7, none⟩ = some (.int .i64 tick) := hB.c 7
  have f7 := hB.free 7
  have q1 : IntKind.i64.wrap (tick + 1) = tick + 1 := IntWalk.i64_in _ (by omega)
  obtain ⟨w1, hw1⟩ : ∃ w1, w.setCell ⟨hb, 7, none⟩ (.int .i64 (tick + 1)) = w1 := ⟨_, rfl⟩
  have X1 : Fz w w1 [hb] := hw1 ▸ Fz.set w hb 7 _
  have B1 : Bk w1 hb (hostC seed drawn pv ports lv made tb (tick + 1) outv) 91 := hw1 ▸ hB.set 7 _
  have X1d := X1.trans (Fz.drew w1 1)
  have HB1 := Keep.mk (B1.fz (Fz.drew w1 1) (by simp))
  have ne := h.hst.ne
  have T1 := Keep.mk (tick_any lo tb m nbt 4 M k (tick + 1) (w1.drewN 1) (h.hst.tab.fz X1d (by simp; exact fun e => ne.1 e.symm) (by simp; exact fun e => ne.2.1 e.symm)))
  have KX1 := Keep.mk X1d
  have HH := Keep.mk h
  have DD := Keep.mk d
  have HA : Keep (0 ≤ tick ∧ tick ≤ 1000000 ∧ tick + 1 < a ∧ a ≤ tick + 64 ∧ nb < 9000 ∧ R.length ≤ 1000) := ⟨t0, t1, ha1, ha2, hnb, hR⟩
  have HL : Keep (hb < w0.heap.size ∧ m < w0.heap.size ∧ lo ≤ w0.heap.size) := ⟨hb0, hm0, hlo⟩
  have HP := Keep.mk hP
  clear h d hb0 hm0 hlo t0 t1 ha1 ha2 hnb hR hB hP X1 B1 X1d ne
  go_enter Tryz.func56, Tryz.ntmps56
  go_wp2_with fail
  try rw [hw1]
  clear hw1
  go_region_held3 (fun X => X.cell? ⟨hb, 6, none⟩ = some (.pointer (some ⟨tb, 0, none⟩)) ∧ X.cell? ⟨hb, 7, none⟩ = some (.int .i64 (tick + 1)))
    (first | exact ⟨HB1.out.c 6, HB1.out.c 7⟩ | exact ⟨HB2.out.c 6, HB2.out.c 7⟩)
    (first
      | (go_at_call 80
         go_loud (refine T1.out.mono ?_; rintro e w2 ⟨r, k', rfl, hk', _, t2, f2⟩)
         have HB2 := Keep.mk (HB1.out.fz f2.fz (by simp; exact HH.out.hst.ne.2.1))
         have T2 := Keep.mk t2
         have X2 : Keep (Fz w w2 [hb, m]) := ⟨(KX1.out.trans f2.fz).mono (by simp)⟩
         clear t2 f2 hk')
      | fail)
  have HC2 : Keep (Hc lo w2 hb tb m nbt seed ports lv made (tick + 1) outv _ k' [(sk, c)] R) := ⟨by
    obtain ⟨ca, hca⟩ := HH.out.con
    exact ⟨⟨⟨_, _, _, HB2.out, HP.out.fz X2.out (fun b cur hb' => HH.out.out hb' (by decide))⟩, T2.out⟩, HH.out.sk.fz X2.out (fun b cur hb' => HH.out.out hb' (by decide)) (fun b cur hb' => HH.out.out hb' (by decide)), ⟨ca, fun i s' c' hi => let ⟨a, b, d, e⟩ := hca i s' c' hi; ⟨a.fz X2.out (HH.out.out a (by decide)), b, d, e⟩⟩, HH.out.nd, own_blockW HH.out.row (fun kb e => let ⟨_, _, h2⟩ := own_ty HH.out.row e; X2.out.block kb h2.lt (HH.out.out h2 (by decide))), HH.out.lo.1, Nat.le_trans HH.out.lo.2 X2.out.size⟩⟩
  have D2 := Keep.mk (DD.out.host X2.out (DD.out.cs.cn.fz X2.out (HH.out.out DD.out.cs.cn (by decide))) (fun y hy => by
    simp only [List.mem_cons, List.not_mem_nil, or_false] at hy
    rcases hy with rfl | rfl
    · exact .inl HL.out.1
    · exact .inl HL.out.2.1))
  obtain ⟨A, cc, hlv, hcc⟩ := own_slice HC2.out.sk.row
  have g4 : w2.cell? ⟨hb, 4, none⟩ = some (.slice A 1 cc) := (HB2.out.c 4).trans (congrArg some hlv)
  have HLV := Keep.mk hlv
  have SZ0 : Keep ((cutW w2 w0.heap.size).heap.size = w0.heap.size) := ⟨cutW_size (Nat.le_trans DD.out.cs.below.size X2.out.size)⟩
  clear hlv hcc
  go_wp2_with fail
  go_loopw [27] (fun i wr => (i = .int .i64 0 ∧ wr = w2) ∨ (i = .int .i64 1 ∧ Keep (∃ S', Fw w2 wr wb wm S S' [c, fl] ∧ Bk wr c (conD p1 p2 x sd rv pb lg wb (.slice none 0 0)) 191))) (fun i _ => 1 - (intOf i).toNat)
  case atStart => exact .inl ⟨rfl, rfl⟩
  case round =>
    rcases hrel with ⟨rfl, rfl⟩ | ⟨rfl, HQ⟩
    · obtain ⟨g, c3, e, h0, hd', sn, hsb⟩ := HC2.out.sk.at (i := 0) (s := sk) (c := c) rfl
      rw [HLV.out] at e
      cases e
      have HSB := Keep.mk hsb
      have SB0 : Keep (Bk (wr.drewN 1) sk (sockC c hd' sn) 138) := ⟨hsb.fz (Fz.drew wr 1) (by simp)⟩
      have HB2d : Keep (Bk (wr.drewN 1) hb (hostC seed drawn pv ports lv made tb (tick + 1) outv) 91) := ⟨HB2.out.fz (Fz.drew wr 1) (by simp)⟩
      have CT := Keep.mk (ctick_idle (w := wr.drewN 1) tick a HA.out.1 HA.out.2.1 HA.out.2.2.1 HA.out.2.2.2.1 HA.out.2.2.2.2.1 (D2.out.quiet (below_dn wr 1)))
      clear hsb
      go_wp2_with fail
      go_region_held3 (fun X => X.cell? ⟨sk, 0, none⟩ = some (.pointer (some ⟨c, 0, none⟩)) ∧ X.cell? ⟨hb, 7, none⟩ = some (.int .i64 (tick + 1)))
        (first | exact ⟨SB0.out.c 0, HB2d.out.c 7⟩ | exact ⟨SB3.out.c 0, HB3.out.c 7⟩)
        (first
          | (go_at_call 81
             go_loud (refine CT.out.mono ?_; rintro e w3 ⟨rfl, hid⟩)
             obtain ⟨S3, d3, F3⟩ := hid.ex
             have HB3 := Keep.mk (HB2d.out.fw F3 (D2.out.cs.wl.off HB2.out (by decide) (by decide)) (by simp [Value.ownBlock]; exact ⟨fun e => HB2.out.ne_ty D2.out.cs.cn (by decide) e, fun e => HB2.out.ne_ty D2.out.cs.flw (by decide) e⟩))
             have SB3 := Keep.mk (SB0.out.fw F3 (D2.out.cs.wl.off HSB.out (by decide) (by decide)) (by simp [Value.ownBlock]; exact ⟨fun e => HSB.out.ne_ty D2.out.cs.cn (by decide) e, fun e => HSB.out.ne_ty D2.out.cs.flw (by decide) e⟩))
             have QQ : Keep (∃ S', Fw wr w3 wb wm S S' [c, fl] ∧ Bk w3 c (conD p1 p2 x sd rv pb lg wb (.slice none 0 0)) 191) := ⟨S3, ((((Fz.drew wr 1).fw wb wm S).trans F3).mono (by simp [Value.ownBlock]) : Fw wr w3 wb wm S S3 [c, fl]), d3.cs.cn⟩
             clear hid d3 F3)
          | fail)
      have s3 : w3.cell? ⟨sk, 3, none⟩ = some (.bool false) := SB3.out.c 3
      go_wp2_with fail
      go_quiet (fail)
      go_wp2_with fail
      go_roundw
      case rel => exact .inr ⟨rfl, ⟨let ⟨S', f, b⟩ := QQ.out; ⟨S', (f.trans ((Fz.drew w3 _).fw wb wm S')).mono (by simp), b.fz (Fz.drew w3 _) (by simp)⟩⟩⟩
      case measure => simp [intOf]
    · obtain ⟨S3, F3, hcn⟩ := HQ.out
      have XF := F3.fz
      have NIN : ∀ {y : Nat} {arr : Array Value} {ty : TypeId}, Bk w2 y arr ty → 264 ≠ ty → 195 ≠ ty → 191 ≠ ty → 286 ≠ ty → y ∉ ownL wb wm S ++ [c, fl] := fun hy h1 h2 h3 h4 hm => by
        rcases List.mem_append.1 hm with h | h
        · exact D2.out.cs.wl.off hy h1 h2 (mem_ownL.1 h)
        · simp only [List.mem_cons, List.not_mem_nil, or_false] at h
          rcases h with rfl | rfl
          · exact D2.out.cs.cn.ne_ty hy h3 rfl
          · exact D2.out.cs.flw.ne_ty hy h4 rfl
      have NM : m ∉ ownL wb wm S ++ [c, fl] := fun hm => by
        have hs := SZ0.out
        have h0 := HL.out.2.1
        rcases List.mem_append.1 hm with h | h
        · have h1 := D2.out.cs.wl.low (mem_ownL.1 h)
          have h2 := D2.out.cs.hb
          omega
        · simp only [List.mem_cons, List.not_mem_nil, or_false] at h
          rcases h with rfl | rfl
          · have h2 := D2.out.cs.lo _ (by simp : m ∈ [m, sd, rv, lg, fl])
            omega
          · have h2 := D2.out.cs.lo _ (by simp : m ∈ [c, sd, rv, lg, m])
            omega
      have hst3 := HC2.out.hst.fz XF (fun b cur hb' => NIN hb' (by decide) (by decide) (by decide) (by decide)) (fun b cur hb' => NIN hb' (by decide) (by decide) (by decide) (by decide)) (fun b cur hb' => NIN hb' (by decide) (by decide) (by decide) (by decide)) NM
      have sk3 := HC2.out.sk.fz XF (fun b cur hb' => NIN hb' (by decide) (by decide) (by decide) (by decide)) (fun b cur hb' => NIN hb' (by decide) (by decide) (by decide) (by decide))
      have row3 := own_blockW HC2.out.row (fun kb e => let ⟨_, _, h2⟩ := own_ty HC2.out.row e; XF.block kb h2.lt (NIN h2 (by decide) (by decide) (by decide) (by decide)))
      have lo3 : lo ≤ wr.heap.size := Nat.le_trans HC2.out.lo.2 XF.size
      have ST := Keep.mk (hsettle_any (l := [(sk, c)]) (fun _ => conD p1 p2 x sd rv pb lg wb (.slice none 0 0)) (fun _ => .slice none 0 0) (fun _ => []) (fun _ => 0) R hst3 sk3 (by simp) (fun i s' c' hi => by
        obtain ⟨rfl, rfl⟩ := one_at hi
        exact ⟨hcn, rfl, by decide, rfl, World.ownsRow_nil _ _ _ _, fun kb e => by cases e⟩) (by simp) row3 (by have := HA.out.2.2.2.2.2; simp; omega) lo3)
      have B3 : Below lo w wr := by
        have hs := SZ0.out
        have h0 := HL.out.2.2
        refine ((X2.out.toBelow HH.out.lo.2 (by simp; exact ⟨HH.out.lo.1, HH.out.hst.tab.lowm⟩))).trans (XF.toBelow HC2.out.lo.2 fun y hy => ?_)
        rcases List.mem_append.1 hy with h | h
        · have h1 := D2.out.cs.wl.low (mem_ownL.1 h)
          have h2 := D2.out.cs.hb
          omega
        · simp only [List.mem_cons, List.not_mem_nil, or_false] at h
          rcases h with rfl | rfl
          · have h2 := D2.out.cs.lo y (by simp)
            omega
          · have h2 := D2.out.cs.lo y (by simp)
            omega
      have KB3 := Keep.mk B3
      have LC : Keep (lo ≤ c ∧ lo ≤ wr.heap.size) := ⟨by have h2 := D2.out.cs.lo c (by simp); have := SZ0.out; have := HL.out.2.2; omega, lo3⟩
      have KR3 := Keep.mk row3
      clear hcn F3 XF hst3 sk3 row3 lo3 B3 HQ NM
      clear NIN
      go_wp2_with (first
        | (go_at_call 83
           go_loud (refine ST.out.mono ?_; rintro e w4 ⟨rfl, st4⟩)
           obtain ⟨outv4, hc4⟩ := hc_of_stl st4 (by simp) (fun i s' c' hi => by
             obtain ⟨rfl, rfl⟩ := one_at hi
             exact ⟨rfl, ⟨_, rfl⟩, LC.out.1⟩) ⟨HC2.out.lo.1, LC.out.2⟩
           have HC4 := Keep.mk hc4
           have B4 : Keep (Below lo wr w4) := ⟨st4.fz.toBelow LC.out.2 (fun y hy => by
             rcases List.mem_cons.1 hy with rfl | hy
             · exact HC2.out.lo.1
             rcases List.mem_append.1 hy with hy | hy
             · simp at hy
               subst hy
               exact LC.out.1
             · exact (own_ty KR3.out (by simpa using hy)).1)⟩
           clear st4 hc4)
        | fail)
      go_end0
      exact ⟨rfl, outv4, _, k', by simpa using HC4.out, KB3.out.trans B4.out⟩
end
end Go.Proofs.YtfjdhdeiaakbaaaGreatDoor
/-
  A host's Out; a new host.
-/
namespace Go.Proofs.YtfjdhdeiaakbaaaGreatDoor
open Go.RowKit

theorem Below.from {lo B : Nat} {w w1 w' : World} (h : Below lo w1 w') (h1 : Below B w w1) (hl : B ≤ lo) : Below B w w' := h1.trans (h.mono hl)
set_option maxRecDepth 100000 in
theorem hout_any {w : World} {hb tb : Nat} {seed drawn made tick : Int} {pv ports lv : Value} {A : Option Addr} {n cc : Nat} (h : Bk w hb (hostC seed drawn pv ports lv made tb tick (.slice A n cc)) 91) :
    Calls Tryz.prog 71 #[.pointer (some ⟨hb, 0, none⟩)] w fun e w' => e = .returned (.slice A n cc) ∧ Fz w w' [hb] := by
  have c8 : w.cell? ⟨hb, 8, none⟩ = some (.slice A n cc) := h.c 8
  have f8 := h.free 8
  clear h
  go_enter Tryz.func71, Tryz.ntmps71
  go_wp2_with fail
  go_ret
  exact ⟨rfl, Fz.set _ hb 8 _⟩
set_option maxRecDepth 100000 in
theorem hnew_hc (seed : Int) (w : World) : Calls Tryz.prog 21 #[.int .u64 seed] w fun e w' => ∃ hb tb m, e = .returned (.pointer (some ⟨hb, 0, none⟩)) ∧
    Hc w.heap.size w' hb tb m 0 seed (.slice none 0 0) (.slice none 0 0) 0 0 (.slice none 0 0) (fun _ => none) 0 [] [] ∧ Below w.heap.size w w' := by
  refine (hnew_any seed w).mono ?_
  rintro e w1 ⟨hb, tb, m, rfl, h1, h2, h3, h4, h5⟩
  exact ⟨hb, tb, m, rfl, ⟨⟨⟨0, _, [], h3, Prm.nil _⟩, h4⟩, Sk.nil _ _, ⟨fun _ => #[], fun i s c hi => by simp at hi⟩, by simp, World.ownsRow_nil _ _ _ _, h1, h5.size⟩, h5⟩
end Go.Proofs.YtfjdhdeiaakbaaaGreatDoor
/-
  A world's parts: a net; a host that listens; a host's counts.
-/
namespace Go.Proofs.YtfjdhdeiaakbaaaGreatDoor
open Go.RowKit

set_option maxRecDepth 100000 in
theorem netnew_any (w : World) : Calls Tryz.prog 22 #[] w fun e w' => e = .returned (.pointer (some ⟨w.heap.size, 0, none⟩)) ∧ w' = w.alloc (.cells #[.slice none 0 0] 94) := by
  go_enter Tryz.func22, Tryz.ntmps22
  go_wp2_with fail
  go_ret
  exact ⟨rfl, rfl⟩
set_option maxRecDepth 100000 in
theorem iint_none (n : Int) (w : World) : Calls Tryz.prog 48 #[.slice none 0 0, .int .i64 n] w fun e w' => e = .returned (.int .i64 (-1)) ∧ w' = w := by
  go_enter Tryz.func48, Tryz.ntmps48
  go_wp2_with fail
  go_loopw [8] (fun i wr => i = .int .i64 0 ∧ wr = w) (fun _ _ => 0)
  case atStart => exact ⟨rfl, rfl⟩
  case round =>
    obtain ⟨rfl, rfl⟩ := hrel
    go_wp2_with fail
    go_ret
    exact ⟨rfl, rfl⟩
set_option maxRecDepth 100000 in
theorem cint_none (n : Int) (w : World) : Calls Tryz.prog 17 #[.slice none 0 0, .int .i64 n] w fun e w' => e = .returned (.bool false) ∧ w' = w := by
  go_enter Tryz.func17, Tryz.ntmps17
  go_wp2_with (first
    | (go_at_call 48
       go_loud (refine (iint_none _ _).mono ?_; rintro e X ⟨rfl, hX⟩)
       rw [hX]
       clear hX)
    | fail)
  go_ret
  exact ⟨by first | rfl | simp, rfl⟩
theorem infoInt : (Tryz.prog.info? 3).map (fun i => (i.zero, i.size, i.bytes)) = some (some (.int .i64 0), 1, 8) := by kernel_rfl
section
variable {lo : Nat} {w : World} {hb tb m nbt : Nat} {seed : Int} {ports lv : Value} {made tick : Int} {outv : Value} {M : Int → Option En} {k : Nat} {l : List (Nat × Nat)} {R : List SegR}
set_option maxRecDepth 100000 in
set_option maxHeartbeats 1600000 in
/-- A host that hasn't listened listens. -/
theorem hlisten_any {drawn : Int} {pv : Value} (h : Bk w hb (hostC seed drawn pv (.slice none 0 0) lv made tb tick outv) 91) :
    Calls Tryz.prog 23 #[.pointer (some ⟨hb, 0, none⟩), .int .i64 80] w fun e w' => ∃ ports', e = .returned (.int .i64 0) ∧ Bk w' hb (hostC seed drawn pv ports' lv made tb tick outv) 91 ∧ Fz w w' [hb] := by
  have c3 : w.cell? ⟨hb, 3, none⟩ = some (.slice none 0 0) := h.c 3
  have HB := Keep.mk h
  have KX1 := Keep.mk (Fz.alloc w (.cells #[.int .i64 80] 3))
  clear h
  go_enter Tryz.func23, Tryz.ntmps23
  go_wp2_with (first
    | (go_at_call 17
       go_loud (refine (cint_none _ _).mono ?_; rintro e X ⟨rfl, hX⟩)
       rw [hX]
       clear hX)
    | (refine append_one rfl (.tmp 26) (.tmp 28) 28 3 rfl Tryz.underlying28 infoInt rfl (by omega) (by omega) rfl w.heap.size [.int .i64 80] rfl rfl (fun j u hu => ((Bk.new w #[.int .i64 80] 3).c j).trans (by simpa using hu)) (by simp) (by simp [Value.oneCell']) ?_
       intro g' c' w2 ho2 hb2
       have F2 := KX1.out.trans (Fz.below hb2 (Nat.le_refl _))
       have HB2 := HB.out.fz F2 (by simp)
       have KF2 := Keep.mk F2
       have KHB2 := Keep.mk HB2
       have f3 := HB2.free 3
       have d3 : w2.cell? ⟨hb, 3, none⟩ = some (.slice none 0 0) := HB2.c 3
       clear ho2 hb2 F2 HB2)
    | fail)
  go_ret
  exact ⟨_, rfl, KHB2.out.set 3 (.slice (some ⟨g', 0, none⟩) 1 c'), (KF2.out.trans (Fz.set w2 hb 3 (.slice (some ⟨g', 0, none⟩) 1 c'))).mono (by simp)⟩
end
end Go.Proofs.YtfjdhdeiaakbaaaGreatDoor
/-
  A world's deeds: a map from kinds to functions of the world's own.
-/
namespace Go.Proofs.YtfjdhdeiaakbaaaGreatDoor
open Go.RowKit Go.Maps

/-- A function that knows the world. -/
abbrev fnV (wb n : Nat) : Value := .func (.func n) #[.pointer (some ⟨wb, 0, none⟩)] #[]
def fnR (wb : Nat) : Value → Option (DataW Unit × List MemPlace)
  | .func (.func n) ⟨[.pointer (some ⟨b, 0, none⟩)]⟩ ⟨[]⟩ => if b = wb then some (.lit (.int .i64 n), []) else none
  | .nilFunc => some (.nil, [])
  | _ => none
theorem fnR_mk (wb n : Nat) : fnR wb (fnV wb n) = some (.lit (.int .i64 n), []) := by simp [fnR]
theorem fnR_inv {wb n : Nat} {v : Value} {ps : List MemPlace} (h : fnR wb v = some (.lit (.int .i64 n), ps)) : v = fnV wb n := by
  unfold fnR at h
  split at h
  · rename_i n' b
    by_cases e : b = wb
    · subst e
      rw [if_pos rfl] at h
      have := congrArg Prod.fst (Option.some.inj h)
      simp only [DataW.lit.injEq, Lit.int.injEq, true_and] at this
      have e2 : n' = n := Int.ofNat.inj this
      rw [e2]
    · rw [if_neg e] at h; cases h
  · cases h
  · cases h
def setD (M : Int → Option Nat) (h : Int) (v : Nat) : Int → Option Nat := fun x => if x = h then some v else M x
/-- Block m is the map of the deeds. -/
def Dm (w : World) (m nb wb : Nat) (M : Int → Option Nat) : Prop :=
  ∃ D : DataW Unit, w.ownsMap Tryz.prog 3 (fnR wb) m nb D ∧ (∀ h, Maps.has D (.int .i64 h) = (M h).isSome) ∧ (∀ h n, M h = some n → ∀ z, D.atKey (.int .i64 h) z = .lit (.int .i64 n))
section
variable {w w' : World} {m nb wb : Nat} {M : Int → Option Nat}
theorem Dm.lt (h : Dm w m nb wb M) : m < w.heap.size := let ⟨_, h, _⟩ := h; h.lt
theorem Dm.same (h : Dm w m nb wb M) (hb : w'.heap[m]? = w.heap[m]?) : Dm w' m nb wb M := by
  obtain ⟨D, ⟨es, clock, h1, r1⟩, r⟩ := h
  exact ⟨D, ⟨es, clock, hb.trans h1, r1⟩, r⟩
theorem Dm.made (w : World) (wb : Nat) : Dm (w.alloc (.map #[] 0)) w.heap.size 0 wb (fun _ => none) :=
  ⟨.map [], World.ownsMap_made w _ _ _, fun _ => rfl, fun x t (h : (none : Option Nat) = some t) => (by cases h)⟩
theorem Dm.put (h : Dm w m nb wb M) (hn : nb < maxLen) (x : Int) (n : Nat) (hx : wfI x) : ∃ w', (Instr.mapUpdate 63 (.map (some m)) (.int .i64 x) (fnV wb n)).run Tryz.prog w = .ok () w' ∧ Dm w' m (nb + 1) wb (setD M x n) ∧ w.mapTurned w' m := by
  obtain ⟨D, h, h1, h2⟩ := h
  obtain ⟨w', hrun, ho, htu⟩ := h.store keyed Tryz.underlying63 hn (keyOf_int_mk Tryz.underlying3 hx) (fnR_mk wb n)
  refine ⟨w', hrun, ⟨_, ho, fun y => ?_, fun y s hy z => ?_⟩, htu⟩
  · by_cases e : y = x
    · subst e; rw [setD, if_pos rfl, has_put_same h.isMap (key_int y)]; rfl
    · rw [setD, if_neg e, has_put_other (key_ne e)]; exact h1 y
  · by_cases e : y = x
    · subst e; rw [setD, if_pos rfl] at hy; cases hy; rw [atKey_put_same h.isMap (key_int y)]
    · rw [setD, if_neg e] at hy; rw [atKey_put_other (key_ne e)]; exact h2 y s hy z
/-- What a look at the deeds gives. -/
def doneF (wb : Nat) : Option Nat → Value
  | some n => fnV wb n
  | none => .nilFunc
theorem fnR_none {wb : Nat} {v : Value} {ps : List MemPlace} (h : fnR wb v = some (.nil, ps)) : v = .nilFunc := by
  unfold fnR at h
  split at h
  · rename_i n b
    by_cases e : b = wb
    · rw [if_pos e] at h
      cases h
    · rw [if_neg e] at h; cases h
  · rfl
  · cases h
theorem Dm.look (h : Dm w m nb wb M) {x : Int} (hx : wfI x) : (Instr.lookup 63 (.map (some m)) (.int .i64 x) true).run Tryz.prog w = .ok (.tuple #[doneF wb (M x), .bool (M x).isSome]) w := by
  obtain ⟨D, h, h1, h2⟩ := h
  obtain ⟨v, ps, hrun, hv⟩ := h.look_ok keyed Tryz.underlying63 (z := .nilFunc) (Tryz.zeroValue67 w) (zd := .nil) (zp := []) rfl (keyOf_int_mk Tryz.underlying3 hx)
  rw [h1] at hrun
  rw [hrun]
  cases hM : M x with
  | some n =>
    rw [h2 x n hM] at hv
    rw [fnR_inv hv]
    rfl
  | none =>
    rw [atKey_of_not_has (by rw [h1, hM]; rfl)] at hv
    rw [fnR_none hv]
    rfl
end
end Go.Proofs.YtfjdhdeiaakbaaaGreatDoor
/-
  A world is made.
-/
namespace Go.Proofs.YtfjdhdeiaakbaaaGreatDoor
open Go.RowKit Go.Maps

/-- A world's block. -/
abbrev wldC (h0 h1 nb : Nat) (n0 n1 : Int) (lv : Value) (dv : Value) : Array Value := #[.pointer (some ⟨h0, 0, none⟩), .pointer (some ⟨h1, 0, none⟩), .pointer (some ⟨nb, 0, none⟩), .int .i64 n0, .int .i64 n1, lv, dv]
/-- Which function does which kind. -/
def deeds : Int → Option Nat := setD (setD (setD (setD (setD (setD (setD (setD (setD (setD (setD (setD (setD (setD (setD (setD (fun _ => none) 0 24) 1 25) 2 26) 3 27) 4 28) 5 29) 6 30) 7 31) 8 32) 9 33) 10 34) 11 35) 12 36) 13 37) 14 38) 15 39
/-- A host that has nothing. -/
structure HIdle (lo : Nat) (w : World) (hb tb m : Nat) (seed tick : Int) : Prop where
  blk : ∃ ports, Bk w hb (hostC seed 0 (.slice none 0 0) ports (.slice none 0 0) 0 tb tick (.slice none 0 0)) 91
  tab : Tb w lo tb m 0 4 (fun _ => none) 0
  lo : lo ≤ hb
theorem HIdle.fz {lo : Nat} {w w' : World} {hb tb m : Nat} {seed tick : Int} {cs : List Nat} (h : HIdle lo w hb tb m seed tick) (F : Fz w w' cs) (h1 : hb ∉ cs) (h2 : tb ∉ cs) (h3 : m ∉ cs) : HIdle lo w' hb tb m seed tick :=
  ⟨let ⟨p, hp⟩ := h.blk; ⟨p, hp.fz F h1⟩, h.tab.fz F h2 h3, h.lo⟩
theorem HIdle.low {lo : Nat} {w w' : World} {hb tb m : Nat} {seed tick : Int} {cs : List Nat} (h : HIdle lo w hb tb m seed tick) (F : Fz w w' cs) (hl : ∀ c ∈ cs, c < lo) : HIdle lo w' hb tb m seed tick :=
  h.fz F (fun e => by have := hl _ e; have := h.lo; omega) (fun e => by have := hl _ e; have := h.tab.lowb; omega) (fun e => by have := hl _ e; have := h.tab.lowm; omega)
theorem HIdle.hc {lo : Nat} {w : World} {hb tb m : Nat} {seed tick : Int} (h : HIdle lo w hb tb m seed tick) : ∃ ports, Hc lo w hb tb m 0 seed ports (.slice none 0 0) 0 tick (.slice none 0 0) (fun _ => none) 0 [] [] := by
  obtain ⟨p, hp⟩ := h.blk
  exact ⟨p, ⟨⟨0, _, [], hp, Prm.nil _⟩, h.tab⟩, Sk.nil _ _, ⟨fun _ => #[], fun i s c hi => by simp at hi⟩, by simp, World.ownsRow_nil _ _ _ _, h.lo, Nat.le_trans h.lo (Nat.le_of_lt hp.lt)⟩
/-- A world that was made. -/
structure Wnew (w w' : World) (wb h0 t0 m0 h1 t1 m1 nb dm lo1 : Nat) (a b : Int) : Prop where
  wld : Bk w' wb (wldC h0 h1 nb 0 0 (.slice none 0 0) (.map (some dm))) 65
  net : Bk w' nb #[.slice none 0 0] 94
  i0 : HIdle w.heap.size w' h0 t0 m0 a 0
  i1 : HIdle lo1 w' h1 t1 m1 b 0
  dms : Dm w' dm 16 wb deeds
  lt0 : h0 < lo1 ∧ t0 < lo1 ∧ m0 < lo1 ∧ w.heap.size ≤ lo1
  lt1 : h1 < nb ∧ t1 < nb ∧ m1 < nb ∧ lo1 ≤ nb ∧ nb < wb ∧ wb < dm
  below : Below w.heap.size w w'
set_option maxRecDepth 100000 in
set_option maxHeartbeats 6400000 in
theorem wnew_any (a b : Int) (w : World) : Calls Tryz.prog 12 #[.int .u64 a, .int .u64 b] w fun e w' => ∃ wb h0 t0 m0 h1 t1 m1 nb dm lo1, e = .returned (.pointer (some ⟨wb, 0, none⟩)) ∧ Wnew w w' wb h0 t0 m0 h1 t1 m1 nb dm lo1 a b := by
  have NA := Keep.mk (hnew_any a w)
  have NB : Keep (∀ W, Calls Tryz.prog 21 #[.int .u64 b] W fun e w' => ∃ hb tb m, e = .returned (.pointer (some ⟨hb, 0, none⟩)) ∧ W.heap.size ≤ hb ∧ hb ≠ m ∧
    Bk w' hb (hostC b 0 (.slice none 0 0) (.slice none 0 0) (.slice none 0 0) 0 tb 0 (.slice none 0 0)) 91 ∧ Tb w' W.heap.size tb m 0 4 (fun _ => none) 0 ∧ Below W.heap.size W w') := ⟨fun W => hnew_any b W⟩
  go_enter Tryz.func12, Tryz.ntmps12
  go_wp2_with (first
    | (go_at_call 21
       go_loud (refine NA.out.mono ?_; rintro e w1 ⟨h0, t0, m0, rfl, l0, e0, k0, b0, y0⟩)
       have K0 := Keep.mk (And.intro l0 (And.intro e0 (And.intro k0 (And.intro b0 y0))))
       clear l0 e0 k0 b0 y0 NA)
    | (go_at_call 21
       go_loud (refine (NB.out _).mono ?_; rintro e w2 ⟨h1, t1, m1, rfl, l1, e1, k1, b1, y1⟩)
       have K1 := Keep.mk (And.intro l1 (And.intro e1 (And.intro k1 (And.intro b1 y1))))
       clear l1 e1 k1 b1 y1)
    | (go_at_call 22
       go_loud (refine (netnew_any _).mono ?_; rintro e X ⟨rfl, hX⟩)
       rw [hX]
       clear hX)
    | fail)
  obtain ⟨w4, hw4⟩ : ∃ w4, (w2.alloc (.cells #[.slice none 0 0] 94)).alloc (.cells (wldC h0 h1 w2.heap.size 0 0 (.slice none 0 0) (.map none)) 65) = w4 := ⟨_, rfl⟩
  have X24 : Fz w2 w4 [] := hw4 ▸ ((Fz.alloc w2 _).trans (Fz.alloc _ _)).mono (by simp)
  have W4 : Bk w4 (w2.heap.size + 1) (wldC h0 h1 w2.heap.size 0 0 (.slice none 0 0) (.map none)) 65 := by
    have := Bk.new (w2.alloc (.cells #[.slice none 0 0] 94)) (wldC h0 h1 w2.heap.size 0 0 (.slice none 0 0) (.map none)) 65
    rw [hw4] at this
    simpa using this
  have N4 : Bk w4 w2.heap.size #[.slice none 0 0] 94 := hw4 ▸ (Bk.new w2 _ _).fz (Fz.alloc _ _) (by simp)
  have hs1 := K0.out.2.2.2.2.size
  have H1 := K1.out.2.2.1.fz X24 (by simp)
  have H0 := (K0.out.2.2.1.fz (Fz.below K1.out.2.2.2.2 (Nat.le_refl _)) (by simp)).fz X24 (by simp)
  have T1 := K1.out.2.2.2.1.fz X24 (by simp) (by simp)
  have T0 := (K0.out.2.2.2.1.fz (Fz.below K1.out.2.2.2.2 (Nat.le_refl _)) (by simp) (by simp)).fz X24 (by simp) (by simp)
  have LT : Keep (w.heap.size ≤ h0 ∧ h0 < w1.heap.size ∧ t0 < w1.heap.size ∧ m0 < w1.heap.size ∧ w1.heap.size ≤ h1 ∧ h1 < w2.heap.size ∧ t1 < w2.heap.size ∧ m1 < w2.heap.size ∧ w.heap.size ≤ w1.heap.size ∧ w1.heap.size ≤ w2.heap.size) :=
    ⟨K0.out.1, K0.out.2.2.1.lt, K0.out.2.2.2.1.lt, K0.out.2.2.2.1.mp.lt, K1.out.1, K1.out.2.2.1.lt, K1.out.2.2.2.1.lt, K1.out.2.2.2.1.mp.lt, hs1, K1.out.2.2.2.2.size⟩
  have NE : Keep (h0 ≠ m0 ∧ h1 ≠ m1 ∧ h0 ≠ t0 ∧ h1 ≠ t1) := ⟨K0.out.2.1, K1.out.2.1, K0.out.2.2.1.ne_ty K0.out.2.2.2.1.bk (by decide), K1.out.2.2.1.ne_ty K1.out.2.2.2.1.bk (by decide)⟩
  have F04 : Keep (Below w.heap.size w w4) := ⟨(K0.out.2.2.2.2.trans (K1.out.2.2.2.2.mono hs1)).trans (X24.toBelow (Nat.le_trans hs1 K1.out.2.2.2.2.size) (by simp))⟩
  have KW4 := Keep.mk W4
  have KN4 := Keep.mk N4
  have KH0 := Keep.mk H0
  have KH1 := Keep.mk H1
  have KT0 := Keep.mk T0
  have KT1 := Keep.mk T1
  have u0 := W4.c 0
  have u1 := W4.c 1
  simp at u0 u1
  rw [hw4]
  clear hw4 X24 W4 N4 hs1 H1 H0 T1 T0 K0 K1 NB
  go_wp2_with fail
  have IX0 : ∀ W : World, (Instr.index 59 (.agg #[.pointer (some ⟨h0, 0, none⟩), .pointer (some ⟨h1, 0, none⟩)]) (.int .i64 0)).run Tryz.prog W = .ok (.pointer (some ⟨h0, 0, none⟩)) W := fun W => by kernel_rfl
  have IX1 : ∀ W : World, (Instr.index 59 (.agg #[.pointer (some ⟨h0, 0, none⟩), .pointer (some ⟨h1, 0, none⟩)]) (.int .i64 1)).run Tryz.prog W = .ok (.pointer (some ⟨h1, 0, none⟩)) W := fun W => by kernel_rfl
  go_loopw [20] (fun i wr => ∃ j : Nat, ((j = 0 ∧ i = .int .i64 0) ∨ (j = 1 ∧ i = .int .i64 1) ∨ (j = 2 ∧ i = .int .i64 2)) ∧ Keep (∃ p0 p1, (j = 0 → p0 = .slice none 0 0) ∧ (j ≤ 1 → p1 = .slice none 0 0) ∧ Bk wr h0 (hostC a 0 (.slice none 0 0) p0 (.slice none 0 0) 0 t0 0 (.slice none 0 0)) 91 ∧ Bk wr h1 (hostC b 0 (.slice none 0 0) p1 (.slice none 0 0) 0 t1 0 (.slice none 0 0)) 91 ∧ Fz w4 wr [h0, h1])) (fun i _ => 2 - (intOf i).toNat)
  case atStart => exact ⟨0, .inl ⟨rfl, rfl⟩, ⟨_, _, fun _ => rfl, fun _ => rfl, KH0.out, KH1.out, (Fz.refl _).mono (by simp)⟩⟩
  case round =>
    obtain ⟨j, ⟨rfl, rfl⟩ | ⟨rfl, rfl⟩ | ⟨rfl, rfl⟩, HQ⟩ := hrel
    all_goals obtain ⟨p0, p1, q0, q1, b0, b1, fz⟩ := HQ.out
    · obtain rfl := q0 rfl
      have LI := Keep.mk (hlisten_any b0)
      have KB1 := Keep.mk b1
      have KF := Keep.mk fz
      have Q1 := Keep.mk q1
      clear b0 b1 fz q1 q0 HQ
      go_wp2_with (first
        | (go_at_call 23
           go_loud (refine LI.out.mono ?_; rintro e w5 ⟨p5, rfl, b5, f5⟩)
           have K5 : Keep (Bk w5 h0 (hostC a 0 (.slice none 0 0) p5 (.slice none 0 0) 0 t0 0 (.slice none 0 0)) 91 ∧ Bk w5 h1 (hostC b 0 (.slice none 0 0) p1 (.slice none 0 0) 0 t1 0 (.slice none 0 0)) 91 ∧ Fz w4 w5 [h0, h1]) := ⟨b5, KB1.out.fz f5 (by simp; have := LT.out; omega), (KF.out.trans f5).mono (by simp <;> omega)⟩
           clear b5 f5)
        | fail)
      go_roundw
      case rel => exact ⟨1, .inr (.inl ⟨rfl, by first | rfl | simp⟩), ⟨p5, p1, fun h => by omega, fun _ => Q1.out (by omega), K5.out⟩⟩
      case measure => simp [intOf]
    · obtain rfl := q1 (Nat.le_refl _)
      have LI := Keep.mk (hlisten_any b1)
      have KB1 := Keep.mk b0
      have KF := Keep.mk fz
      clear b0 b1 fz q1 q0 HQ
      go_wp2_with (first
        | (go_at_call 23
           go_loud (refine LI.out.mono ?_; rintro e w5 ⟨p5, rfl, b5, f5⟩)
           have K5 : Keep (Bk w5 h0 (hostC a 0 (.slice none 0 0) p0 (.slice none 0 0) 0 t0 0 (.slice none 0 0)) 91 ∧ Bk w5 h1 (hostC b 0 (.slice none 0 0) p5 (.slice none 0 0) 0 t1 0 (.slice none 0 0)) 91 ∧ Fz w4 w5 [h0, h1]) := ⟨KB1.out.fz f5 (by simp; have := LT.out; omega), b5, (KF.out.trans f5).mono (by simp <;> omega)⟩
           clear b5 f5)
        | fail)
      go_roundw
      case rel => exact ⟨2, .inr (.inr ⟨rfl, by first | rfl | simp⟩), ⟨p0, p5, fun h => by omega, fun h => by omega, K5.out⟩⟩
      case measure => simp [intOf]
    · have wbs := KW4.out.lt
      have hmk : (Instr.makeMap 63 none).run Tryz.prog wr = .ok (.map (some wr.heap.size)) (wr.alloc (.map #[] 0)) := rfl
      have d0 := Dm.made wr (w2.heap.size + 1)
      obtain ⟨v1, p1, d1, t1⟩ := d0.put (by unfold maxLen; omega) 0 24 (wfI_of (by omega) (by omega))
      obtain ⟨v2, p2, d2, t2⟩ := d1.put (by unfold maxLen; omega) 1 25 (wfI_of (by omega) (by omega))
      obtain ⟨v3, p3, d3, t3⟩ := d2.put (by unfold maxLen; omega) 2 26 (wfI_of (by omega) (by omega))
      obtain ⟨v4, p4, d4, t4⟩ := d3.put (by unfold maxLen; omega) 3 27 (wfI_of (by omega) (by omega))
      obtain ⟨v5, p5, d5, t5⟩ := d4.put (by unfold maxLen; omega) 4 28 (wfI_of (by omega) (by omega))
      obtain ⟨v6, p6, d6, t6⟩ := d5.put (by unfold maxLen; omega) 5 29 (wfI_of (by omega) (by omega))
      obtain ⟨v7, p7, d7, t7⟩ := d6.put (by unfold maxLen; omega) 6 30 (wfI_of (by omega) (by omega))
      obtain ⟨v8, p8, d8, t8⟩ := d7.put (by unfold maxLen; omega) 7 31 (wfI_of (by omega) (by omega))
      obtain ⟨v9, p9, d9, t9⟩ := d8.put (by unfold maxLen; omega) 8 32 (wfI_of (by omega) (by omega))
      obtain ⟨v10, p10, d10, t10⟩ := d9.put (by unfold maxLen; omega) 9 33 (wfI_of (by omega) (by omega))
      obtain ⟨v11, p11, d11, t11⟩ := d10.put (by unfold maxLen; omega) 10 34 (wfI_of (by omega) (by omega))
      obtain ⟨v12, p12, d12, t12⟩ := d11.put (by unfold maxLen; omega) 11 35 (wfI_of (by omega) (by omega))
      obtain ⟨v13, p13, d13, t13⟩ := d12.put (by unfold maxLen; omega) 12 36 (wfI_of (by omega) (by omega))
      obtain ⟨v14, p14, d14, t14⟩ := d13.put (by unfold maxLen; omega) 13 37 (wfI_of (by omega) (by omega))
      obtain ⟨v15, p15, d15, t15⟩ := d14.put (by unfold maxLen; omega) 14 38 (wfI_of (by omega) (by omega))
      obtain ⟨v16, p16, d16, t16⟩ := d15.put (by unfold maxLen; omega) 15 39 (wfI_of (by omega) (by omega))
      have XM : Fz wr v16 [wr.heap.size] := (((((((((((((((((Fz.alloc wr (.map #[] 0)).trans (Ft.turned t1).fz).trans (Ft.turned t2).fz).trans (Ft.turned t3).fz).trans (Ft.turned t4).fz).trans (Ft.turned t5).fz).trans (Ft.turned t6).fz).trans (Ft.turned t7).fz).trans (Ft.turned t8).fz).trans (Ft.turned t9).fz).trans (Ft.turned t10).fz).trans (Ft.turned t11).fz).trans (Ft.turned t12).fz).trans (Ft.turned t13).fz).trans (Ft.turned t14).fz).trans (Ft.turned t15).fz).trans (Ft.turned t16).fz).mono (by simp)
      have XM0 : Fz wr v16 [] := XM.mono (fun k hk hm => by simp at hm; omega)
      have lts := LT.out
      have W5 := (KW4.out.fz fz (by simp; omega)).fz XM0 (by simp)
      have f6 := W5.free 6
      have u6 : v16.cell? ⟨w2.heap.size + 1, 6, none⟩ = some (.map none) := W5.c 6
      have KW5 := Keep.mk W5
      have KN5 := Keep.mk ((KN4.out.fz fz (by simp; omega)).fz XM0 (by simp))
      have KD := Keep.mk d16
      have KF := Keep.mk (fz.trans XM0)
      have KB := Keep.mk (And.intro (b0.fz XM0 (by simp)) (b1.fz XM0 (by simp)))
      have SZ : Keep (w4.heap.size ≤ wr.heap.size ∧ w2.heap.size + 1 < w4.heap.size) := ⟨fz.size, wbs⟩
      clear HQ q0 q1 b0 b1 fz lts XM XM0 W5 wbs d1 t1 d2 t2 d3 t3 d4 t4 d5 t5 d6 t6 d7 t7 d8 t8 d9 t9 d10 t10 d11 t11 d12 t12 d13 t13 d14 t14 d15 t15 d16 t16 d0
      go_wp2_with fail
      go_ret
      have lt := LT.out
      have ne := NE.out
      have tl1 := KT1.out.lowb
      have tl2 := KT1.out.lowm
      have tl3 := KT0.out.lowb
      have tl4 := KT0.out.lowm
      have sz := SZ.out
      have dl := KD.out.lt
      have F9 : Fz w4 (v16.setCell ⟨w2.heap.size + 1, 6, none⟩ (.map (some wr.heap.size))) [h0, h1, w2.heap.size + 1] := (KF.out.trans (Fz.set v16 (w2.heap.size + 1) 6 (.map (some wr.heap.size)))).mono (by simp)
      have FS := Fz.set v16 (w2.heap.size + 1) 6 (.map (some wr.heap.size))
      refine ⟨_, h0, t0, m0, h1, t1, m1, w2.heap.size, wr.heap.size, w1.heap.size, rfl, ⟨KW5.out.set 6 _, KN5.out.fz FS (by simp), ⟨⟨_, KB.out.1.fz FS (by simp; omega)⟩, KT0.out.fz F9 (by simp; omega) (by simp; omega), lt.1⟩, ⟨⟨_, KB.out.2.fz FS (by simp; omega)⟩, KT1.out.fz F9 (by simp; omega) (by simp; omega), lt.2.2.2.2.1⟩, KD.out.same (FS.block _ dl (by simp; omega)), ⟨lt.2.1, lt.2.2.1, lt.2.2.2.1, lt.2.2.2.2.2.2.2.2.1⟩, ⟨lt.2.2.2.2.2.1, lt.2.2.2.2.2.2.1, lt.2.2.2.2.2.2.2.1, lt.2.2.2.2.2.2.2.2.2, by omega, by omega⟩, F04.out.trans (F9.toBelow (by omega) (by simp; omega))⟩⟩
end Go.Proofs.YtfjdhdeiaakbaaaGreatDoor
/-
  A world's two hosts, told by their number.
-/
namespace Go.Proofs.YtfjdhdeiaakbaaaGreatDoor
open Go.RowKit Go.Maps

theorem two_hosts (h0 h1 : Nat) : (∀ W : World, (Instr.index 59 (.agg #[.pointer (some ⟨h0, 0, none⟩), .pointer (some ⟨h1, 0, none⟩)]) (.int .i64 0)).run Tryz.prog W = .ok (.pointer (some ⟨h0, 0, none⟩)) W) ∧
    (∀ W : World, (Instr.index 59 (.agg #[.pointer (some ⟨h0, 0, none⟩), .pointer (some ⟨h1, 0, none⟩)]) (.int .i64 1)).run Tryz.prog W = .ok (.pointer (some ⟨h1, 0, none⟩)) W) :=
  ⟨fun W => by kernel_rfl, fun W => by kernel_rfl⟩
end Go.Proofs.YtfjdhdeiaakbaaaGreatDoor
