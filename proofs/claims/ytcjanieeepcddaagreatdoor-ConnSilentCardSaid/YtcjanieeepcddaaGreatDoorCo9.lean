/-
  A connection whose one leg dies: what its parts answer then.
-/
import Derived.Test.YtcjanieeepcddaaGreatDoorCo8
import Derived.Test.YtcjanieeepcddaaGreatDoorWhYa
namespace Go.Proofs.YtcjanieeepcddaaGreatDoor
open Go.RowKit

set_option maxRecDepth 100000 in
set_option maxHeartbeats 3200000 in
/-- Nothing is armed: Cancel of some handles. -/
theorem cancel_void {w : World} {base b m nb : Nat} {S : Nat → Value} {now : Int} (h : Wl w base b m nb S now []) (g k c : Nat) (hs : Nat → Int) (hg : g < w.heap.size) (hc : ∀ j, j < k → w.cell? ⟨g, j, none⟩ = some (.int .i64 (hs j)) ∧ wfI (hs j)) (hk : k ≤ 100) :
    Calls Tryz.prog 100 #[.pointer (some ⟨b, 0, none⟩), .slice (some ⟨g, 0, none⟩) k c] w fun e w' => e = .returned (.int .i64 0) ∧ Below w.heap.size w w' := by
  obtain ⟨N, hw, hi⟩ := h.ex
  have HW := Lib.hid hw
  have HC := Lib.hid hc
  clear h hw hi hc
  go_enter Tryz.func100, Tryz.ntmps100
  go_wp2
  go_loopw [5, 15] (fun n i wr => ∃ j : Nat, j ≤ k ∧ i = .int .i64 j ∧ n = .int .i64 0 ∧ Below w.heap.size w wr) (fun _ i _ => k - (intOf i).toNat)
  case atStart => exact ⟨0, by omega, rfl, rfl, Below.refl _ _⟩
  case round =>
    obtain ⟨j, hj, rfl, rfl, hb⟩ := hrel
    rcases Nat.lt_or_ge j k with hlt | hge
    · obtain ⟨h1, h2⟩ := HC.out j hlt
      have hWr := HW.out.below (hb.mono (Nat.le_refl _))
      have hcc : wr.cell? ⟨g, j, none⟩ = some (.int .i64 (hs j)) := (hb.cell hg).trans h1
      have hcm := (hWr.st.alloc (.cells #[.int .i64 (hs j)] 3)).mapC
      have hcb : (wr.alloc (.cells #[.int .i64 (hs j)] 3)).cell? ⟨wr.heap.size, 0, none⟩ = some (.int .i64 (hs j)) := by rw [World.cell?_alloc_new]; rfl
      obtain ⟨x, hx, -⟩ := ((hWr.mp.alloc (.cells #[.int .i64 (hs j)] 3)).drew 1).look h2
      rw [show tk [] (hs j) = none from rfl, Option.isSome_none] at hx
      have hji : ((j : Nat) : Int) < (k : Int) := by omega
      have HB := Keep.mk hb
      clear hWr h1 h2 hb
      go_wp2_with fail
      go_region_held3 (fun W => W.cell? ⟨b, 50, none⟩ = some (.map (some m)) ∧ W.cell? ⟨wr.heap.size, 0, none⟩ = some (.int .i64 (hs j)) ∧ (Instr.lookup 116 (.map (some m)) (.int .i64 (hs j)) true).run Tryz.prog W = .ok (.tuple #[.int .i64 x, .bool false]) W)
        (exact ⟨hcm, hcb, hx⟩)
        (fail)
      go_wp2_with fail
      go_roundw
      case rel => exact ⟨j + 1, by omega, by go_num, by first | rfl | trivial, (HB.out.alloc HB.out.size _).drew⟩
      case measure => simp [intOf] <;> omega
    · obtain rfl : j = k := by omega
      go_wp2_with fail
      go_ret
      exact ⟨rfl, hb⟩

section
variable {w0 w : World} {base wb wm nb : Nat} {S : Nat → Value} {now : Int} {L : List Due} {c sd st rv mp st2 lg fl pb q : Nat} {p1 p2 k state err ld : Int} {out fout : Value} {times rcv tries at_ since : Int} {has twice : Bool} {carr farr : Array Value}
set_option maxRecDepth 100000 in
theorem pump_any (tick : Int) (c7 : w.cell? ⟨c, 7, none⟩ = some (.int .i64 0)) : Calls Tryz.prog 75 #[.pointer (some ⟨c, 0, none⟩), .int .i64 tick] w fun e w' => e = .returned (.tuple #[]) ∧ w' = w := by
  go_enter Tryz.func75, Tryz.ntmps75
  go_wp2_with fail
  try simp only [Exit.inBlock, Exit.then]
  refine bodyPost_ret (results_none rfl _ _ _) rfl ⟨rfl, rfl⟩
set_option maxRecDepth 100000 in
set_option maxHeartbeats 1600000 in
theorem tellend_any (tick : Int) (h : Cs w0 w base wb wm nb S now L c sd st rv mp st2 lg fl carr farr) (h9 : carr[9]? = some (.pointer (some ⟨sd, 0, none⟩))) (h22 : carr[22]? = some (.pointer (some ⟨wb, 0, none⟩))) (hn : 0 ≤ now) (hn2 : now < 2305843009213693952) (hL : L.length ≤ 10000) (h8 : tk L 8 = none) :
    Calls Tryz.prog 76 #[.pointer (some ⟨c, 0, none⟩), .int .i64 tick] w fun e w' => e = .returned (.tuple #[]) ∧ ∃ S', Cs w0 w' base wb wm nb S' now (dropH 8 L) c sd st rv mp st2 lg fl carr farr ∧ Fm w w' wb wm S S' := by
  have c9 : w.cell? ⟨c, 9, none⟩ = some (.pointer (some ⟨sd, 0, none⟩)) := (h.cn.c 9).trans h9
  have DN := Keep.mk (due_no w h.snd)
  have W8 : Keep (wfI 8) := ⟨wfI_of (by omega) (by omega)⟩
  have HC := Keep.mk h
  have H22 := Keep.mk h22
  have HN : Keep (0 ≤ now ∧ now < 2305843009213693952 ∧ L.length ≤ 10000) := ⟨hn, hn2, hL⟩
  have H8 := Keep.mk h8
  clear h hn hn2 hL h8 h9 h22
  go_enter Tryz.func76, Tryz.ntmps76
  go_wp2_with (first
    | (go_at_call 129
       go_loud (refine DN.out.mono ?_; rintro e w1 ⟨rfl, n1, hw1⟩)
       have C1 := Keep.mk (HC.out.quiet (w1 := w1) (by rw [hw1]; exact below_dn w n1))
       have c22 : w1.cell? ⟨c, 22, none⟩ = some (.pointer (some ⟨wb, 0, none⟩)) := (C1.out.cn.c 22).trans H22.out
       have AT := Keep.mk (at_wl C1.out.wl W8.out)
       have M1 : Keep (Fm w w1 wb wm S S) := ⟨Fm.quiet (by rw [hw1]; exact below_dn w n1) _ _ _⟩
       clear hw1)
    | (go_at_call 130
       go_loud (refine AT.out.mono ?_; rintro e X ⟨cx, rfl, -, hX⟩)
       rw [hX, H8.out]
       clear hX
       have C2 := Keep.mk (C1.out.quiet ((Below.refl _ w1).alloc (Nat.le_refl _) (.cells #[.int .i64 8] 3)))
       have CW := Keep.mk (cancel_wl (c := 1) C2.out.wl C2.out.hs (by simp) (cells_one w1 8) W8.out HN.out.1 HN.out.2.1 HN.out.2.2))
    | (go_at_call 100
       go_loud (refine CW.out.mono ?_; rintro e w3 ⟨rfl, S', wl3, fm3⟩)
       have C3 := Keep.mk (C2.out.wheel wl3 fm3)
       have M3 := Keep.mk ((M1.out.trans (Fm.alloc w1 _ wb wm S)).trans fm3)
       clear wl3 fm3)
    | fail)
  try simp only [Exit.inBlock, Exit.then]
  refine bodyPost_ret (results_none rfl _ _ _) rfl ⟨rfl, S', C3.out, M3.out⟩
set_option maxRecDepth 100000 in
set_option maxHeartbeats 1600000 in
theorem flush_none (hl : Bk w lg (legC fl) 61) (hf : Bk w fl (flC q times state rcv tries at_ has since twice (.slice none 0 0)) 105) :
    Calls Tryz.prog 77 #[.pointer (some ⟨c, 0, none⟩), .pointer (some ⟨lg, 0, none⟩), .slice none 0 0] w fun e w' => e = .returned (.tuple #[]) ∧ Bk w' fl (flC q times state rcv tries at_ has since twice (.slice none 0 0)) 105 ∧ Fz w w' [fl] := by
  have c0l : w.cell? ⟨lg, 0, none⟩ = some (.pointer (some ⟨fl, 0, none⟩)) := hl.c 0
  have FO := Keep.mk (fout_any hf none 0 0 rfl)
  clear hl hf
  go_enter Tryz.func77, Tryz.ntmps77
  go_wp2_with (first
    | (go_at_call 99
       go_loud (refine FO.out.mono ?_; rintro e w1 ⟨rfl, f1, e1⟩)
       have F1 := Keep.mk f1
       have K1 := Keep.mk e1
       clear f1 e1)
    | fail)
  clear c0l
  go_loopw [17] (fun i wr => i = .int .i64 0 ∧ wr = w1) (fun i _ => 1 - (intOf i).toNat)
  case atStart => exact ⟨rfl, rfl⟩
  case round =>
    obtain ⟨rfl, rfl⟩ := hrel
    go_wp2_with fail
    go_end0
    exact ⟨rfl, F1.out, K1.out⟩
set_option maxRecDepth 100000 in
set_option maxHeartbeats 3200000 in
/-- The fifth time: it is dead. -/
theorem expire_dead (tick : Int) (h : Bk w fl (flC q times 1 rcv 4 tick true since twice (.slice none 0 0)) 105) :
    Calls Tryz.prog 88 #[.pointer (some ⟨fl, 0, none⟩), .int .i64 tick] w fun e w' => e = .returned (.agg (heardZ true)) ∧ Bk w' fl (flC q times 11 rcv 5 0 false since twice (.slice none 0 0)) 105 ∧ Fz w w' [fl] := by
  obtain ⟨W, hW⟩ : ∃ W, w.alloc (.cells (heardZ false) 86) = W := ⟨_, rfl⟩
  have R0 : Keep (Bk W w.heap.size (heardZ false) 86) := ⟨hW ▸ Bk.new w _ _⟩
  have A0 : Fz w W [] := hW ▸ Fz.alloc w _
  have F0 := h.fz A0 (by simp)
  have HFL : Keep (fl < w.heap.size) := ⟨h.lt⟩
  have c9 : W.cell? ⟨fl, 9, none⟩ = some (.bool true) := F0.c 9
  have c8 : W.cell? ⟨fl, 8, none⟩ = some (.int .i64 tick) := F0.c 8
  have c5 : W.cell? ⟨fl, 5, none⟩ = some (.int .i64 1) := F0.c 5
  have c7 : W.cell? ⟨fl, 7, none⟩ = some (.int .i64 4) := F0.c 7
  have f7 := F0.free 7
  have B1 : Bk (W.setCell ⟨fl, 7, none⟩ (.int .i64 5)) fl (flC q times 1 rcv 5 tick true since twice (.slice none 0 0)) 105 := F0.set 7 _
  have d7 : (W.setCell ⟨fl, 7, none⟩ (.int .i64 5)).cell? ⟨fl, 7, none⟩ = some (.int .i64 5) := B1.c 7
  have DD := Keep.mk (dead_any B1)
  have KA := Keep.mk A0
  have KE1 := Keep.mk (Fz.set W fl 7 (.int .i64 5))
  have HONE : Keep ((heardZ true).all (fun x => x.oneCell') = true) := ⟨by simp [Value.oneCell']⟩
  clear h A0 F0 B1
  go_enter Tryz.func88, Tryz.ntmps88
  go_wp2_with (first
    | (go_at_call 146
       try rw [hW]
       go_loud (refine DD.out.mono ?_; rintro e w2 ⟨rfl, b2, e2⟩)
       have X2 : Keep (Fz W w2 [fl]) := ⟨(KE1.out.trans e2).mono (by simp)⟩
       have R2 := Keep.mk (R0.out.fz X2.out (by have := HFL.out; simp; omega))
       have F2 := Keep.mk b2
       clear b2 e2)
    | (refine Go.wpList_store_row rfl 86 (.tmp 4) (.tmp 48) rfl w.heap.size (heardZ true) rfl rfl 86 _ R2.out.eq (by kernel_rfl) rfl HONE.out ?_)
    | fail)
  try simp only [Exit.inBlock, Exit.then]
  refine bodyPost_ret (v := .agg (heardZ true)) (results_cell_row Tryz.results88 _ _ w.heap.size 86 _ (0, 0) _ rfl (setRow_heap _ _ _ _ _ _ R2.out.eq) Tryz.underlying86 rfl (by kernel_rfl)) rfl ⟨rfl, F2.out.fz (Fz.row _ _ _) (by have := HFL.out; simp; omega), ((KA.out.trans X2.out).trans (Fz.row _ _ _)).mono (by simp; omega)⟩
end
end Go.Proofs.YtcjanieeepcddaaGreatDoor
/-
  The timer of a connection's leg: it sends again, or it dies.
-/
namespace Go.Proofs.YtcjanieeepcddaaGreatDoor
open Go.RowKit

section
variable {w : World} {c sd rv pb lg wb fl q : Nat} {p1 p2 k : Int} {out fout : Value} {times state rcv tries at_ since : Int} {has twice : Bool}
set_option maxRecDepth 100000 in
theorem left_row (g cc : Nat) (s e0 : Int) (hf : Bk w fl (flC q times state rcv tries at_ has since twice fout) 105) (hq : Bk w q #[.slice (some ⟨g, 0, none⟩) 1 cc, .int .u32 e0] 163) (hc : ∀ j u, (synP s).toList[j]? = some u → w.cell? ⟨g, j, none⟩ = some u) (hgl : g < w.heap.size) :
    Calls Tryz.prog 143 #[.pointer (some ⟨fl, 0, none⟩)] w fun e w' => ∃ g', e = .returned (.slice (some ⟨g', 0, none⟩) 1 1) ∧ w.heap.size ≤ g' ∧ Bk w' g' (synP s) 108 ∧ Below w.heap.size w w' := by
  have c0 : w.cell? ⟨fl, 0, none⟩ = some (.pointer (some ⟨q, 0, none⟩)) := hf.c 0
  have QA := Keep.mk (qall_row g cc s e0 w hq hc hgl)
  clear hf hq hc hgl
  go_enter Tryz.func143, Tryz.ntmps143
  go_wp2_with (first
    | (go_at_call 158
       go_loud (refine QA.out.mono ?_; rintro e w1 ⟨g', rfl, lo, b1, be⟩)
       have K1 : Keep (w.heap.size ≤ g' ∧ Bk w1 g' (synP s) 108 ∧ Below w.heap.size w w1) := ⟨lo, b1, be⟩
       clear lo b1 be)
    | fail)
  go_ret
  exact ⟨g', rfl, K1.out⟩
set_option maxRecDepth 100000 in
set_option maxHeartbeats 3200000 in
theorem lost_row (g cc : Nat) (s e0 : Int) (h : Bk w c (conD p1 p2 k sd rv pb lg wb out) 68) (hl : Bk w lg (legC fl) 61) (hf : Bk w fl (flC q times state rcv tries at_ has since twice fout) 105) (hq : Bk w q #[.slice (some ⟨g, 0, none⟩) 1 cc, .int .u32 e0] 163) (hc : ∀ j u, (synP s).toList[j]? = some u → w.cell? ⟨g, j, none⟩ = some u) (hgl : g < w.heap.size) (hp : Bk w pb pathC 153) :
    Calls Tryz.prog 89 #[.pointer (some ⟨c, 0, none⟩), .pointer (some ⟨lg, 0, none⟩)] w fun e w' => e = .returned (.tuple #[]) ∧ Bk w' pb pathG 153 ∧ Fz w w' [pb] := by
  have c0 : w.cell? ⟨lg, 0, none⟩ = some (.pointer (some ⟨fl, 0, none⟩)) := hl.c 0
  have LR := Keep.mk (left_row g cc s e0 hf hq hc hgl)
  have NE : Keep (c ≠ pb ∧ lg ≠ pb) := ⟨h.ne_ty hp (by decide), hl.ne_ty hp (by decide)⟩
  have HC := Keep.mk h
  have HL := Keep.mk hl
  have HP := Keep.mk hp
  clear h hl hf hq hc hgl hp
  go_enter Tryz.func89, Tryz.ntmps89
  go_wp2_with (first
    | (go_at_call 143
       go_loud (refine LR.out.mono ?_; rintro e w1 ⟨g', rfl, lo, b1, be⟩)
       have B1 := Keep.mk b1
       have K1 := Keep.mk (Fz.below be (Nat.le_refl _))
       clear lo b1 be)
    | fail)
  clear c0
  go_loopw [12] (fun i wr => ∃ j : Nat, j ≤ 1 ∧ i = .int .i64 j ∧ Below w1.heap.size w1 wr) (fun i _ => 1 - (intOf i).toNat)
  case atStart => exact ⟨0, by omega, rfl, Below.refl _ _⟩
  case round =>
    obtain ⟨j, hj, rfl, hb⟩ := hrel
    have X := Fz.below hb (Nat.le_refl _)
    rcases Nat.lt_or_ge j 1 with hlt | hge
    · obtain rfl : j = 0 := by omega
      have R1 := B1.out.fz X (by simp)
      have r0 : wr.cell? ⟨g', 0, none⟩ = some (.int .u32 s) := R1.c 0
      have r1 : wr.cell? ⟨g', 1, none⟩ = some (.bool true) := R1.c 1
      have r2 : wr.cell? ⟨g', 2, none⟩ = some (.bool false) := R1.c 2
      have r3 : wr.cell? ⟨g', 3, none⟩ = some (.slice none 0 0) := R1.c 3
      have r4 : wr.cell? ⟨g', 4, none⟩ = some (.int .i64 0) := R1.c 4
      have r5 : wr.cell? ⟨g', 5, none⟩ = some (.bool false) := R1.c 5
      have HB := Keep.mk hb
      clear hb X R1
      go_wp2_with fail
      go_roundw
      case rel => exact ⟨1, by omega, rfl, HB.out.alloc HB.out.size _⟩
      case measure => simp [intOf]
    · obtain rfl : j = 1 := by omega
      have KX := Keep.mk ((K1.out.trans X).mono (cs' := []) (by simp))
      have C2 := HC.out.fz KX.out (by simp)
      have L2 := HL.out.fz KX.out (by simp)
      have P2 := Keep.mk (HP.out.fz KX.out (by simp))
      have d11 : wr.cell? ⟨c, 11, none⟩ = some (.pointer (some ⟨pb, 0, none⟩)) := C2.c 11
      have d1 : wr.cell? ⟨lg, 1, none⟩ = some (.int .i64 0) := L2.c 1
      have d2 : wr.cell? ⟨lg, 2, none⟩ = some (.int .i64 1) := L2.c 2
      have KC2 := Keep.mk C2
      have KL2 := Keep.mk L2
      have GN := Keep.mk (gone_01 (pb := pb) wr.drew (P2.out.fz (Fz.drew wr 1) (by simp)))
      clear X hb C2 L2
      go_wp2_with fail
      go_region_held3 (fun W => W.cell? ⟨c, 11, none⟩ = some (.pointer (some ⟨pb, 0, none⟩)) ∧ W.cell? ⟨lg, 1, none⟩ = some (.int .i64 0) ∧ W.cell? ⟨lg, 2, none⟩ = some (.int .i64 1))
        (first | exact ⟨d11, d1, d2⟩ | exact ⟨(KC2.out.fz X3.out (by simp; exact NE.out.1)).c 11, (KL2.out.fz X3.out (by simp; exact NE.out.2)).c 1, (KL2.out.fz X3.out (by simp; exact NE.out.2)).c 2⟩)
        (first
          | (go_at_call 149
             go_loud (refine GN.out.mono ?_; rintro e w3 ⟨rfl, p3, x3⟩)
             have X3 : Keep (Fz wr w3 [pb]) := ⟨((Fz.drew wr 1).trans x3).mono (by simp)⟩
             have P3 := Keep.mk p3
             clear x3 p3)
          | fail)
      go_wp2_with fail
      go_end0
      exact ⟨rfl, P3.out, (KX.out.trans X3.out).mono (by simp)⟩
set_option maxRecDepth 100000 in
set_option maxHeartbeats 3200000 in
theorem died_row (g cc : Nat) (s e0 : Int) (h : Bk w c (conD p1 p2 k sd rv pb lg wb out) 68) (hl : Bk w lg (legC fl) 61) (hf : Bk w fl (flC q times state rcv tries at_ has since twice fout) 105) (hq : Bk w q #[.slice (some ⟨g, 0, none⟩) 1 cc, .int .u32 e0] 163) (hc : ∀ j u, (synP s).toList[j]? = some u → w.cell? ⟨g, j, none⟩ = some u) (hgl : g < w.heap.size) (hp : Bk w pb pathC 153) :
    Calls Tryz.prog 50 #[.pointer (some ⟨c, 0, none⟩), .pointer (some ⟨lg, 0, none⟩), .int .i64 13] w fun e w' => e = .returned (.tuple #[]) ∧ Bk w' pb pathG 153 ∧ Bk w' c (conE p1 p2 k 0 0 13 sd rv pb lg wb out) 68 ∧ Fz w w' [pb, c] := by
  have LO := Keep.mk (lost_row g cc s e0 h hl hf hq hc hgl hp)
  have HC := Keep.mk h
  have NE : Keep (c ≠ pb) := ⟨h.ne_ty hp (by decide)⟩
  clear h hl hf hq hc hgl hp
  go_enter Tryz.func50, Tryz.ntmps50
  go_wp2_with (first
    | (go_at_call 89
       go_loud (refine LO.out.mono ?_; rintro e w1 ⟨rfl, p1', x1⟩)
       have C1 := HC.out.fz x1 (by simp; exact NE.out)
       have c27 : w1.cell? ⟨c, 27, none⟩ = some (.int .i64 0) := C1.c 27
       have f27 := C1.free 27
       have C2 : Bk (w1.setCell ⟨c, 27, none⟩ (.int .i64 13)) c (conE p1 p2 k 0 0 13 sd rv pb lg wb out) 68 := C1.set 27 _
       have c28 : (w1.setCell ⟨c, 27, none⟩ (.int .i64 13)).cell? ⟨c, 28, none⟩ = some (.bool false) := C2.c 28
       have P1 := Keep.mk p1'
       have X1 := Keep.mk x1
       have KC2 := Keep.mk C2
       clear p1' x1 C1 C2)
    | fail)
  go_end0
  exact ⟨rfl, P1.out.fz (Fz.set w1 c 27 _) (by simp; exact fun e => NE.out e.symm), KC2.out, (X1.out.trans (Fz.set w1 c 27 _)).mono (by simp)⟩
set_option maxRecDepth 100000 in
set_option maxHeartbeats 3200000 in
/-- The leg's timer, up to four times. -/
theorem cexpire_live (n : Nat) (hn : n ≤ 3) (s e0 tick : Int) (g cc : Nat) (h : Bk w c (conD p1 p2 k sd rv pb lg wb out) 68) (hl : Bk w lg (legC fl) 61) (hf : Bk w fl (flC q (n : Int) 1 rcv (n : Int) tick true since twice (.slice none 0 0)) 105) (hq : Bk w q #[.slice (some ⟨g, 0, none⟩) 1 cc, .int .u32 e0] 163)
    (hgf : g ≠ fl) (hc : ∀ j u, (synP s).toList[j]? = some u → w.cell? ⟨g, j, none⟩ = some u) (hgl : g < w.heap.size) (h1 : -4611686018427387904 < tick) (h2 : tick < 4611686018427387904) :
    Calls Tryz.prog 33 #[.pointer (some ⟨c, 0, none⟩), .int .i64 0, .int .i64 tick] w fun e w' => e = .returned (.tuple #[]) ∧ ∃ g' c', One w w' 177 9 g' c' (synO s) ∧ Bk w' fl (flC q ((n + 1 : Nat) : Int) 1 rcv ((n + 1 : Nat) : Int) (tick + wt (n + 1)) true since true (.slice (some ⟨g', 0, none⟩) 1 c')) 105 ∧ Fz w w' [fl] := by
  have c12 : w.cell? ⟨c, 12, none⟩ = some (.pointer (some ⟨lg, 0, none⟩)) := h.c 12
  have c0 : w.cell? ⟨lg, 0, none⟩ = some (.pointer (some ⟨fl, 0, none⟩)) := hl.c 0
  have EX := Keep.mk (expire_n n hn s e0 tick g cc hf hq (hf.ne_ty hq (by decide)) hgf hc hgl h1 h2)
  have NL : Keep (lg ≠ fl) := ⟨hl.ne_ty hf (by decide)⟩
  have HL := Keep.mk hl
  clear h hl hf hq hgf hc hgl h1 h2
  go_enter Tryz.func33, Tryz.ntmps33
  go_wp2_with (first
    | (go_at_call 88
       go_loud (refine EX.out.mono ?_; rintro e w1 ⟨rfl, g', c', o1, f1, x1⟩)
       have A1 := Fz.alloc w1 (.cells (heardZ false) 86)
       have O1 := Keep.mk (o1.fz A1 (by simp))
       have F1 := Keep.mk (f1.fz A1 (by simp))
       have X1 : Keep (Fz w (w1.alloc (.cells (heardZ false) 86)) [fl]) := ⟨(x1.trans A1).mono (by simp)⟩
       have d3 : (w1.alloc (.cells (heardZ false) 86)).cell? ⟨w1.heap.size, 3, none⟩ = some (.bool false) := by rw [World.cell?_alloc_new]; rfl
       have OV := Keep.mk (over_any lg fl q _ 1 rcv _ _ true since true _ _ (HL.out.fz X1.out (by simp; exact NL.out)) F1.out)
       clear o1 f1 x1 A1)
    | (go_at_call 38
       go_loud (refine OV.out.mono ?_; rintro e X ⟨rfl, hX⟩)
       rw [hX]
       clear hX)
    | fail)
  try go_end0
  exact ⟨rfl, g', c', O1.out, F1.out, X1.out⟩
set_option maxRecDepth 100000 in
set_option maxHeartbeats 3200000 in
/-- The fifth time the leg dies. -/
theorem cexpire_dead (s e0 tick : Int) (g cc : Nat) (h : Bk w c (conD p1 p2 k sd rv pb lg wb out) 68) (hl : Bk w lg (legC fl) 61) (hf : Bk w fl (flC q times 1 rcv 4 tick true since twice (.slice none 0 0)) 105) (hq : Bk w q #[.slice (some ⟨g, 0, none⟩) 1 cc, .int .u32 e0] 163)
    (hgf : g ≠ fl) (hc : ∀ j u, (synP s).toList[j]? = some u → w.cell? ⟨g, j, none⟩ = some u) (hgl : g < w.heap.size) (hp : Bk w pb pathC 153) :
    Calls Tryz.prog 33 #[.pointer (some ⟨c, 0, none⟩), .int .i64 0, .int .i64 tick] w fun e w' => e = .returned (.tuple #[]) ∧ Bk w' c (conE p1 p2 k 0 0 13 sd rv pb lg wb out) 68 ∧ Bk w' fl (flC q times 11 rcv 5 0 false since twice (.slice none 0 0)) 105 ∧ Fz w w' [fl, pb, c] := by
  have c12 : w.cell? ⟨c, 12, none⟩ = some (.pointer (some ⟨lg, 0, none⟩)) := h.c 12
  have c0 : w.cell? ⟨lg, 0, none⟩ = some (.pointer (some ⟨fl, 0, none⟩)) := hl.c 0
  have EX := Keep.mk (expire_dead tick hf)
  have NL : Keep (lg ≠ fl ∧ c ≠ fl ∧ q ≠ fl ∧ pb ≠ fl ∧ g ≠ fl ∧ g < w.heap.size) := ⟨hl.ne_ty hf (by decide), h.ne_ty hf (by decide), hq.ne_ty hf (by decide), hp.ne_ty hf (by decide), hgf, hgl⟩
  have HC := Keep.mk h
  have HL := Keep.mk hl
  have HQ := Keep.mk hq
  have HP := Keep.mk hp
  have HR := Lib.hid hc
  clear h hl hf hq hgf hc hgl hp
  go_enter Tryz.func33, Tryz.ntmps33
  go_wp2_with (first
    | (go_at_call 88
       go_loud (refine EX.out.mono ?_; rintro e w1 ⟨rfl, f1, x1⟩)
       have A1 := Fz.alloc w1 (.cells (heardZ true) 86)
       have F1 := Keep.mk (f1.fz A1 (by simp))
       have X1 : Keep (Fz w (w1.alloc (.cells (heardZ true) 86)) [fl]) := ⟨(x1.trans A1).mono (by simp)⟩
       have d3 : (w1.alloc (.cells (heardZ true) 86)).cell? ⟨w1.heap.size, 3, none⟩ = some (.bool true) := by rw [World.cell?_alloc_new]; rfl
       have DI := Keep.mk (died_row g cc s e0 (HC.out.fz X1.out (by simp; exact NL.out.2.1)) (HL.out.fz X1.out (by simp; exact NL.out.1)) F1.out (HQ.out.fz X1.out (by simp; exact NL.out.2.2.1)) (fun j u hu => (World.cell?_of_block (X1.out.block g NL.out.2.2.2.2.2 (by simp; exact NL.out.2.2.2.2.1))).trans (HR.out j u hu)) (Nat.lt_of_lt_of_le NL.out.2.2.2.2.2 X1.out.size) (HP.out.fz X1.out (by simp; exact NL.out.2.2.2.1)))
       clear f1 x1 A1)
    | (go_at_call 50
       go_loud (refine DI.out.mono ?_; rintro e w2 ⟨rfl, p2', c2', x2⟩)
       have C2 := Keep.mk c2'
       have F2 := Keep.mk (F1.out.fz x2 (by simp; exact ⟨fun e => NL.out.2.2.2.1 e.symm, fun e => NL.out.2.1 e.symm⟩))
       have X2 : Keep (Fz w w2 [fl, pb, c]) := ⟨(X1.out.trans x2).mono (by simp)⟩
       clear p2' c2' x2)
    | fail)
  try go_end0
  exact ⟨rfl, C2.out, F2.out, X2.out⟩
end
end Go.Proofs.YtcjanieeepcddaaGreatDoor
/-
  A connection whose one leg is dead: it fails; its timers are struck.
-/
namespace Go.Proofs.YtcjanieeepcddaaGreatDoor
open Go.RowKit

section
variable {w0 w : World} {base wb wm nb : Nat} {S : Nat → Value} {now : Int} {c sd st rv mp st2 lg fl pb q : Nat} {p1 p2 k : Int} {out fout : Value} {times rcv tries at_ since : Int} {has twice : Bool}
set_option maxRecDepth 100000 in
set_option maxHeartbeats 3200000 in
theorem fail_dead (tick : Int) (h : Bk w c (conE p1 p2 k 0 0 13 sd rv pb lg wb out) 68) (hl : Bk w lg (legC fl) 61) (hf : Bk w fl (flC q times 11 rcv tries at_ has since twice fout) 105) :
    Calls Tryz.prog 62 #[.pointer (some ⟨c, 0, none⟩), .int .i64 13, .int .i64 tick, .slice none 0 0] w fun e w' => e = .returned (.tuple #[]) ∧ Bk w' c (conE p1 p2 k 8 13 13 sd rv pb lg wb out) 68 ∧ Fz w w' [c] := by
  have c7 : w.cell? ⟨c, 7, none⟩ = some (.int .i64 0) := h.c 7
  have c8 : w.cell? ⟨c, 8, none⟩ = some (.int .i64 0) := h.c 8
  have f8 := h.free 8
  have n1 : lg ≠ c := hl.ne_ty h (by decide)
  have n2 : fl ≠ c := hf.ne_ty h (by decide)
  obtain ⟨w1, hw1⟩ : ∃ w1, w.setCell ⟨c, 8, none⟩ (.int .i64 13) = w1 := ⟨_, rfl⟩
  have E1 : Fz w w1 [c] := hw1 ▸ Fz.set w c 8 _
  have B1 : Bk w1 c (conE p1 p2 k 0 13 13 sd rv pb lg wb out) 68 := hw1 ▸ h.set 8 _
  have OV := Keep.mk (over_any lg fl q times 11 rcv tries at_ has since twice fout w1 (hl.fz E1 (by simp; exact n1)) (hf.fz E1 (by simp; exact n2)))
  have MV := Keep.mk (move_abort tick B1 (hl.fz E1 (by simp; exact n1)) (hf.fz E1 (by simp; exact n2)) n1 n2)
  have KE := Keep.mk E1
  have l0 : w1.cell? ⟨c, 12, none⟩ = some (.pointer (some ⟨lg, 0, none⟩)) := B1.c 12
  have l1 : w1.cell? ⟨c, 13, none⟩ = some (.pointer none) := B1.c 13
  have l2 : w1.cell? ⟨c, 14, none⟩ = some (.pointer none) := B1.c 14
  have l3 : w1.cell? ⟨c, 15, none⟩ = some (.pointer none) := B1.c 15
  have l4 : w1.cell? ⟨c, 16, none⟩ = some (.pointer none) := B1.c 16
  have l5 : w1.cell? ⟨c, 17, none⟩ = some (.pointer none) := B1.c 17
  have l6 : w1.cell? ⟨c, 18, none⟩ = some (.pointer none) := B1.c 18
  have l7 : w1.cell? ⟨c, 19, none⟩ = some (.pointer none) := B1.c 19
  clear h hl hf E1 B1 n1 n2
  go_enter Tryz.func62, Tryz.ntmps62
  go_wp2_with (first | (rw [hw1]; fail) | fail)
  try rw [hw1]
  try go_wp2_with fail
  clear l0 l1 l2 l3 l4 l5 l6 l7 c7 c8 f8 hw1
  go_loopw [23] (fun i wr => ∃ j : Nat, j ≤ 8 ∧ i = .int .i64 j ∧ wr = w1) (fun i _ => 8 - (intOf i).toNat)
  case atStart => exact ⟨0, by omega, rfl, rfl⟩
  case round =>
    obtain ⟨j, hj, rfl, rfl⟩ := hrel
    rcases Nat.lt_or_ge j 8 with hlt | hge
    · have hji : ((j : Nat) : Int) < 8 := by omega
      rcases Nat.eq_zero_or_pos j with rfl | hpos
      · have ix := index_leg (legsA lg) 0 _ rfl (by omega) wr
        rw [show ((0 : Nat) : Int) = 0 from rfl] at ix
        go_wp2_with (first
          | (go_at_call 38
             go_loud (refine OV.out.mono ?_; rintro e X ⟨rfl, hX⟩)
             rw [hX]
             clear hX)
          | fail)
        go_roundw
        case rel => exact ⟨1, by omega, by go_num, by first | rfl | trivial⟩
        case measure => simp [intOf]
      · have ix := index_leg (legsA lg) j _ (legsA_nil hpos hlt) hlt wr
        clear hpos
        go_wp2_with (first
          | (go_at_call 38
             go_loud (refine (over_nil _).mono ?_; rintro e X ⟨rfl, hX⟩)
             rw [hX]
             clear hX)
          | fail)
        go_roundw
        case rel => exact ⟨j + 1, by omega, by go_num, by first | rfl | trivial⟩
        case measure => simp [intOf] <;> omega
    · obtain rfl : j = 8 := by omega
      go_wp2_with (first
        | (go_at_call 49
           go_loud (refine MV.out.mono ?_; rintro e w2 ⟨rfl, c2, x2⟩)
           have C2 := Keep.mk c2
           have X2 := Keep.mk ((KE.out.trans x2).mono (cs' := [c]) (by simp))
           clear c2 x2)
        | fail)
      go_end0
      exact ⟨rfl, C2.out, X2.out⟩
set_option maxRecDepth 100000 in
theorem alone_dead (tick : Int) (h : Bk w c (conE p1 p2 k 0 0 13 sd rv pb lg wb out) 68) (hl : Bk w lg (legC fl) 61) (hf : Bk w fl (flC q times 11 rcv tries at_ has since twice fout) 105) :
    Calls Tryz.prog 78 #[.pointer (some ⟨c, 0, none⟩), .int .i64 tick] w fun e w' => e = .returned (.tuple #[]) ∧ Bk w' c (conE p1 p2 k 8 13 13 sd rv pb lg wb out) 68 ∧ Fz w w' [c] := by
  have c7 : w.cell? ⟨c, 7, none⟩ = some (.int .i64 0) := h.c 7
  have c27 : w.cell? ⟨c, 27, none⟩ = some (.int .i64 13) := h.c 27
  have LG := Keep.mk (legs_none h hl hf)
  have FD := Keep.mk (fail_dead tick h hl hf)
  clear h hl hf
  go_enter Tryz.func78, Tryz.ntmps78
  go_wp2_with (first
    | (go_at_call 24
       go_loud (refine LG.out.mono ?_; rintro e X ⟨rfl, hX⟩)
       rw [hX]
       clear hX)
    | (go_at_call 62
       go_loud (refine FD.out.mono ?_; rintro e w2 ⟨rfl, c2, x2⟩)
       have C2 := Keep.mk c2
       have X2 := Keep.mk x2
       clear c2 x2)
    | fail)
  go_end0
  exact ⟨rfl, C2.out, X2.out⟩
set_option maxRecDepth 100000 in
set_option maxHeartbeats 6400000 in
theorem arm_closed (tick : Int) (h : Cs w0 w base wb wm nb S now [] c sd st rv mp st2 lg fl (conE p1 p2 k 8 13 13 sd rv pb lg wb out) (flC q times 11 rcv tries at_ has since twice fout)) :
    Calls Tryz.prog 79 #[.pointer (some ⟨c, 0, none⟩), .int .i64 tick] w fun e w' => e = .returned (.tuple #[]) ∧ Below w.heap.size w w' := by
  have c22 : w.cell? ⟨c, 22, none⟩ = some (.pointer (some ⟨wb, 0, none⟩)) := h.cn.c 22
  have l0 : w.cell? ⟨c, 12, none⟩ = some (.pointer (some ⟨lg, 0, none⟩)) := h.cn.c 12
  have l1 : w.cell? ⟨c, 13, none⟩ = some (.pointer none) := h.cn.c 13
  have l2 : w.cell? ⟨c, 14, none⟩ = some (.pointer none) := h.cn.c 14
  have l3 : w.cell? ⟨c, 15, none⟩ = some (.pointer none) := h.cn.c 15
  have l4 : w.cell? ⟨c, 16, none⟩ = some (.pointer none) := h.cn.c 16
  have l5 : w.cell? ⟨c, 17, none⟩ = some (.pointer none) := h.cn.c 17
  have l6 : w.cell? ⟨c, 18, none⟩ = some (.pointer none) := h.cn.c 18
  have l7 : w.cell? ⟨c, 19, none⟩ = some (.pointer none) := h.cn.c 19
  have NW := Keep.mk (now_wl h.wl)
  have HC := Keep.mk h
  clear h
  go_enter Tryz.func79, Tryz.ntmps79
  go_wp2_with (first
    | (go_at_call 31
       go_loud (refine NW.out.mono ?_; rintro e X ⟨rfl, hX⟩)
       rw [hX]
       clear hX)
    | fail)
  clear c22 l0 l1 l2 l3 l4 l5 l6 l7 NW
  go_loopw [22] (fun i wr => ∃ j : Nat, j ≤ 8 ∧ i = .int .i64 j ∧ Below w.heap.size w wr) (fun i _ => 8 - (intOf i).toNat)
  case atStart => exact ⟨0, by omega, rfl, Below.refl _ _⟩
  case round =>
    obtain ⟨j, hj, rfl, hb⟩ := hrel
    have hk := HC.out.quiet hb
    have d22 : wr.cell? ⟨c, 22, none⟩ = some (.pointer (some ⟨wb, 0, none⟩)) := hk.cn.c 22
    rcases Nat.lt_or_ge j 8 with hlt | hge
    · have hji : ((j : Nat) : Int) < 8 := by omega
      have C2 := hk.quiet ((Below.refl _ wr).alloc (Nat.le_refl _) (.cells #[.int .i64 (j : Int)] 3))
      have CW := Keep.mk (cancel_void C2.wl wr.heap.size 1 1 (fun _ => (j : Int)) (by simp) (fun i hi => by
        obtain rfl : i = 0 := by omega
        exact ⟨cells_one wr (j : Int), wfI_of (by omega) (by omega)⟩) (by omega))
      have HB := Keep.mk hb
      rcases Nat.eq_zero_or_pos j with rfl | hpos
      · have ix := index_leg (legsA lg) 0 _ rfl (by omega) wr
        rw [show ((0 : Nat) : Int) = 0 from rfl] at ix
        have OV := Keep.mk (over_any lg fl q times 11 rcv tries at_ has since twice fout wr hk.leg hk.flw)
        clear hk C2 hb
        go_wp2_with (first
          | (go_at_call 38
             go_loud (refine OV.out.mono ?_; rintro e X ⟨rfl, hX⟩)
             rw [hX]
             clear hX)
          | (go_at_call 100
             go_loud (refine CW.out.mono ?_; rintro e w3 ⟨rfl, b3⟩)
             have B3 := Keep.mk ((HB.out.alloc HB.out.size _).trans (b3.mono (by have := HB.out.size; simp; omega)))
             clear b3)
          | fail)
        go_roundw
        case rel => exact ⟨1, by omega, by go_num, B3.out⟩
        case measure => simp [intOf]
      · have ix := index_leg (legsA lg) j _ (legsA_nil hpos hlt) hlt wr
        have HP := Keep.mk hpos
        clear hk C2 hb hpos
        go_wp2_with (first
          | (go_at_call 38
             go_loud (refine (over_nil _).mono ?_; rintro e X ⟨rfl, hX⟩)
             rw [hX]
             clear hX)
          | (go_at_call 100
             go_loud (refine CW.out.mono ?_; rintro e w3 ⟨rfl, b3⟩)
             have B3 := Keep.mk ((HB.out.alloc HB.out.size _).trans (b3.mono (by have := HB.out.size; simp; omega)))
             clear b3)
          | fail)
        go_roundw
        case rel => exact ⟨j + 1, by omega, by go_num, B3.out⟩
        case measure => simp [intOf] <;> omega
    · obtain rfl : j = 8 := by omega
      have d7 : wr.cell? ⟨c, 7, none⟩ = some (.int .i64 8) := hk.cn.c 7
      have C2 := hk.quiet ((Below.refl _ wr).alloc (Nat.le_refl _) (.cells #[.int .i64 8, .int .i64 9, .int .i64 10, .int .i64 11, .int .i64 12] 3))
      have B5 := Bk.new wr #[.int .i64 8, .int .i64 9, .int .i64 10, .int .i64 11, .int .i64 12] 3
      have CW := Keep.mk (cancel_void C2.wl wr.heap.size 5 5 (fun i => 8 + (i : Int)) (by simp) (fun i hi => by
        refine ⟨(B5.c i).trans ?_, wfI_of (by omega) (by omega)⟩
        rcases (by omega : i = 0 ∨ i = 1 ∨ i = 2 ∨ i = 3 ∨ i = 4) with rfl | rfl | rfl | rfl | rfl <;> rfl) (by omega))
      have HB := Keep.mk hb
      clear hk C2 hb B5
      go_wp2_with (first
        | (go_at_call 100
           go_loud (refine CW.out.mono ?_; rintro e w3 ⟨rfl, b3⟩)
           have B3 := Keep.mk ((HB.out.alloc HB.out.size _).trans (b3.mono (by have := HB.out.size; simp; omega)))
           clear b3)
        | fail)
      try simp only [Exit.inBlock, Exit.then]
      first | (go_end0; exact ⟨rfl, B3.out⟩) | exact bodyPost_ret (results_none rfl _ _ _) rfl ⟨rfl, B3.out⟩
set_option maxRecDepth 100000 in
set_option maxHeartbeats 6400000 in
theorem settle_dead (tick s : Int) (ov : Value) (gos : List Nat) (h : Cs w0 w base wb wm nb S now [] c sd st rv mp st2 lg fl (conE p1 p2 k 0 0 13 sd rv pb lg wb ov) (flC q times 11 rcv tries at_ has since twice (.slice none 0 0))) (hn : 0 ≤ now) (hn2 : now < 1152921504606846976)
    (hov : Outs w w0.heap.size p1 p2 k s ov gos) (hfree : ∀ kb, (ov.ownBlock = some kb ∨ kb ∈ gos) → ¬ Owns wb wm S kb) :
    Calls Tryz.prog 30 #[.pointer (some ⟨c, 0, none⟩), .int .i64 tick] w fun e w' => e = .returned (.tuple #[]) ∧ ∃ S', Cs w0 w' base wb wm nb S' now [] c sd st rv mp st2 lg fl (conE p1 p2 k 8 13 13 sd rv pb lg wb ov) (flC q times 11 rcv tries at_ has since twice (.slice none 0 0)) ∧
      Outs w' w0.heap.size p1 p2 k s ov gos := by
  have c9 : w.cell? ⟨c, 9, none⟩ = some (.pointer (some ⟨sd, 0, none⟩)) := h.cn.c 9
  have c10 : w.cell? ⟨c, 10, none⟩ = some (.pointer (some ⟨rv, 0, none⟩)) := h.cn.c 10
  have DN := Keep.mk (done_no w h.snd)
  have EN := Keep.mk (ended_no w h.rcv)
  have HC := Keep.mk h
  have HN : Keep (0 ≤ now ∧ now < 1152921504606846976) := ⟨hn, hn2⟩
  have HOV := Keep.mk hov
  have HFR := Keep.mk hfree
  clear h hn hn2 hov hfree
  go_enter Tryz.func30, Tryz.ntmps30
  go_wp2_with (first
    | (go_at_call 73
       go_loud (refine DN.out.mono ?_; rintro e X ⟨rfl, hX⟩)
       rw [hX]
       clear hX)
    | (go_at_call 74
       go_loud (refine EN.out.mono ?_; rintro e w1 ⟨rfl, n1, hw1⟩)
       have hb1 : Below w.heap.size w w1 := by rw [hw1]; exact below_dn w n1
       have C1 := Keep.mk (HC.out.quiet hb1)
       have M1 : Keep (Fm w w1 wb wm S S) := ⟨Fm.quiet hb1 _ _ _⟩
       have PI := Keep.mk (pump_any (c := c) tick (C1.out.cn.c 7))
       have TE := Keep.mk (tellend_any tick C1.out rfl rfl HN.out.1 (by have := HN.out.2; omega) (by simp) rfl)
       clear hw1 hb1)
    | (go_at_call 75
       go_loud (refine PI.out.mono ?_; rintro e X ⟨rfl, hX⟩)
       rw [hX]
       clear hX)
    | (go_at_call 76
       go_loud (refine TE.out.mono ?_; rintro e w3 ⟨rfl, S3, c3, m3⟩)
       rw [show dropH 8 [] = [] from rfl] at c3
       have C3 := Keep.mk c3
       have M3 := Keep.mk (M1.out.trans m3)
       have l0 : w3.cell? ⟨c, 12, none⟩ = some (.pointer (some ⟨lg, 0, none⟩)) := C3.out.cn.c 12
       have l1 : w3.cell? ⟨c, 13, none⟩ = some (.pointer none) := C3.out.cn.c 13
       have l2 : w3.cell? ⟨c, 14, none⟩ = some (.pointer none) := C3.out.cn.c 14
       have l3 : w3.cell? ⟨c, 15, none⟩ = some (.pointer none) := C3.out.cn.c 15
       have l4 : w3.cell? ⟨c, 16, none⟩ = some (.pointer none) := C3.out.cn.c 16
       have l5 : w3.cell? ⟨c, 17, none⟩ = some (.pointer none) := C3.out.cn.c 17
       have l6 : w3.cell? ⟨c, 18, none⟩ = some (.pointer none) := C3.out.cn.c 18
       have l7 : w3.cell? ⟨c, 19, none⟩ = some (.pointer none) := C3.out.cn.c 19
       clear c3 m3)
    | fail)
  clear c9 c10 l0 l1 l2 l3 l4 l5 l6 l7
  have OV3 : Keep (Outs w3 w0.heap.size p1 p2 k s ov gos) := ⟨HOV.out.fw M3.out.fw fun kb e => ⟨HFR.out kb e, by simp⟩⟩
  have FL := Keep.mk (flush_none (c := c) C3.out.leg C3.out.flw)
  go_loopw [52] (fun i wr => (i = .int .i64 0 ∧ wr = w3) ∨ ∃ j : Nat, 0 < j ∧ j ≤ 8 ∧ i = .int .i64 j ∧ Keep (Bk wr fl (flC q times 11 rcv tries at_ has since twice (.slice none 0 0)) 105 ∧ Fz w3 wr [fl])) (fun i _ => 8 - (intOf i).toNat)
  case atStart => exact .inl ⟨rfl, rfl⟩
  case round =>
    rcases hrel with ⟨rfl, rfl⟩ | ⟨j, hpos, hj, rfl, HP⟩
    · have ix := index_leg (legsA lg) 0 _ rfl (by omega) wr
      rw [show ((0 : Nat) : Int) = 0 from rfl] at ix
      go_wp2_with (first
        | (go_at_call 77
           go_loud (refine FL.out.mono ?_; rintro e w4 ⟨rfl, f4, x4⟩)
           have FL4 := Keep.mk (And.intro f4 x4)
           clear f4 x4)
        | fail)
      go_roundw
      case rel => exact .inr ⟨1, by omega, by omega, by go_num, FL4⟩
      case measure => simp [intOf]
    · rcases Nat.lt_or_ge j 8 with hlt | hge
      · have ix := index_leg (legsA lg) j _ (legsA_nil hpos hlt) hlt wr
        have hji : ((j : Nat) : Int) < 8 := by omega
        have HPP := Keep.mk hpos
        clear hpos
        go_wp2_with fail
        go_roundw
        case rel => exact .inr ⟨j + 1, by omega, by omega, by go_num, HP⟩
        case measure => simp [intOf] <;> omega
      · obtain rfl : j = 8 := by omega
        obtain ⟨f4, x4⟩ := HP.out
        have C4 := C3.out.own (l := []) (x4.mono (fun x _ hx => by simp at hx; subst hx; simp)) (C3.out.cn.fz x4 (by simp; exact C3.out.cn.ne_ty C3.out.flw (by decide))) f4 (by simp)
        have OV4 := Keep.mk (OV3.out.keep (fun kb e => x4.block kb (OV3.out.lt' e) (by simp; exact OV3.out.ne' C3.out.flw (by decide) (by decide) e)))
        have AL := Keep.mk (alone_dead tick C4.cn C4.leg C4.flw)
        have K4 := Keep.mk C4
        clear HP C4 f4 x4 FL
        go_wp2_with (first
          | (go_at_call 78
             go_loud (refine AL.out.mono ?_; rintro e w5 ⟨rfl, c5, x5⟩)
             have K5 := Keep.mk (K4.out.own (l := []) (x5.mono (fun x _ hx => by simp at hx; subst hx; simp)) c5 (K4.out.flw.fz x5 (by simp; exact K4.out.flw.ne_ty K4.out.cn (by decide))) (by simp))
             have OV5 := Keep.mk (OV4.out.keep (fun kb e => x5.block kb (OV4.out.lt' e) (by simp; exact OV4.out.ne' K4.out.cn (by decide) (by decide) e)))
             have AR := Keep.mk (arm_closed tick K5.out)
             clear c5 x5)
          | (go_at_call 79
             go_loud (refine AR.out.mono ?_; rintro e w6 ⟨rfl, b6⟩)
             have K6 := Keep.mk (K5.out.quiet b6)
             have OV6 := Keep.mk (OV5.out.keep (fun kb e => b6.block kb (OV5.out.lt' e)))
             clear b6)
          | fail)
        go_end0
        exact ⟨rfl, S3, K6.out, OV6.out⟩
end
end Go.Proofs.YtcjanieeepcddaaGreatDoor
/-
  A connection that hears nothing: its ticks, as long as it lives.
-/
namespace Go.Proofs.YtcjanieeepcddaaGreatDoor
open Go.RowKit

theorem adv_idle {n t : Int} {L' O : List Due} (h : Adv n [(0, t)] L' O) (ht : n < t) : L' = [(0, t)] ∧ O = [] := by
  refine ⟨by rw [h.rest]; simp [ht], ?_⟩
  have := h.perm
  rw [show ([((0 : Int), t)].filter fun d => decide (d.2 ≤ n)) = [] by simp; omega] at this
  exact List.perm_nil.1 this
theorem adv_due {n t : Int} {L' O : List Due} (h : Adv n [(0, t)] L' O) (ht : t ≤ n) : L' = [] ∧ O = [(0, t)] := by
  refine ⟨by rw [h.rest]; simp; omega, ?_⟩
  have := h.perm
  rw [show ([((0 : Int), t)].filter fun d => decide (d.2 ≤ n)) = [(0, t)] by simp [ht]] at this
  exact List.perm_singleton.1 this
/-- The ticks at which it sends again, from the dial on. -/
def dlN : Nat → Int
  | 0 => 4
  | 1 => 12
  | 2 => 28
  | 3 => 44
  | _ => 60
theorem dlN_step {n : Nat} (h : n ≤ 3) : dlN n + wt (n + 1) = dlN (n + 1) := by
  rcases (by omega : n = 0 ∨ n = 1 ∨ n = 2 ∨ n = 3) with rfl | rfl | rfl | rfl <;> rfl
theorem dlN_bd (n : Nat) : 4 ≤ dlN n ∧ dlN n ≤ 60 := by
  unfold dlN
  split <;> omega
theorem dlN_last {n : Nat} (h : n ≤ 4) (h2 : 45 ≤ dlN n) : n = 4 := by
  rcases (by omega : n = 0 ∨ n = 1 ∨ n = 2 ∨ n = 3 ∨ n = 4) with rfl | rfl | rfl | rfl | rfl
  all_goals first | rfl | (simp [dlN] at h2)
theorem dlN_lt {n : Nat} (h : n ≤ 3) : dlN n ≤ 44 ∧ dlN n < dlN (n + 1) := by
  rcases (by omega : n = 0 ∨ n = 1 ∨ n = 2 ∨ n = 3) with rfl | rfl | rfl | rfl <;> decide
section
variable {w0 w w1 : World} {base wb wm nb nb' : Nat} {S S' : Nat → Value} {now now' : Int} {L L' : List Due} {c sd st rv mp st2 lg fl pb q g2 c2 : Nat} {p1 p2 k s e0 : Int} {ov ov' : Value} {gos gos' : List Nat} {farr farr' : Array Value}
theorem Dl.next (h : Dl w0 w base wb wm nb S now L c sd st rv mp st2 lg fl pb q g2 p1 p2 k s e0 c2 ov gos farr) (F : Fw w w1 wb wm S S' (c :: fl :: ov.ownBlock.toList)) (cs' : Cs w0 w1 base wb wm nb' S' now' L' c sd st rv mp st2 lg fl (conD p1 p2 k sd rv pb lg wb ov') farr') (o' : Outs w1 w0.heap.size p1 p2 k s ov' gos')
    (f' : ∀ kb, (ov'.ownBlock = some kb ∨ kb ∈ gos') → ¬ Owns wb wm S' kb) : Dl w0 w1 base wb wm nb' S' now' L' c sd st rv mp st2 lg fl pb q g2 p1 p2 k s e0 c2 ov' gos' farr' := by
  obtain ⟨cur, hcur⟩ := h.rty
  have nin : ∀ {b : Nat} {arr : Array Value} {ty : TypeId}, Bk w b arr ty → ty ≠ 68 → ty ≠ 105 → 39 ≠ ty → b ∉ c :: fl :: ov.ownBlock.toList := fun hb h1 h2 h3 => by
    simp only [List.mem_cons, not_or, Option.mem_toList]
    exact ⟨hb.ne_ty h.cs.cn h1, hb.ne_ty h.cs.flw h2, fun e => h.outs.ne hb h3 e rfl⟩
  refine ⟨cs', o', f', h.que.fw F (h.free2 _ (by simp)).2 (nin h.que (by decide) (by decide) (by decide)), fun j u hu => (World.cell?_of_block (F.block g2 hcur.lt (h.free2 _ (by simp)).2 (nin hcur (by decide) (by decide) (by decide)))).trans (h.row j u hu), ⟨cur, hcur.fw F (h.free2 _ (by simp)).2 (nin hcur (by decide) (by decide) (by decide))⟩, h.pat.fw F (h.free2 _ (by simp)).2 (nin h.pat (by decide) (by decide) (by decide)), fun kb hk => ⟨(h.free2 kb hk).1, F.free ?_ (h.free2 kb hk).2⟩⟩
  simp only [List.mem_cons, List.not_mem_nil, or_false] at hk
  rcases hk with rfl | rfl | rfl
  · exact h.que.lt
  · exact hcur.lt
  · exact h.pat.lt
theorem Dl.wheel (h : Dl w0 w base wb wm nb S now L c sd st rv mp st2 lg fl pb q g2 p1 p2 k s e0 c2 ov gos farr) (hw : Wl w1 base wb wm nb' S' now' L') (hf : Fm w w1 wb wm S S') : Dl w0 w1 base wb wm nb' S' now' L' c sd st rv mp st2 lg fl pb q g2 p1 p2 k s e0 c2 ov gos farr :=
  h.next (hf.fw.mono (by simp)) (h.cs.wheel hw hf) (h.outs.fw hf.fw fun kb e => ⟨h.free kb e, by simp⟩) fun kb e => hf.fw.free (h.outs.lt' e) (h.free kb e)
theorem Dl.quiet (h : Dl w0 w base wb wm nb S now L c sd st rv mp st2 lg fl pb q g2 p1 p2 k s e0 c2 ov gos farr) (hB : Below w.heap.size w w1) : Dl w0 w1 base wb wm nb S now L c sd st rv mp st2 lg fl pb q g2 p1 p2 k s e0 c2 ov gos farr :=
  h.next ((Fm.quiet hB wb wm S).fw.mono (by simp)) (h.cs.quiet hB) (h.outs.keep fun kb e => hB.block kb (h.outs.lt' e)) h.free
theorem Dl.flow (h : Dl w0 w base wb wm nb S now L c sd st rv mp st2 lg fl pb q g2 p1 p2 k s e0 c2 ov gos farr) (F : Fz w w1 [fl]) (hf : Bk w1 fl farr' 105) : Dl w0 w1 base wb wm nb S now L c sd st rv mp st2 lg fl pb q g2 p1 p2 k s e0 c2 ov gos farr' :=
  h.next ((F.fw wb wm S).mono (fun x _ hx => by simp at hx; subst hx; simp)) (h.cs.own (l := []) (F.mono (fun x _ hx => by simp at hx; subst hx; simp)) (h.cs.cn.fz F (by simp; exact h.cs.cn.ne_ty h.cs.flw (by decide))) hf (by simp)) (h.outs.keep fun kb e => F.block kb (h.outs.lt' e) (by simp; exact h.outs.ne' h.cs.flw (by decide) (by decide) e)) h.free
/-- It lives, j ticks behind the dial. -/
structure Live (w0 w : World) (base wb wm c sd st rv mp st2 lg fl pb q g2 : Nat) (p1 p2 k s e0 : Int) (c2 : Nat) (at0 : Int) (j : Nat) : Prop where
  ex : ∃ (n nb : Nat) (S : Nat → Value) (ov : Value) (gos : List Nat) (since : Int) (twice : Bool), n ≤ 4 ∧ nb ≤ 1 + j ∧ gos.length = n ∧ (j : Int) < dlN n ∧
    Dl w0 w base wb wm nb S (at0 + j) [(0, at0 + dlN n)] c sd st rv mp st2 lg fl pb q g2 p1 p2 k s e0 c2 ov gos (flC q (n : Int) 1 0 (n : Int) (at0 + dlN n) true since twice (.slice none 0 0))
set_option maxRecDepth 100000 in
set_option maxHeartbeats 12800000 in
theorem ctick_live (at0 : Int) (J j0 : Nat) (hJ : J ≤ 59) (hj0 : j0 ≤ J) (a0 : 0 ≤ at0) (a1 : at0 ≤ 100000) (h : Live w0 w base wb wm c sd st rv mp st2 lg fl pb q g2 p1 p2 k s e0 c2 at0 j0) :
    Calls Tryz.prog 8 #[.pointer (some ⟨c, 0, none⟩), .int .i64 (at0 + (J : Int))] w fun e w' => e = .returned (.tuple #[]) ∧ Live w0 w' base wb wm c sd st rv mp st2 lg fl pb q g2 p1 p2 k s e0 c2 at0 J := by
  have HH := Keep.mk h
  obtain ⟨n, nb, S, ov, gos, since, twice, hn, hnb, hg, hj, hd⟩ := h.ex
  have c22 : w.cell? ⟨c, 22, none⟩ = some (.pointer (some ⟨wb, 0, none⟩)) := hd.cs.cn.c 22
  have NW := Keep.mk (now_wl hd.cs.wl)
  have q1 : IntKind.i64.wrap (at0 + (j0 : Int) + 10000) = at0 + j0 + 10000 := IntWalk.i64_in _ (by omega)
  have hm : min (at0 + (J : Int)) (at0 + (j0 : Int) + 10000) = at0 + J := by omega
  have HA : Keep (0 ≤ at0 ∧ at0 ≤ 100000 ∧ J ≤ 59 ∧ j0 ≤ J) := ⟨a0, a1, hJ, hj0⟩
  clear h hd hn hnb hg hj a0 a1 hJ
  go_enter Tryz.func8, Tryz.ntmps8
  go_wp2_with (first
    | (go_at_call 31
       go_loud (refine NW.out.mono ?_; rintro e X ⟨rfl, hX⟩)
       rw [hX]
       clear hX)
    | fail)
  clear c22 NW q1 hm
  go_loopg [] (J - j0) (fun gg wr => ∃ j : Nat, j0 ≤ j ∧ j ≤ J ∧ J - j ≤ gg ∧ Keep (Live w0 wr base wb wm c sd st rv mp st2 lg fl pb q g2 p1 p2 k s e0 c2 at0 j))
  case atStart => exact ⟨j0, by omega, HA.out.2.2.2, by omega, HH⟩
  case round =>
    obtain ⟨j, hj1, hj2, hgg, HL⟩ := hrel
    by_cases hlt : j < J
    · obtain ⟨n, nb, S, ov, gos, since, twice, hn, hnb, hg, hjd, hd⟩ := HL.out.ex
      obtain ⟨wo, hwo⟩ : ∃ wo : World, wo = wr := ⟨_, rfl⟩
      rw [← hwo] at hd ⊢
      clear hwo HL
      have b1 := HA.out.1
      have b2 := HA.out.2.1
      have b3 := HA.out.2.2.1
      have b4 := dlN_bd n
      have c22 : wo.cell? ⟨c, 22, none⟩ = some (.pointer (some ⟨wb, 0, none⟩)) := hd.cs.cn.c 22
      have NW := Keep.mk (now_wl hd.cs.wl)
      have D1 : Keep (Dl w0 wo.drew base wb wm nb S (at0 + j) [(0, at0 + dlN n)] c sd st rv mp st2 lg fl pb q g2 p1 p2 k s e0 c2 ov gos (flC q (n : Int) 1 0 (n : Int) (at0 + dlN n) true since twice (.slice none 0 0))) := ⟨hd.quiet (below_dn wo 1)⟩
      have NW2 := Keep.mk (now_wl D1.out.cs.wl)
      have hlti : at0 + (j : Int) < at0 + (J : Int) := by omega
      have q2 : IntKind.i64.wrap (at0 + (j : Int) + 1) = at0 + j + 1 := IntWalk.i64_in _ (by omega)
      have AV := advance_wl D1.out.cs.wl D1.out.cs.hs (at0 + j + 1) (by omega) (by omega) (by simp) (by simp; exact wfI_of (by omega) (by omega))
      rw [show max (at0 + (j : Int)) (min (at0 + (j : Int) + 1) (at0 + (j : Int) + 10000)) = at0 + j + 1 by omega] at AV
      have AV := Keep.mk AV
      have HB : Keep (n ≤ 4 ∧ nb ≤ 1 + j ∧ gos.length = n ∧ (j : Int) < dlN n ∧ 4 ≤ dlN n ∧ dlN n ≤ 60) := ⟨hn, hnb, hg, hjd, b4⟩
      by_cases hdu : (j : Int) + 1 < dlN n
      · have HDU := Keep.mk hdu
        clear hd hn hnb hg hjd b1 b2 b3 b4 hdu
        go_wp2_with (first
          | (go_at_call 31
             go_loud (refine NW.out.mono ?_; rintro e X ⟨rfl, hX⟩)
             rw [hX]
             clear hX)
          | fail)
        go_region_held3 (fun W => W.cell? ⟨c, 22, none⟩ = some (.pointer (some ⟨wb, 0, none⟩)))
          (first | exact D1.out.cs.cn.c 22 | exact D2.out.cs.cn.c 22)
          (first
            | (go_at_call 31
               go_loud (refine NW2.out.mono ?_; rintro e X ⟨rfl, hX⟩)
               rw [hX]
               clear hX)
            | (go_at_call 32
               go_loud (refine AV.out.mono ?_; rintro e w2 ⟨v, S2, L2, O2, rfl, wl2, be2, nw2, fm2, ad2⟩)
               obtain ⟨hL2, hO2⟩ := adv_idle ad2 (by have := HDU.out; omega)
               subst hL2 hO2
               obtain ⟨A2, k2, rfl, _⟩ := own_slice be2.own
               have D2 := Keep.mk (D1.out.wheel wl2 fm2)
               have NW3 := Keep.mk (now_wl D2.out.cs.wl)
               clear wl2 be2 nw2 fm2 ad2)
            | fail)
        go_wp2_with fail
        go_loopw [36] (fun i wi => i = .int .i64 0 ∧ wi = w2) (fun i _ => 1 - (intOf i).toNat)
        case atStart => exact ⟨rfl, rfl⟩
        case round =>
          obtain ⟨rfl, rfl⟩ := hrel
          have d22 : wr.cell? ⟨c, 22, none⟩ = some (.pointer (some ⟨wb, 0, none⟩)) := D2.out.cs.cn.c 22
          have SD := settle_dial (at0 + j + 1) s _ ov gos (fun g' => g' = gos) D2.out.cs (by have := HA.out; omega) (by have := HA.out; have := HB.out; omega) (by simp) (by simp) (by have := HA.out; have := HB.out; omega) (by have := HA.out; have := HB.out; omega) D2.out.outs D2.out.free (fun w3 S3 c3 m3 => by
            refine (flush_nil s c3.cn c3.leg c3.flw (c3.cn.ne_ty c3.flw (by decide)) (D2.out.outs.fw m3.fw fun kb e => ⟨D2.out.free kb e, by simp⟩)).mono ?_
            rintro e w9 ⟨rfl, hf⟩
            exact ⟨rfl, ov, gos, hf, rfl⟩)
          rw [show max (at0 + dlN n) (at0 + (j : Int) + 1 + 1) = at0 + dlN n by have := HDU.out; omega] at SD
          have SD := Keep.mk SD
          go_wp2_with (first
            | (go_at_call 31
               go_loud (refine NW3.out.mono ?_; rintro e X ⟨rfl, hX⟩)
               rw [hX]
               clear hX)
            | (go_at_call 30
               go_loud (refine SD.out.mono ?_; rintro e w4 ⟨rfl, S4, ov4, gos4, c4, o4, rfl, f4, x4⟩)
               have D4 := Keep.mk (D2.out.next x4 c4 o4 f4)
               clear c4 o4 f4 x4)
            | fail)
          go_roundg (J - (j + 1))
          case measure => omega
          case rel => exact ⟨j + 1, by omega, by omega, Nat.le_refl _, ⟨⟨n, nb + 1, S4, ov4, _, since, twice, HB.out.1, by have := HB.out; omega, HB.out.2.2.1, by have := HDU.out; push_cast; omega, by rw [show at0 + ((j + 1 : Nat) : Int) = at0 + (j : Int) + 1 by push_cast; omega]; exact D4.out⟩⟩⟩
      · have hdu2 : dlN n = (j : Int) + 1 := by omega
        have hn3 : n ≤ 3 := by
          rcases (by omega : n ≤ 3 ∨ n = 4) with h | rfl
          · exact h
          · have : dlN 4 = 60 := rfl
            omega
        have HDU : Keep (dlN n = (j : Int) + 1 ∧ n ≤ 3) := ⟨hdu2, hn3⟩
        clear hd hn hnb hg hjd b1 b2 b3 b4 hdu hdu2 hn3
        go_wp2_with (first
          | (go_at_call 31
             go_loud (refine NW.out.mono ?_; rintro e X ⟨rfl, hX⟩)
             rw [hX]
             clear hX)
          | fail)
        go_region_held3 (fun W => W.cell? ⟨c, 22, none⟩ = some (.pointer (some ⟨wb, 0, none⟩)))
          (first | exact D1.out.cs.cn.c 22 | exact D2.out.cs.cn.c 22)
          (first
            | (go_at_call 31
               go_loud (refine NW2.out.mono ?_; rintro e X ⟨rfl, hX⟩)
               rw [hX]
               clear hX)
            | (go_at_call 32
               go_loud (refine AV.out.mono ?_; rintro e w2 ⟨v, S2, L2, O2, rfl, wl2, be2, nw2, fm2, ad2⟩)
               obtain ⟨hL2, hO2⟩ := adv_due ad2 (by have := HDU.out; omega)
               subst hL2 hO2
               obtain ⟨A2, k2, rfl, _⟩ := own_slice be2.own
               have D2 := Keep.mk (D1.out.wheel wl2 fm2)
               obtain ⟨ga, off, hA2, hgl2, hcs2⟩ := Rd.of_own (l := [((0 : Int), at0 + dlN n)]) dueC_length (by decide) be2.own (by simp)
               have GC : Keep (ga < w2.heap.size ∧ w2.cell? ⟨ga, off, none⟩ = some (.int .i64 0) ∧ w2.cell? ⟨ga, off + 1, none⟩ = some (.int .i64 (at0 + dlN n))) := ⟨hgl2, hcs2 0 _ rfl 0 _ rfl, hcs2 0 _ rfl 1 _ rfl⟩
               clear wl2 be2 nw2 fm2 ad2 hgl2 hcs2)
            | fail)
        subst hA2
        go_wp2_with fail
        go_loopw [36] (fun i wi => (i = .int .i64 0 ∧ wi = w2) ∨ (i = .int .i64 1 ∧ Keep (∃ g' c', (w2.heap.size ≤ g' ∧ g' < wi.heap.size ∧ g' ≠ fl ∧ ∀ y u, (synO s)[y]? = some u → wi.cell? ⟨g', y, none⟩ = some u) ∧
          Dl w0 wi base wb wm nb S2 (at0 + j + 1) [] c sd st rv mp st2 lg fl pb q g2 p1 p2 k s e0 c2 ov gos (flC q ((n + 1 : Nat) : Int) 1 0 ((n + 1 : Nat) : Int) (at0 + dlN n + wt (n + 1)) true since true (.slice (some ⟨g', 0, none⟩) 1 c'))))) (fun i _ => 1 - (intOf i).toNat)
        case atStart => exact .inl ⟨rfl, rfl⟩
        case round =>
          rcases hrel with ⟨rfl, rfl⟩ | ⟨rfl, HQ⟩
          · have r0 : wr.cell? ⟨ga, off, none⟩ = some (.int .i64 0) := GC.out.2.1
            have r1 : wr.cell? ⟨ga, off + 1, none⟩ = some (.int .i64 (at0 + dlN n)) := GC.out.2.2
            have D3 := Keep.mk (D2.out.quiet ((Below.refl _ wr).alloc (Nat.le_refl _) (.cells #[.int .i64 0, .int .i64 (at0 + dlN n)] 72)))
            have d7 : (wr.alloc (.cells #[.int .i64 0, .int .i64 (at0 + dlN n)] 72)).cell? ⟨c, 7, none⟩ = some (.int .i64 0) := D3.out.cs.cn.c 7
            have x0 : (wr.alloc (.cells #[.int .i64 0, .int .i64 (at0 + dlN n)] 72)).cell? ⟨wr.heap.size, 0, none⟩ = some (.int .i64 0) := by rw [World.cell?_alloc_new]; rfl
            have x1 : (wr.alloc (.cells #[.int .i64 0, .int .i64 (at0 + dlN n)] 72)).cell? ⟨wr.heap.size, 1, none⟩ = some (.int .i64 (at0 + dlN n)) := by rw [World.cell?_alloc_new]; rfl
            obtain ⟨cur, hcur⟩ := D3.out.rty
            have EX := Keep.mk (cexpire_live n HDU.out.2 s e0 (at0 + dlN n) g2 c2 D3.out.cs.cn D3.out.cs.leg D3.out.cs.flw D3.out.que (hcur.ne_ty D3.out.cs.flw (by decide)) D3.out.row hcur.lt (by have := HA.out; have := HB.out; omega) (by have := HA.out; have := HB.out; omega))
            clear hcur
            go_wp2_with (first
              | (go_at_call 33
                 go_loud (refine EX.out.mono ?_; rintro e w4 ⟨rfl, g', c', o4, f4, x4⟩)
                 have Q4 : Keep (∃ g' c', (wr.heap.size ≤ g' ∧ g' < w4.heap.size ∧ g' ≠ fl ∧ ∀ y u, (synO s)[y]? = some u → w4.cell? ⟨g', y, none⟩ = some u) ∧
                     Dl w0 w4 base wb wm nb S2 (at0 + j + 1) [] c sd st rv mp st2 lg fl pb q g2 p1 p2 k s e0 c2 ov gos (flC q ((n + 1 : Nat) : Int) 1 0 ((n + 1 : Nat) : Int) (at0 + dlN n + wt (n + 1)) true since true (.slice (some ⟨g', 0, none⟩) 1 c'))) :=
                   ⟨g', c', ⟨Nat.le_trans (by simp) o4.low, o4.lt, o4.ne_bk f4 (by decide), o4.cell⟩, D3.out.flow x4 f4⟩
                 clear o4 f4 x4)
              | fail)
            go_roundw
            case rel => exact .inr ⟨rfl, Q4⟩
            case measure => simp [intOf]
          · obtain ⟨g', c', ⟨gl, gs, gf, gc⟩, d4⟩ := HQ.out
            have NG : Keep (¬ Owns wb wm S2 g') := ⟨fun o => by have := D2.out.cs.wl.lt o; omega⟩
            have GG := Keep.mk gc
            have G2 : Keep (g' < wr.heap.size ∧ g' ≠ fl) := ⟨gs, gf⟩
            have D4 := Keep.mk d4
            have d22 : wr.cell? ⟨c, 22, none⟩ = some (.pointer (some ⟨wb, 0, none⟩)) := d4.cs.cn.c 22
            have NW3 := Keep.mk (now_wl d4.cs.wl)
            have hst := dlN_step HDU.out.2
            have hlt4 := dlN_lt HDU.out.2
            have hbd := dlN_bd (n + 1)
            have SD := settle_dial (at0 + j + 1) s _ ov gos (fun g' => ∃ go, g' = gos ++ [go]) d4.cs (by have := HA.out; omega) (by have := HA.out; have := HB.out; omega) (by simp) (by simp) (by have := HA.out; have := HB.out; have := HDU.out; omega) (by have := HA.out; have := HB.out; omega) d4.outs d4.free (fun w3 S3 c3 m3 => by
              have G8 := m3.other gs NG.out
              refine (flush_syn s c3.cn c3.leg c3.rcv c3.flw (Nat.lt_of_lt_of_le gs m3.size) (fun y u hu => (World.cell?_of_block G8).trans (GG.out y u hu)) (nd_four c3.nd) gf (d4.outs.fw m3.fw fun kb e => ⟨d4.free kb e, by simp⟩) (Nat.le_trans c3.hb c3.hs) (by have := HB.out; omega)).mono ?_
              rintro e w9 ⟨rfl, ov', go, hf⟩
              exact ⟨rfl, ov', gos ++ [go], hf, go, rfl⟩)
            rw [show max (at0 + dlN n + wt (n + 1)) (at0 + (j : Int) + 1 + 1) = at0 + dlN (n + 1) by have := HDU.out; omega, show at0 + dlN n + wt (n + 1) = at0 + dlN (n + 1) by omega] at SD
            have SD := Keep.mk SD
            have HS : Keep ((j : Int) + 1 < dlN (n + 1) ∧ at0 + dlN n + wt (n + 1) = at0 + dlN (n + 1)) := ⟨by have := HDU.out; omega, by omega⟩
            clear d4 gl gs gf gc HQ hst hlt4 hbd
            go_wp2_with (first
              | (go_at_call 31
                 go_loud (refine NW3.out.mono ?_; rintro e X ⟨rfl, hX⟩)
                 rw [hX]
                 clear hX)
              | (go_at_call 30
                 go_loud (refine SD.out.mono ?_; rintro e w5 ⟨rfl, S5, ov5, gos5, c5, o5, ⟨go5, rfl⟩, f5, x5⟩)
                 have D5 := Keep.mk (D4.out.next x5 c5 o5 f5)
                 clear c5 o5 f5 x5)
              | fail)
            go_roundg (J - (j + 1))
            case measure => omega
            case rel => exact ⟨j + 1, by omega, by omega, Nat.le_refl _, ⟨⟨n + 1, nb + 1, S5, ov5, gos ++ [go5], since, true, by have := HDU.out; omega, by have := HB.out; omega, by rw [List.length_append, HB.out.2.2.1]; rfl, by have := HS.out; push_cast; omega, by rw [show at0 + ((j + 1 : Nat) : Int) = at0 + (j : Int) + 1 by push_cast; omega]; exact D5.out⟩⟩⟩
    · obtain rfl : j = J := by omega
      obtain ⟨n, nb, S, ov, gos, since, twice, hn, hnb, hg, hjd, hd⟩ := HL.out.ex
      have c22 : wr.cell? ⟨c, 22, none⟩ = some (.pointer (some ⟨wb, 0, none⟩)) := hd.cs.cn.c 22
      have NW := Keep.mk (now_wl hd.cs.wl)
      have hirr : ¬ at0 + (j : Int) < at0 + (j : Int) := by omega
      clear hd
      go_wp2_with (first
        | (go_at_call 31
           go_loud (refine NW.out.mono ?_; rintro e X ⟨rfl, hX⟩)
           rw [hX]
           clear hX)
        | fail)
      go_end0
      exact ⟨rfl, HL.out⟩
end
end Go.Proofs.YtcjanieeepcddaaGreatDoor
/-
  A connection that hears nothing: its last tick; what it says then.
-/
namespace Go.Proofs.YtcjanieeepcddaaGreatDoor
open Go.RowKit

section
variable {w0 w w1 : World} {base wb wm : Nat} {c sd st rv mp st2 lg fl pb q g2 c2 : Nat} {p1 p2 k s e0 : Int}
/-- It is dead: it failed with the error 13, its state is 8. -/
structure Gone (w0 w : World) (base wb wm c sd st rv mp st2 lg fl pb q : Nat) (p1 p2 k s : Int) (now : Int) : Prop where
  ex : ∃ (nb : Nat) (S : Nat → Value) (ov : Value) (gos : List Nat) (times since : Int) (twice : Bool), gos.length = 4 ∧
    Cs w0 w base wb wm nb S now [] c sd st rv mp st2 lg fl (conE p1 p2 k 8 13 13 sd rv pb lg wb ov) (flC q times 11 0 5 0 false since twice (.slice none 0 0)) ∧ Outs w w0.heap.size p1 p2 k s ov gos
set_option maxRecDepth 100000 in
set_option maxHeartbeats 12800000 in
theorem ctick_dead (at0 : Int) (a0 : 0 ≤ at0) (a1 : at0 ≤ 100000) (h : Live w0 w base wb wm c sd st rv mp st2 lg fl pb q g2 p1 p2 k s e0 c2 at0 59) :
    Calls Tryz.prog 8 #[.pointer (some ⟨c, 0, none⟩), .int .i64 (at0 + 60)] w fun e w' => e = .returned (.tuple #[]) ∧ Gone w0 w' base wb wm c sd st rv mp st2 lg fl pb q p1 p2 k s (at0 + 60) := by
  have HH := Keep.mk h
  obtain ⟨n, nb, S, ov, gos, since, twice, hn, hnb, hg, hj, hd⟩ := h.ex
  have c22 : w.cell? ⟨c, 22, none⟩ = some (.pointer (some ⟨wb, 0, none⟩)) := hd.cs.cn.c 22
  have NW := now_wl hd.cs.wl
  rw [show at0 + ((59 : Nat) : Int) = at0 + 59 from rfl] at NW
  have NW := Keep.mk NW
  have q1 : IntKind.i64.wrap (at0 + 59 + 10000) = at0 + 59 + 10000 := IntWalk.i64_in _ (by omega)
  have hm : min (at0 + 60) (at0 + 59 + 10000) = at0 + 60 := by omega
  have HA : Keep (0 ≤ at0 ∧ at0 ≤ 100000) := ⟨a0, a1⟩
  clear h hd hn hnb hg hj a0 a1
  go_enter Tryz.func8, Tryz.ntmps8
  go_wp2_with (first
    | (go_at_call 31
       go_loud (refine NW.out.mono ?_; rintro e X ⟨rfl, hX⟩)
       rw [hX]
       clear hX)
    | fail)
  clear c22 NW q1 hm
  go_loopg [] 1 (fun gg wr => (gg = 1 ∧ Keep (Live w0 wr base wb wm c sd st rv mp st2 lg fl pb q g2 p1 p2 k s e0 c2 at0 59)) ∨ Keep (Gone w0 wr base wb wm c sd st rv mp st2 lg fl pb q p1 p2 k s (at0 + 60)))
  case atStart => exact .inl ⟨rfl, HH⟩
  case round =>
    rcases hrel with ⟨rfl, HL⟩ | HG
    · obtain ⟨n, nb, S, ov, gos, since, twice, hn, hnb, hg, hjd, hd⟩ := HL.out.ex
      obtain ⟨wo, hwo⟩ : ∃ wo : World, wo = wr := ⟨_, rfl⟩
      rw [← hwo] at hd ⊢
      clear hwo HL
      have b1 := HA.out.1
      have b2 := HA.out.2
      obtain rfl : n = 4 := dlN_last hn (by omega)
      have hd4 : dlN 4 = 60 := rfl
      rw [hd4, show at0 + ((59 : Nat) : Int) = at0 + 59 from rfl] at hd
      have c22 : wo.cell? ⟨c, 22, none⟩ = some (.pointer (some ⟨wb, 0, none⟩)) := hd.cs.cn.c 22
      have NW := Keep.mk (now_wl hd.cs.wl)
      have D1 : Keep (Dl w0 wo.drew base wb wm nb S (at0 + 59) [(0, at0 + 60)] c sd st rv mp st2 lg fl pb q g2 p1 p2 k s e0 c2 ov gos (flC q 4 1 0 4 (at0 + 60) true since twice (.slice none 0 0))) := ⟨hd.quiet (below_dn wo 1)⟩
      have NW2 := Keep.mk (now_wl D1.out.cs.wl)
      have hlti : at0 + 59 < at0 + 60 := by omega
      have q2 : IntKind.i64.wrap (at0 + 59 + 1) = at0 + 60 := by rw [IntWalk.i64_in _ (by omega)]; omega
      have AV := advance_wl D1.out.cs.wl D1.out.cs.hs (at0 + 60) (by omega) (by omega) (by simp) (by simp; exact wfI_of (by omega) (by omega))
      rw [show max (at0 + 59) (min (at0 + 60) (at0 + 59 + 10000)) = at0 + 60 by omega] at AV
      have AV := Keep.mk AV
      have HGL := Keep.mk hg
      clear hd hn hnb hg hjd b1 b2 hd4
      go_wp2_with (first
        | (go_at_call 31
           go_loud (refine NW.out.mono ?_; rintro e X ⟨rfl, hX⟩)
           rw [hX]
           clear hX)
        | fail)
      go_region_held3 (fun W => W.cell? ⟨c, 22, none⟩ = some (.pointer (some ⟨wb, 0, none⟩)))
        (first | exact D1.out.cs.cn.c 22 | exact D2.out.cs.cn.c 22)
        (first
          | (go_at_call 31
             go_loud (refine NW2.out.mono ?_; rintro e X ⟨rfl, hX⟩)
             rw [hX]
             clear hX)
          | (go_at_call 32
             go_loud (refine AV.out.mono ?_; rintro e w2 ⟨v, S2, L2, O2, rfl, wl2, be2, nw2, fm2, ad2⟩)
             obtain ⟨hL2, hO2⟩ := adv_due ad2 (by omega)
             subst hL2 hO2
             obtain ⟨A2, k2, rfl, _⟩ := own_slice be2.own
             have D2 := Keep.mk (D1.out.wheel wl2 fm2)
             obtain ⟨ga, off, hA2, hgl2, hcs2⟩ := Rd.of_own (l := [((0 : Int), at0 + 60)]) dueC_length (by decide) be2.own (by simp)
             have GC : Keep (ga < w2.heap.size ∧ w2.cell? ⟨ga, off, none⟩ = some (.int .i64 0) ∧ w2.cell? ⟨ga, off + 1, none⟩ = some (.int .i64 (at0 + 60))) := ⟨hgl2, hcs2 0 _ rfl 0 _ rfl, hcs2 0 _ rfl 1 _ rfl⟩
             clear wl2 be2 nw2 fm2 ad2 hgl2 hcs2)
          | fail)
      subst hA2
      go_wp2_with fail
      go_loopw [36] (fun i wi => (i = .int .i64 0 ∧ wi = w2) ∨ (i = .int .i64 1 ∧ Keep (Cs w0 wi base wb wm nb S2 (at0 + 60) [] c sd st rv mp st2 lg fl (conE p1 p2 k 0 0 13 sd rv pb lg wb ov) (flC q 4 11 0 5 0 false since twice (.slice none 0 0)) ∧
        Outs wi w0.heap.size p1 p2 k s ov gos ∧ ∀ kb, (ov.ownBlock = some kb ∨ kb ∈ gos) → ¬ Owns wb wm S2 kb))) (fun i _ => 1 - (intOf i).toNat)
      case atStart => exact .inl ⟨rfl, rfl⟩
      case round =>
        rcases hrel with ⟨rfl, rfl⟩ | ⟨rfl, HQ⟩
        · have r0 : wr.cell? ⟨ga, off, none⟩ = some (.int .i64 0) := GC.out.2.1
          have r1 : wr.cell? ⟨ga, off + 1, none⟩ = some (.int .i64 (at0 + 60)) := GC.out.2.2
          have D3 := Keep.mk (D2.out.quiet ((Below.refl _ wr).alloc (Nat.le_refl _) (.cells #[.int .i64 0, .int .i64 (at0 + 60)] 72)))
          have d7 : (wr.alloc (.cells #[.int .i64 0, .int .i64 (at0 + 60)] 72)).cell? ⟨c, 7, none⟩ = some (.int .i64 0) := D3.out.cs.cn.c 7
          have x0 : (wr.alloc (.cells #[.int .i64 0, .int .i64 (at0 + 60)] 72)).cell? ⟨wr.heap.size, 0, none⟩ = some (.int .i64 0) := by rw [World.cell?_alloc_new]; rfl
          have x1 : (wr.alloc (.cells #[.int .i64 0, .int .i64 (at0 + 60)] 72)).cell? ⟨wr.heap.size, 1, none⟩ = some (.int .i64 (at0 + 60)) := by rw [World.cell?_alloc_new]; rfl
          obtain ⟨cur, hcur⟩ := D3.out.rty
          have EX := Keep.mk (cexpire_dead s e0 (at0 + 60) g2 c2 D3.out.cs.cn D3.out.cs.leg D3.out.cs.flw D3.out.que (hcur.ne_ty D3.out.cs.flw (by decide)) D3.out.row hcur.lt D3.out.pat)
          clear hcur
          go_wp2_with (first
            | (go_at_call 33
               go_loud (refine EX.out.mono ?_; rintro e w4 ⟨rfl, c4, f4, x4⟩)
               have P3 := D3.out.pat
               have Q4 : Keep (Cs w0 w4 base wb wm nb S2 (at0 + 60) [] c sd st rv mp st2 lg fl (conE p1 p2 k 0 0 13 sd rv pb lg wb ov) (flC q 4 11 0 5 0 false since twice (.slice none 0 0)) ∧
                   Outs w4 w0.heap.size p1 p2 k s ov gos ∧ ∀ kb, (ov.ownBlock = some kb ∨ kb ∈ gos) → ¬ Owns wb wm S2 kb) :=
                 ⟨D3.out.cs.own (l := [pb]) (x4.mono (fun x _ hx => by simp at hx; rcases hx with rfl | rfl | rfl <;> simp)) c4 f4 (by
                    intro y hy
                    obtain rfl : y = pb := by simpa using hy
                    refine ⟨(D3.out.free2 y (by simp)).1, (D3.out.free2 y (by simp)).2, ?_⟩
                    simp only [List.mem_cons, List.not_mem_nil, or_false, not_or]
                    exact ⟨P3.ne_ty D3.out.cs.snd (by decide), P3.ne_ty D3.out.cs.rcv (by decide), P3.ne_ty D3.out.cs.leg (by decide)⟩),
                  D3.out.outs.keep (fun kb e => x4.block kb (D3.out.outs.lt' e) (by
                    simp only [List.mem_cons, List.not_mem_nil, or_false, not_or]
                    exact ⟨D3.out.outs.ne' D3.out.cs.flw (by decide) (by decide) e, D3.out.outs.ne' P3 (by decide) (by decide) e, D3.out.outs.ne' D3.out.cs.cn (by decide) (by decide) e⟩)),
                  D3.out.free⟩
               clear c4 f4 x4 P3)
            | fail)
          go_roundw
          case rel => exact .inr ⟨rfl, Q4⟩
          case measure => simp [intOf]
        · have d22 : wr.cell? ⟨c, 22, none⟩ = some (.pointer (some ⟨wb, 0, none⟩)) := HQ.out.1.cn.c 22
          have NW3 := Keep.mk (now_wl HQ.out.1.wl)
          have SD := Keep.mk (settle_dead (at0 + 60) s ov gos HQ.out.1 (by have := HA.out; omega) (by have := HA.out; omega) HQ.out.2.1 HQ.out.2.2)
          go_wp2_with (first
            | (go_at_call 31
               go_loud (refine NW3.out.mono ?_; rintro e X ⟨rfl, hX⟩)
               rw [hX]
               clear hX)
            | (go_at_call 30
               go_loud (refine SD.out.mono ?_; rintro e w5 ⟨rfl, S5, c5, o5⟩)
               have G5 : Keep (Gone w0 w5 base wb wm c sd st rv mp st2 lg fl pb q p1 p2 k s (at0 + 60)) := ⟨⟨nb, S5, ov, gos, 4, since, twice, HGL.out, c5, o5⟩⟩
               clear c5 o5)
            | fail)
          go_roundg 0
          case measure => omega
          case rel => exact .inr G5
    · obtain ⟨nb, S, ov, gos, times, since, twice, hg, hc, ho⟩ := HG.out.ex
      have c22 : wr.cell? ⟨c, 22, none⟩ = some (.pointer (some ⟨wb, 0, none⟩)) := hc.cn.c 22
      have NW := Keep.mk (now_wl hc.wl)
      have hirr : ¬ at0 + 60 < at0 + 60 := by omega
      clear hc ho
      go_wp2_with (first
        | (go_at_call 31
           go_loud (refine NW.out.mono ?_; rintro e X ⟨rfl, hX⟩)
           rw [hX]
           clear hX)
        | fail)
      go_end0
      exact ⟨rfl, HG.out⟩
end
end Go.Proofs.YtcjanieeepcddaaGreatDoor
/-
  The walk of ConnSilent.
-/
namespace Go.Proofs.YtcjanieeepcddaaGreatDoor
open Go.RowKit

section
variable {w0 w : World} {base wb wm nb : Nat} {S : Nat → Value} {now : Int} {c sd st rv mp st2 lg fl pb q : Nat} {p1 p2 k state err ld : Int} {out fout : Value} {times rcv tries at_ since : Int} {has twice : Bool} {carr farr : Array Value}
set_option maxRecDepth 100000 in
theorem err_any (x : Int) (h : w.cell? ⟨c, 8, none⟩ = some (.int .i64 x)) : Calls Tryz.prog 9 #[.pointer (some ⟨c, 0, none⟩)] w fun e w' => e = .returned (.int .i64 x) ∧ w' = w := by
  go_enter Tryz.func9, Tryz.ntmps9
  go_wp2_with fail
  go_ret
  exact ⟨rfl, rfl⟩
set_option maxRecDepth 100000 in
theorem cout_e (h : Bk w c (conE p1 p2 k state err ld sd rv pb lg wb out) 68) (A : Option Addr) (n cc : Nat) (hv : out = .slice A n cc) :
    Calls Tryz.prog 7 #[.pointer (some ⟨c, 0, none⟩)] w fun e w' => e = .returned (.slice A n cc) ∧ Bk w' c (conE p1 p2 k state err ld sd rv pb lg wb (.slice none 0 0)) 68 ∧ Fz w w' [c] := by
  subst hv
  have c29 : w.cell? ⟨c, 29, none⟩ = some (.slice A n cc) := h.c 29
  have f29 := h.free 29
  have HB := Keep.mk h
  clear h
  go_enter Tryz.func7, Tryz.ntmps7
  go_wp2_with fail
  go_ret
  exact ⟨rfl, HB.out.set 29 _, Fz.set _ c 29 _⟩
set_option maxRecDepth 100000 in
theorem timers_none (h : Cs w0 w base wb wm nb S now [] c sd st rv mp st2 lg fl carr farr) (h22 : carr[22]? = some (.pointer (some ⟨wb, 0, none⟩))) :
    Calls Tryz.prog 25 #[.pointer (some ⟨c, 0, none⟩)] w fun e w' => e = .returned (.int .i64 0) ∧ w' = w := by
  have c22 : w.cell? ⟨c, 22, none⟩ = some (.pointer (some ⟨wb, 0, none⟩)) := (h.cn.c 22).trans h22
  have LN := Keep.mk (len_wl h.wl)
  clear h h22
  go_enter Tryz.func25, Tryz.ntmps25
  go_wp2_with (first
    | (go_at_call 65
       go_loud (refine LN.out.mono ?_; rintro e X ⟨rfl, hX⟩)
       rw [hX]
       clear hX)
    | fail)
  go_ret
  exact ⟨by first | rfl | simp, rfl⟩
set_option maxRecDepth 100000 in
theorem over_gone (h : Cs w0 w base wb wm nb S now [] c sd st rv mp st2 lg fl (conE p1 p2 k 8 err ld sd rv pb lg wb out) (flC q times 11 rcv tries at_ has since twice fout)) :
    Calls Tryz.prog 10 #[.pointer (some ⟨c, 0, none⟩)] w fun e w' => e = .returned (.bool true) ∧ w' = w := by
  have c7 : w.cell? ⟨c, 7, none⟩ = some (.int .i64 8) := h.cn.c 7
  have LG := Keep.mk (legs_none h.cn h.leg h.flw)
  have TM := Keep.mk (timers_none h rfl)
  clear h
  go_enter Tryz.func10, Tryz.ntmps10
  go_wp2_with (first
    | (go_at_call 24
       go_loud (refine LG.out.mono ?_; rintro e X ⟨rfl, hX⟩)
       rw [hX]
       clear hX)
    | (go_at_call 25
       go_loud (refine TM.out.mono ?_; rintro e X ⟨rfl, hX⟩)
       rw [hX]
       clear hX)
    | fail)
  go_ret
  exact ⟨by first | rfl | simp, rfl⟩
theorem segS_length (p1 p2 s : Int) (go : Nat) : (segS p1 p2 s go).length = 13 := rfl
end
set_option maxRecDepth 100000 in
set_option maxHeartbeats 12800000 in
theorem connSilent_walk (k a : Int) (w : World) (_k0 : 0 ≤ k) (_k1 : k < 18446744073709551616) (a0 : 0 ≤ a) (a1 : a ≤ 65535) :
    Calls Tryz.prog 3 #[.int .u64 k, .int .u16 a] w fun e w' => e = .returned (.bool true) ∧ Below w.heap.size w w' := by
  have q0 : IntKind.i64.wrap a = a := IntWalk.i64_in _ (by omega)
  have q1 : IntKind.i64.wrap (a + 59) = a + 59 := IntWalk.i64_in _ (by omega)
  have q2 : IntKind.i64.wrap (a + 60) = a + 60 := IntWalk.i64_in _ (by omega)
  have HA : Keep (0 ≤ a ∧ a ≤ 65535) := ⟨a0, a1⟩
  clear a0 a1
  go_enter Tryz.func3, Tryz.ntmps3
  go_wp2_with (first
    | (go_at_call 5
       go_loud (refine (cwakes_any w).mono ?_; rintro e w1 ⟨rfl, b1⟩)
       have B1 := Keep.mk b1
       clear b1)
    | (go_at_call 6
       go_loud (refine (dial_any 5 80 k a w1 (by omega) (by omega) (by omega) (by omega) (by have := HA.out; omega) (by have := HA.out; omega)).mono ?_; rintro e w2 ⟨base, wb, wm, S, c, sd, st, rv, mp, st2, lg, fl, pb, q, g2, s, e0, c2, ov, go, rfl, dl⟩)
       obtain ⟨g, cc, rfl, hgl, hgs, hrow⟩ := dl.outs.one
       have CO := Keep.mk (cout_any dl.cs.cn _ _ _ rfl)
       have DL := Keep.mk dl
       clear dl hgl hgs hrow)
    | (go_at_call 8
       go_loud (refine T2.out.mono ?_; rintro e w5 ⟨rfl, l5⟩)
       obtain ⟨nb5, S5, ov5, gos5, times5, since5, twice5, hg5, cs5, out5⟩ := l5.ex
       obtain ⟨A5, k5, rfl, _⟩ := own_slice out5.row
       have CO5 := Keep.mk (cout_e cs5.cn _ _ _ rfl)
       have CS5 := Keep.mk cs5
       have OU5 := Keep.mk out5
       have HG5 := Keep.mk hg5
       clear l5 hg5 cs5 out5 T2)
    | (go_at_call 8
       go_loud (refine T1.out.mono ?_; rintro e w4 ⟨rfl, l4⟩)
       have L4 := Keep.mk l4
       obtain ⟨n, nb, S4, ov4, gos4, since, twice, hn, hnb, hg, hj, hd⟩ := l4.ex
       have ER := Keep.mk (err_any (c := c) 0 (hd.cs.cn.c 8))
       have OV := Keep.mk (over_init hd.cs.cn)
       have T2 := Keep.mk (ctick_dead a HA.out.1 (by have := HA.out; omega) l4)
       clear l4 hn hnb hg hj hd)
    | (go_at_call 7
       go_loud (refine CO5.out.mono ?_; rintro e w6 ⟨rfl, c6, x6⟩)
       have K6 := Keep.mk (CS5.out.own (l := []) (x6.mono (fun x _ hx => by simp at hx; subst hx; simp)) c6 (CS5.out.flw.fz x6 (by simp; exact CS5.out.flw.ne_ty CS5.out.cn (by decide))) (by simp))
       have O6 := Keep.mk (OU5.out.keep fun kb e => x6.block kb (OU5.out.lt' e) (by simp; exact OU5.out.ne' CS5.out.cn (by decide) (by decide) e))
       clear c6 x6)
    | (go_at_call 7
       go_loud (refine CO.out.mono ?_; rintro e w3 ⟨rfl, c3, x3⟩)
       have L3 : Live w1 w3 base wb wm c sd st rv mp st2 lg fl pb q g2 5 80 k s e0 c2 a 0 := ⟨0, 1, S, .slice none 0 0, [], a, false, by omega, by omega, rfl, by decide, by
         have d3 := DL.out.next ((x3.fw wb wm S).mono (fun x _ hx => by simp at hx; subst hx; simp)) (DL.out.cs.own (l := []) (x3.mono (fun x _ hx => by simp at hx; subst hx; simp)) c3 (DL.out.cs.flw.fz x3 (by simp; exact DL.out.cs.flw.ne_ty DL.out.cs.cn (by decide))) (by simp)) (Outs.nil w3 w1.heap.size 5 80 k s) (by rintro kb (e | e) <;> cases e)
         rw [show a + ((0 : Nat) : Int) = a from Int.add_zero a]
         exact d3⟩
       have t1 := ctick_live a 59 0 (by omega) (by omega) HA.out.1 (by have := HA.out; omega) L3
       rw [show a + ((59 : Nat) : Int) = a + 59 from rfl] at t1
       have T1 := Keep.mk t1
       clear c3 x3 L3 t1 CO)
    | (go_at_call 9
       go_loud (refine ER.out.mono ?_; rintro e X ⟨rfl, hX⟩)
       rw [hX]
       clear hX)
    | (go_at_call 10
       go_loud (refine OV.out.mono ?_; rintro e X ⟨rfl, hX⟩)
       rw [hX]
       clear hX)
    | fail)
  obtain ⟨gg, off, hA5, hgl, hcs⟩ := Rd.of_own (enc := segS 5 80 s) (l := gos5) (segS_length 5 80 s) (by decide) O6.out.row (by intro e; have := HG5.out; rw [e] at this; cases this)
  have HCS := Lib.hid hcs
  have HGL := Keep.mk hgl
  have hg5 := HG5.out
  subst hA5
  rw [hg5]
  clear hcs hgl
  go_loopw [8, 45] (fun n i wr => ∃ j : Nat, j ≤ 4 ∧ i = .int .i64 j ∧ n = .int .i64 (1 + (j : Int)) ∧ Below w6.heap.size w6 wr) (fun _ i _ => 4 - (intOf i).toNat)
  case atStart => exact ⟨0, by omega, rfl, rfl, Below.refl _ _⟩
  case round =>
    obtain ⟨j, hj, rfl, rfl, hb⟩ := hrel
    rcases Nat.lt_or_ge j 4 with hlt | hge
    · have hx : gos5[j]? = some (gos5[j]'(by omega)) := List.getElem?_eq_getElem (by omega)
      obtain ⟨x, hxe⟩ : ∃ x, gos5[j]'(by omega) = x := ⟨_, rfl⟩
      rw [hxe] at hx
      have hat := HCS.out j x hx
      have cc : ∀ y u, (segS 5 80 s x)[y]? = some u → wr.cell? ⟨gg, off + j * 13 + y, none⟩ = some u := fun y u hu => (hb.cell HGL.out).trans (hat y u hu)
      have r0 : wr.cell? ⟨gg, off + j * 13, none⟩ = some (.int .i64 0) := cc 0 _ rfl
      have r1 : wr.cell? ⟨gg, off + j * 13 + 1, none⟩ = some (.int .i64 1) := cc 1 _ rfl
      have r2 : wr.cell? ⟨gg, off + j * 13 + 2, none⟩ = some (.int .i64 5) := cc 2 _ rfl
      have r3 : wr.cell? ⟨gg, off + j * 13 + 3, none⟩ = some (.int .i64 80) := cc 3 _ rfl
      have r4 : wr.cell? ⟨gg, off + j * 13 + 4, none⟩ = some (.int .u32 s) := cc 4 _ rfl
      have r5 : wr.cell? ⟨gg, off + j * 13 + 5, none⟩ = some (.int .u32 0) := cc 5 _ rfl
      have r6 : wr.cell? ⟨gg, off + j * 13 + 6, none⟩ = some (.bool true) := cc 6 _ rfl
      have r7 : wr.cell? ⟨gg, off + j * 13 + 7, none⟩ = some (.bool false) := cc 7 _ rfl
      have r8 : wr.cell? ⟨gg, off + j * 13 + 8, none⟩ = some (.bool false) := cc 8 _ rfl
      have r9 : wr.cell? ⟨gg, off + j * 13 + 9, none⟩ = some (.bool false) := cc 9 _ rfl
      have r10 : wr.cell? ⟨gg, off + j * 13 + 10, none⟩ = some (.int .i64 32) := cc 10 _ rfl
      have r11 : wr.cell? ⟨gg, off + j * 13 + 11, none⟩ = some (.slice (some ⟨x, 0, none⟩) 1 1) := cc 11 _ rfl
      have r12 : wr.cell? ⟨gg, off + j * 13 + 12, none⟩ = some (.slice none 0 0) := cc 12 _ rfl
      have NB := Bk.new wr (segS 5 80 s x).toArray 39
      have y6 : (wr.alloc (.cells #[.int .i64 0, .int .i64 1, .int .i64 5, .int .i64 80, .int .u32 s, .int .u32 0, .bool true, .bool false, .bool false, .bool false, .int .i64 32, .slice (some ⟨x, 0, none⟩) 1 1, .slice none 0 0] 39)).cell? ⟨wr.heap.size, 6, none⟩ = some (.bool true) := NB.c 6
      have y7 : (wr.alloc (.cells #[.int .i64 0, .int .i64 1, .int .i64 5, .int .i64 80, .int .u32 s, .int .u32 0, .bool true, .bool false, .bool false, .bool false, .int .i64 32, .slice (some ⟨x, 0, none⟩) 1 1, .slice none 0 0] 39)).cell? ⟨wr.heap.size, 7, none⟩ = some (.bool false) := NB.c 7
      have hji : ((j : Nat) : Int) < 4 := by omega
      have qn : IntKind.i64.wrap (1 + (j : Int) + 1) = 1 + ((j + 1 : Nat) : Int) := by rw [IntWalk.i64_in _ (by omega)]; push_cast; omega
      have HB := Keep.mk hb
      clear hat cc NB hb hx hxe
      go_wp2_with fail
      go_roundw
      case rel => exact ⟨j + 1, by omega, by go_num, by first | rfl | rw [qn] | (rw [← qn]) | trivial, HB.out.alloc HB.out.size _⟩
      case measure => simp [intOf] <;> omega
    · obtain rfl : j = 4 := by omega
      have K7 := Keep.mk (K6.out.quiet hb)
      have ER2 := Keep.mk (err_any (c := c) 13 (K7.out.cn.c 8))
      have OV2 := Keep.mk (over_gone K7.out)
      have BE : Keep (Below w.heap.size w wr) := ⟨B1.out.trans (K7.out.below.mono B1.out.size)⟩
      clear hb
      go_wp2_with (first
        | (go_at_call 9
           go_loud (refine ER2.out.mono ?_; rintro e X ⟨rfl, hX⟩)
           rw [hX]
           clear hX)
        | (go_at_call 10
           go_loud (refine OV2.out.mono ?_; rintro e X ⟨rfl, hX⟩)
           rw [hX]
           clear hX)
        | fail)
      go_ret
      exact ⟨by first | rfl | simp, BE.out⟩
end Go.Proofs.YtcjanieeepcddaaGreatDoor
