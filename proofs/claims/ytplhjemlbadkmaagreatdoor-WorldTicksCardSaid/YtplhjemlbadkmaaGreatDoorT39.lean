/-
  Walks and laws, one behind the other (part 39).
-/
import Derived.Test.YtplhjemlbadkmaaGreatDoorT7
import Derived.Test.YtplhjemlbadkmaaGreatDoorT36
import Derived.Test.YtplhjemlbadkmaaGreatDoorT38
set_option linter.unusedSimpArgs false
set_option linter.unusedVariables false
/-
  The example of the laws of worlds holds.
-/
namespace Go.Proofs.YtplhjemlbadkmaaGreatDoor
open Go.RowKit Go.Maps

set_option maxRecDepth 100000 in
theorem wpackets_any {w : World} {wb h0 h1 nb n c : Nat} {n0 n1 : Int} {lv dv : Value} {A : Option Addr} (hw : Bk w wb (wldC h0 h1 nb n0 n1 lv dv) 42) (hn : Bk w nb #[.slice A n c] 61) :
    Calls Tryz.prog 10 #[.pointer (some ⟨wb, 0, none⟩)] w fun e w' => e = .returned (.int .i64 n) ∧ w' = w := by
  have c2 : w.cell? ⟨wb, 2, none⟩ = some (.pointer (some ⟨nb, 0, none⟩)) := hw.c 2
  have NL := Keep.mk (netlen_any nb A n c w hn)
  clear hw hn
  go_enter Tryz.func10, Tryz.ntmps10
  go_wp2_with (first
    | (go_at_call 31
       go_loud (refine NL.out.mono ?_; rintro e X ⟨rfl, hX⟩)
       rw [hX]
       clear hX)
    | fail)
  go_ret
  exact ⟨rfl, rfl⟩
set_option maxRecDepth 100000 in
set_option maxHeartbeats 3200000 in
theorem wwakes_any (w : World) (hG : Gw w) : Calls Tryz.prog 4 #[] w fun e w' => e = .returned (.bool true) ∧ Below w.heap.size w w' := by
  have NW := Keep.mk (wnew_any 1 2 w)
  have KG := Keep.mk hG
  clear hG
  go_enter Tryz.func4, Tryz.ntmps4
  go_wp2_with (first
    | (go_at_call 5
       go_loud (refine NW.out.mono ?_; rintro e w1 ⟨wb, h0, t0, m0, h1, t1, m1, nb, dm, lo1, rfl, n1⟩)
       have N1 := Keep.mk n1
       have QI := Keep.mk (wquiet_idle n1.wld n1.net n1.i0 n1.i1)
       clear n1 NW)
    | (go_at_call 9
       go_loud (refine QI.out.mono ?_; rintro e w2 ⟨rfl, b2⟩)
       have N3 := (N1.out.past b2).past ((Below.refl _ w2).alloc (Nat.le_refl _) (.cells (entC 5 0 0 1 0) 29))
       have DO := Keep.mk (wdo_one N3 KG.out (Bk.new w2 (entC 5 0 0 1 0) 29))
       clear b2 N3 QI)
    | (go_at_call 6
       go_loud (refine DO.out.mono ?_; rintro e w4 ⟨rfl, o4⟩)
       obtain ⟨lv4, hw4, _⟩ := o4.wld
       obtain ⟨A4, c4, hn4⟩ := o4.net
       have PK := Keep.mk (wpackets_any hw4 hn4)
       have QB := Keep.mk (wquiet_busy hw4 hn4 (by omega))
       have B4 := Keep.mk o4.below
       clear o4 hw4 hn4 DO)
    | (go_at_call 10
       go_loud (refine PK.out.mono ?_; rintro e X ⟨rfl, hX⟩)
       rw [hX]
       clear hX)
    | (go_at_call 9
       go_loud (refine QB.out.mono ?_; rintro e X ⟨rfl, hX⟩)
       rw [hX]
       clear hX)
    | fail)
  go_ret
  exact ⟨by first | rfl | simp, B4.out⟩
end Go.Proofs.YtplhjemlbadkmaaGreatDoor
/-
  A host that has nothing ticks.
-/
namespace Go.Proofs.YtplhjemlbadkmaaGreatDoor
open Go.RowKit Go.Maps

set_option maxRecDepth 100000 in
theorem sidx_none (v : Value) (w : World) : Calls Tryz.prog 99 #[.slice none 0 0, v] w fun e w' => e = .returned (.int .i64 (-1)) ∧ w' = w := by
  go_enter Tryz.func99, Tryz.ntmps99
  go_wp2_with fail
  go_loopw [8] (fun i wr => i = .int .i64 0 ∧ wr = w) (fun _ _ => 0)
  case atStart => exact ⟨rfl, rfl⟩
  case round =>
    obtain ⟨rfl, rfl⟩ := hrel
    go_wp2_with fail
    go_ret
    exact ⟨rfl, rfl⟩
set_option maxRecDepth 100000 in
theorem sdel_none (v : Value) (w : World) : Calls Tryz.prog 118 #[.slice none 0 0, v] w fun e w' => e = .returned (.slice none 0 0) ∧ w' = w := by
  go_enter Tryz.func118, Tryz.ntmps118
  go_wp2_with (first
    | (go_at_call 99
       go_loud (refine (sidx_none _ _).mono ?_; rintro e X ⟨rfl, hX⟩)
       rw [hX]
       clear hX)
    | fail)
  go_ret
  exact ⟨rfl, rfl⟩
section
variable {lo : Nat} {w : World} {hb tb m : Nat} {seed drawn made tick : Int} {pv ports outv : Value}
set_option maxRecDepth 100000 in
theorem hsettle_none (h : Bk w hb (hostC seed drawn pv ports (.slice none 0 0) made tb tick outv) 53) :
    Calls Tryz.prog 67 #[.pointer (some ⟨hb, 0, none⟩)] w fun e w' => e = .returned (.tuple #[]) ∧ w' = w := by
  have c4 : w.cell? ⟨hb, 4, none⟩ = some (.slice none 0 0) := h.c 4
  have f4 := h.free 4
  have SF := Keep.mk (h.self (i := 4) (v := .slice none 0 0) rfl)
  clear h
  go_enter Tryz.func67, Tryz.ntmps67
  go_wp2_with fail
  go_loopw [9] (fun i wr => i = .int .i64 0 ∧ wr = w) (fun _ _ => 0)
  case atStart => exact ⟨rfl, rfl⟩
  case round =>
    obtain ⟨rfl, rfl⟩ := hrel
    go_wp2_with (first
      | (go_at_call 118
         go_loud (refine (sdel_none _ _).mono ?_; rintro e X ⟨rfl, hX⟩)
         rw [hX]
         clear hX)
      | fail)
    go_end0
    exact ⟨rfl, SF.out⟩
theorem HIdle.ne (h : HIdle lo w hb tb m seed tick) : hb ≠ tb ∧ hb ≠ m := let ⟨_, hc⟩ := h.hc; ⟨hc.hst.ne.1, hc.hst.ne.2.1⟩
set_option maxRecDepth 100000 in
set_option maxHeartbeats 3200000 in
theorem htick_none (h : HIdle lo w hb tb m seed tick) (t0 : 0 ≤ tick) (t1 : tick ≤ 1000000) :
    Calls Tryz.prog 40 #[.pointer (some ⟨hb, 0, none⟩)] w fun e w' => e = .returned (.tuple #[]) ∧ HIdle lo w' hb tb m seed (tick + 1) ∧ Fz w w' [hb, m] := by
  obtain ⟨ports, hB⟩ := h.blk
  have ne := h.ne
  have c7 : w.cell? ⟨hb, 7, none⟩ = some (.int .i64 tick) := hB.c 7
  have f7 := hB.free 7
  have q1 : IntKind.i64.wrap (tick + 1) = tick + 1 := IntWalk.i64_in _ (by omega)
  obtain ⟨w1, hw1⟩ : ∃ w1, w.setCell ⟨hb, 7, none⟩ (.int .i64 (tick + 1)) = w1 := ⟨_, rfl⟩
  have X1 : Fz w w1 [hb] := hw1 ▸ Fz.set w hb 7 _
  have B1 : Bk w1 hb (hostC seed 0 (.slice none 0 0) ports (.slice none 0 0) 0 tb (tick + 1) (.slice none 0 0)) 53 := hw1 ▸ hB.set 7 _
  have X1d := X1.trans (Fz.drew w1 1)
  have HB1 := Keep.mk (B1.fz (Fz.drew w1 1) (by simp))
  have T1 := Keep.mk (tick_any lo tb m 0 4 (fun _ => none) 0 (tick + 1) (w1.drewN 1) (h.tab.fz X1d (by simp; exact fun e => ne.1 e.symm) (by simp; exact fun e => ne.2 e.symm)))
  have KX1 := Keep.mk X1d
  have NE := Keep.mk ne
  have HL := Keep.mk h.lo
  clear h hB X1 B1 X1d ne t0 t1
  go_enter Tryz.func40, Tryz.ntmps40
  go_wp2_with fail
  try rw [hw1]
  clear hw1
  go_region_held3 (fun X => X.cell? ⟨hb, 6, none⟩ = some (.pointer (some ⟨tb, 0, none⟩)) ∧ X.cell? ⟨hb, 7, none⟩ = some (.int .i64 (tick + 1)))
    (first | exact ⟨HB1.out.c 6, HB1.out.c 7⟩ | exact ⟨HB2.out.c 6, HB2.out.c 7⟩)
    (first
      | (go_at_call 64
         go_loud (refine T1.out.mono ?_; rintro e w2 ⟨r, k', rfl, hk', _, t2, f2⟩)
         have HB2 := Keep.mk (HB1.out.fz f2.fz (by simp; exact NE.out.2))
         obtain rfl : k' = 0 := by omega
         have T2 : Keep (Tb w2 lo tb m 0 4 (fun _ => none) 0) := ⟨t2⟩
         have X2 : Keep (Fz w w2 [hb, m]) := ⟨(KX1.out.trans f2.fz).mono (by simp)⟩
         clear t2 f2 hk')
      | fail)
  have g4 : w2.cell? ⟨hb, 4, none⟩ = some (.slice none 0 0) := HB2.out.c 4
  go_wp2_with fail
  go_loopw [27] (fun i wr => i = .int .i64 0 ∧ wr = w2) (fun _ _ => 0)
  case atStart => exact ⟨rfl, rfl⟩
  case round =>
    obtain ⟨rfl, rfl⟩ := hrel
    have ST := Keep.mk (hsettle_none HB2.out)
    go_wp2_with (first
      | (go_at_call 67
         go_loud (refine ST.out.mono ?_; rintro e X ⟨rfl, hX⟩)
         rw [hX]
         clear hX)
      | fail)
    go_end0
    exact ⟨rfl, ⟨⟨ports, HB2.out⟩, T2.out, HL.out⟩, X2.out⟩
end
end Go.Proofs.YtplhjemlbadkmaaGreatDoor
/-
  A world in which nothing is lets time go on.
-/
namespace Go.Proofs.YtplhjemlbadkmaaGreatDoor
open Go.RowKit Go.Maps

/-- A world in which nothing is; its hosts' ticks. -/
structure WIdle (w0 w : World) (wb h0 t0 m0 h1 t1 m1 nb dm lo1 : Nat) (a b k0 k1 : Int) : Prop where
  wld : Bk w wb (wldC h0 h1 nb 0 0 (.slice none 0 0) (.map (some dm))) 42
  net : Bk w nb #[.slice none 0 0] 61
  i0 : HIdle w0.heap.size w h0 t0 m0 a k0
  i1 : HIdle lo1 w h1 t1 m1 b k1
  dms : Dm w dm 16 wb deeds
  lt0 : h0 < lo1 ∧ t0 < lo1 ∧ m0 < lo1 ∧ w0.heap.size ≤ lo1
  lt1 : h1 < nb ∧ t1 < nb ∧ m1 < nb ∧ lo1 ≤ nb ∧ nb < wb ∧ wb < dm
  below : Below w0.heap.size w0 w
section
variable {w0 w w' : World} {wb h0 t0 m0 h1 t1 m1 nb dm lo1 : Nat} {a b k0 k1 : Int}
theorem Wnew.idle (h : Wnew w0 w wb h0 t0 m0 h1 t1 m1 nb dm lo1 a b) : WIdle w0 w wb h0 t0 m0 h1 t1 m1 nb dm lo1 a b 0 0 := ⟨h.wld, h.net, h.i0, h.i1, h.dms, h.lt0, h.lt1, h.below⟩
theorem WIdle.past (h : WIdle w0 w wb h0 t0 m0 h1 t1 m1 nb dm lo1 a b k0 k1) (hB : Below w.heap.size w w') : WIdle w0 w' wb h0 t0 m0 h1 t1 m1 nb dm lo1 a b k0 k1 := by
  have F := Fz.below hB (Nat.le_refl _)
  exact ⟨h.wld.fz F (by simp), h.net.fz F (by simp), h.i0.fz F (by simp) (by simp) (by simp), h.i1.fz F (by simp) (by simp) (by simp), h.dms.same (F.block _ h.dms.lt (by simp)), h.lt0, h.lt1, h.below.trans (hB.mono h.below.size)⟩
theorem WIdle.step0 {k : Int} (h : WIdle w0 w wb h0 t0 m0 h1 t1 m1 nb dm lo1 a b k0 k1) (F : Fz w w' [h0, m0]) (i : HIdle w0.heap.size w' h0 t0 m0 a k) : WIdle w0 w' wb h0 t0 m0 h1 t1 m1 nb dm lo1 a b k k1 := by
  have l0 := h.lt0
  have l1 := h.lt1
  have o0 := h.i0.lo
  have o1 := h.i0.tab.lowm
  exact ⟨h.wld.fz F (by simp; omega), h.net.fz F (by simp; omega), i, h.i1.low F (by simp; omega), h.dms.same (F.block _ h.dms.lt (by simp; omega)), l0, l1, h.below.trans (F.toBelow h.below.size (by simp; omega))⟩
theorem WIdle.step1 {k : Int} (h : WIdle w0 w wb h0 t0 m0 h1 t1 m1 nb dm lo1 a b k0 k1) (F : Fz w w' [h1, m1]) (i : HIdle lo1 w' h1 t1 m1 b k) : WIdle w0 w' wb h0 t0 m0 h1 t1 m1 nb dm lo1 a b k0 k := by
  have l0 := h.lt0
  have l1 := h.lt1
  have o0 := h.i1.lo
  have o1 := h.i1.tab.lowm
  exact ⟨h.wld.fz F (by simp; omega), h.net.fz F (by simp; omega), h.i0.fz F (by simp; omega) (by simp; omega) (by simp; omega), i, h.dms.same (F.block _ h.dms.lt (by simp; omega)), l0, l1, h.below.trans (F.toBelow h.below.size (by simp; omega))⟩
set_option maxRecDepth 100000 in
theorem hout_idle {lo hb tb m : Nat} {seed tick : Int} (h : HIdle lo w hb tb m seed tick) : Calls Tryz.prog 55 #[.pointer (some ⟨hb, 0, none⟩)] w fun e w' => e = .returned (.slice none 0 0) ∧ w' = w := by
  obtain ⟨ports, hB⟩ := h.blk
  have c8 : w.cell? ⟨hb, 8, none⟩ = some (.slice none 0 0) := hB.c 8
  have f8 := hB.free 8
  have SF := Keep.mk (hB.self (i := 8) (v := .slice none 0 0) rfl)
  clear h hB
  go_enter Tryz.func55, Tryz.ntmps55
  go_wp2_with fail
  go_ret
  exact ⟨rfl, SF.out⟩
set_option maxRecDepth 100000 in
set_option maxHeartbeats 3200000 in
theorem wflush_idle (h : WIdle w0 w wb h0 t0 m0 h1 t1 m1 nb dm lo1 a b k0 k1) :
    Calls Tryz.prog 30 #[.pointer (some ⟨wb, 0, none⟩)] w fun e w' => e = .returned (.tuple #[]) ∧ WIdle w0 w' wb h0 t0 m0 h1 t1 m1 nb dm lo1 a b k0 k1 := by
  have cw0 : w.cell? ⟨wb, 0, none⟩ = some (.pointer (some ⟨h0, 0, none⟩)) := h.wld.c 0
  have cw1 : w.cell? ⟨wb, 1, none⟩ = some (.pointer (some ⟨h1, 0, none⟩)) := h.wld.c 1
  obtain ⟨IX0, IX1⟩ := two_hosts h0 h1
  have KH := Keep.mk h
  clear h
  go_enter Tryz.func30, Tryz.ntmps30
  go_wp2_with fail
  go_loopw [8] (fun i wr => (i = .int .i64 0 ∧ Keep (WIdle w0 wr wb h0 t0 m0 h1 t1 m1 nb dm lo1 a b k0 k1)) ∨ (i = .int .i64 1 ∧ Keep (WIdle w0 wr wb h0 t0 m0 h1 t1 m1 nb dm lo1 a b k0 k1)) ∨ (i = .int .i64 2 ∧ Keep (WIdle w0 wr wb h0 t0 m0 h1 t1 m1 nb dm lo1 a b k0 k1))) (fun i _ => 2 - (intOf i).toNat)
  case atStart => exact .inl ⟨rfl, KH⟩
  case round =>
    rcases hrel with ⟨rfl, HQ⟩ | ⟨rfl, HQ⟩ | ⟨rfl, HQ⟩
    · have HD := Keep.mk (HQ.out.past (below_dn wr 1))
      have OU := Keep.mk (hout_idle HD.out.i0)
      go_wp2_with fail
      go_region_held3 (fun X => X.cell? ⟨wb, 2, none⟩ = some (.pointer (some ⟨nb, 0, none⟩)))
        (first | exact HD.out.wld.c 2)
        (first
          | (go_at_call 55
             go_loud (refine OU.out.mono ?_; rintro e X ⟨rfl, hX⟩)
             rw [hX]
             clear hX)
          | (go_at_call 54
             go_loud (refine (nsend_none nb _ _ (by decide) (by decide)).mono ?_; rintro e X ⟨rfl, hX⟩)
             rw [hX]
             clear hX)
          | fail)
      go_wp2_with fail
      go_roundw
      case rel => exact .inr (.inl ⟨rfl, HD⟩)
      case measure => simp [intOf]
    · have HD := Keep.mk (HQ.out.past (below_dn wr 1))
      have OU := Keep.mk (hout_idle HD.out.i1)
      go_wp2_with fail
      go_region_held3 (fun X => X.cell? ⟨wb, 2, none⟩ = some (.pointer (some ⟨nb, 0, none⟩)))
        (first | exact HD.out.wld.c 2)
        (first
          | (go_at_call 55
             go_loud (refine OU.out.mono ?_; rintro e X ⟨rfl, hX⟩)
             rw [hX]
             clear hX)
          | (go_at_call 54
             go_loud (refine (nsend_none nb _ _ (by decide) (by decide)).mono ?_; rintro e X ⟨rfl, hX⟩)
             rw [hX]
             clear hX)
          | fail)
      go_wp2_with fail
      go_roundw
      case rel => exact .inr (.inr ⟨rfl, HD⟩)
      case measure => simp [intOf]
    · go_wp2_with fail
      go_end0
      exact ⟨rfl, HQ.out⟩
/-- The ticks that are told, as far as they count. -/
def clT (n : Int) : Int := min (max n 0) 20
set_option maxRecDepth 100000 in
set_option maxHeartbeats 6400000 in
theorem wtick_idle {k : Int} (s n x y : Int) (h : WIdle w0 w wb h0 t0 m0 h1 t1 m1 nb dm lo1 a b k k) (hk0 : 0 ≤ k) (hk1 : k ≤ 100000) :
    Calls Tryz.prog 18 #[.pointer (some ⟨wb, 0, none⟩), .agg (entC 4 s n x y)] w fun e w' => e = .returned (.tuple #[]) ∧ WIdle w0 w' wb h0 t0 m0 h1 t1 m1 nb dm lo1 a b (k + clT n) (k + clT n) := by
  have KH := Keep.mk (h.past ((Below.refl _ w).alloc (Nat.le_refl _) (.cells (entC 4 s n x y) 29)))
  have NE := Keep.mk (Bk.new w (entC 4 s n x y) 29)
  have x2 : (w.alloc (.cells (entC 4 s n x y) 29)).cell? ⟨w.heap.size, 2, none⟩ = some (.int .i64 n) := NE.out.c 2
  obtain ⟨IX0, IX1⟩ := two_hosts h0 h1
  obtain ⟨t, ht⟩ : ∃ t : Nat, clT n = (t : Int) := ⟨(clT n).toNat, by unfold clT; omega⟩
  have htl : min (max n 0) 20 = (t : Int) := ht
  have HT : Keep (clT n = (t : Int) ∧ t ≤ 20) := ⟨ht, by unfold clT at ht; omega⟩
  have HK : Keep (0 ≤ k ∧ k ≤ 100000) := ⟨hk0, hk1⟩
  clear h hk0 hk1 ht
  go_enter Tryz.func18, Tryz.ntmps18
  go_wp2_with fail
  go_loopw [10] (fun i wr => ∃ j : Nat, j ≤ t ∧ i = .int .i64 j ∧ Keep (WIdle w0 wr wb h0 t0 m0 h1 t1 m1 nb dm lo1 a b (k + j) (k + j))) (fun i _ => t - (intOf i).toNat)
  case atStart => exact ⟨0, by omega, rfl, ⟨by simpa using KH.out⟩⟩
  case round =>
    obtain ⟨j, hj, rfl, HQ⟩ := hrel
    rcases Nat.lt_or_ge j t with hlt | hge
    · obtain ⟨wo, rfl⟩ : ∃ wo : World, wo = wr := ⟨_, rfl⟩
      have hlti : ((j : Nat) : Int) < (t : Int) := by omega
      have cw0 : wo.cell? ⟨wb, 0, none⟩ = some (.pointer (some ⟨h0, 0, none⟩)) := HQ.out.wld.c 0
      have cw1 : wo.cell? ⟨wb, 1, none⟩ = some (.pointer (some ⟨h1, 0, none⟩)) := HQ.out.wld.c 1
      obtain ⟨kj, hkj⟩ : ∃ kj : Int, k + (j : Int) = kj := ⟨_, rfl⟩
      have HJ : Keep (WIdle w0 wo wb h0 t0 m0 h1 t1 m1 nb dm lo1 a b kj kj) := ⟨by rw [← hkj]; exact HQ.out⟩
      have KJ : Keep (0 ≤ kj ∧ kj ≤ 100020 ∧ k + (j : Int) = kj) := ⟨by have := HK.out; have := HT.out.2; omega, by have := HK.out; have := HT.out.2; omega, hkj⟩
      clear hkj
      go_wp2_with fail
      go_loopw [16] (fun i wr => (i = .int .i64 0 ∧ Keep (WIdle w0 wr wb h0 t0 m0 h1 t1 m1 nb dm lo1 a b kj kj)) ∨ (i = .int .i64 1 ∧ Keep (WIdle w0 wr wb h0 t0 m0 h1 t1 m1 nb dm lo1 a b (kj + 1) kj)) ∨ (i = .int .i64 2 ∧ Keep (WIdle w0 wr wb h0 t0 m0 h1 t1 m1 nb dm lo1 a b (kj + 1) (kj + 1)))) (fun i _ => 2 - (intOf i).toNat)
      case atStart => exact .inl ⟨rfl, HJ⟩
      case round =>
        rcases hrel with ⟨rfl, HR⟩ | ⟨rfl, HR⟩ | ⟨rfl, HR⟩
        · have TI := Keep.mk (htick_none HR.out.i0 KJ.out.1 (by have := KJ.out; omega))
          go_wp2_with (first
            | (go_at_call 40
               go_loud (refine TI.out.mono ?_; rintro e w5 ⟨rfl, i5, f5⟩)
               have K5 := Keep.mk (HR.out.step0 f5 i5)
               clear i5 f5)
            | fail)
          go_roundw
          case rel => exact .inr (.inl ⟨rfl, K5⟩)
          case measure => simp [intOf]
        · have TI := Keep.mk (htick_none HR.out.i1 KJ.out.1 (by have := KJ.out; omega))
          go_wp2_with (first
            | (go_at_call 40
               go_loud (refine TI.out.mono ?_; rintro e w5 ⟨rfl, i5, f5⟩)
               have K5 := Keep.mk (HR.out.step1 f5 i5)
               clear i5 f5)
            | fail)
          go_roundw
          case rel => exact .inr (.inr ⟨rfl, K5⟩)
          case measure => simp [intOf]
        · have FL := Keep.mk (wflush_idle HR.out)
          go_wp2_with (first
            | (go_at_call 30
               go_loud (refine FL.out.mono ?_; rintro e w6 ⟨rfl, i6⟩)
               have K6 : Keep (WIdle w0 w6 wb h0 t0 m0 h1 t1 m1 nb dm lo1 a b (k + ((j + 1 : Nat) : Int)) (k + ((j + 1 : Nat) : Int))) := ⟨by
                 have e : k + ((j + 1 : Nat) : Int) = kj + 1 := by have := KJ.out.2.2; omega
                 rw [e]
                 exact i6⟩
               clear i6)
            | fail)
          go_roundw
          case rel => exact ⟨j + 1, by omega, by go_num, K6⟩
          case measure => simp [intOf] <;> omega
    · obtain rfl : j = t := by omega
      go_wp2_with fail
      go_end0
      refine ⟨rfl, ?_⟩
      rw [HT.out.1]
      exact HQ.out
theorem deeds_four : deeds 4 = some 18 := by decide
end
end Go.Proofs.YtplhjemlbadkmaaGreatDoor
/-
  A world in which nothing is: ticks are done.
-/
namespace Go.Proofs.YtplhjemlbadkmaaGreatDoor
open Go.RowKit Go.Maps

section
variable {w0 w w' : World} {wb h0 t0 m0 h1 t1 m1 nb dm lo1 ge : Nat} {a b k : Int}
set_option maxRecDepth 100000 in
set_option maxHeartbeats 6400000 in
theorem wdo_tick (n : Int) (hN : WIdle w0 w wb h0 t0 m0 h1 t1 m1 nb dm lo1 a b k k) (he : Bk w ge (entC 4 0 n 0 0) 29) (hk0 : 0 ≤ k) (hk1 : k ≤ 100000) :
    Calls Tryz.prog 6 #[.pointer (some ⟨wb, 0, none⟩), .slice (some ⟨ge, 0, none⟩) 1 1] w fun e w' => e = .returned (.int .i64 1) ∧ WIdle w0 w' wb h0 t0 m0 h1 t1 m1 nb dm lo1 a b (k + clT n) (k + clT n) := by
  have N1 := Keep.mk (hN.past ((Below.refl _ w).alloc (Nat.le_refl _) (.cells (entC 4 0 n 0 0) 29)))
  have c6 : w.cell? ⟨wb, 6, none⟩ = some (.map (some dm)) := hN.wld.c 6
  have LK : ∀ q, (Instr.lookup 40 (.map (some dm)) (.int .i64 4) true).run Tryz.prog ((w.alloc (.cells (entC 4 0 n 0 0) 29)).drewN q) = .ok (.tuple #[fnV wb 18, .bool true]) ((w.alloc (.cells (entC 4 0 n 0 0) 29)).drewN q) := fun q => by
    have h := ((N1.out.dms).same (w' := (w.alloc (.cells (entC 4 0 n 0 0) 29)).drewN q) rfl).look (x := 4) (wfI_of (by omega) (by omega))
    rw [deeds_four] at h
    exact h
  have e0 := he.c 0
  have e1 := he.c 1
  have e2 := he.c 2
  have e3 := he.c 3
  have e4 := he.c 4
  simp at e0 e1 e2 e3 e4
  have NE := Keep.mk (Bk.new w (entC 4 0 n 0 0) 29)
  have x0 : (w.alloc (.cells (entC 4 0 n 0 0) 29)).cell? ⟨w.heap.size, 0, none⟩ = some (.int .i64 4) := NE.out.c 0
  have HK : Keep (0 ≤ k ∧ k ≤ 100000) := ⟨hk0, hk1⟩
  clear hN he hk0 hk1
  go_enter Tryz.func6, Tryz.ntmps6
  go_wp2_with fail
  go_loopw [5, 15] (fun c i wr => (c = .int .i64 0 ∧ i = .int .i64 0 ∧ wr = w) ∨ (c = .int .i64 1 ∧ i = .int .i64 1 ∧ Keep (WIdle w0 wr wb h0 t0 m0 h1 t1 m1 nb dm lo1 a b (k + clT n) (k + clT n)))) (fun _ i _ => 1 - (intOf i).toNat)
  case atStart => exact .inl ⟨rfl, rfl, rfl⟩
  case round =>
    rcases hrel with ⟨rfl, rfl, rfl⟩ | ⟨rfl, rfl, HQ⟩
    · go_wp2_with fail
      have N1d := Keep.mk (N1.out.past ((Below.refl _ _).drew))
      have NEd := Keep.mk (NE.out.fz (Fz.drew _ 1) (by simp))
      have CN := Keep.mk (wtick_idle 0 n 0 0 N1d.out HK.out.1 HK.out.2)
      have LK1 : (Instr.lookup 40 (.map (some dm)) (.int .i64 4) true).run Tryz.prog (wr.alloc (.cells (entC 4 0 n 0 0) 29)).drew = .ok (.tuple #[fnV wb 18, .bool true]) (wr.alloc (.cells (entC 4 0 n 0 0) 29)).drew := LK 1
      -- reg dotick
      refine wp_region_noPanic ?_
      refine wp_region_held_drew (S := fun X => X.cell? ⟨wb, 6, none⟩ = some (.map (some dm)) ∧ X.cell? ⟨wr.heap.size, 0, none⟩ = some (.int .i64 4)) (by kernel_rfl) ⟨N1d.out.wld.c 6, NEd.out.c 0⟩ (fun hHeld => ?_)
      refine wpAnyH_pures' (fun d => ([1000, 1000, 1000, 1000, 1000, 1000, 1000, 1000, 10, 11, 1000, 1000, 1000, 1000, 1000, 1000, 1000, 1000, 1000, 7, 0, 1, 2, 3, 4, 5, 6, 8, 9] : List Nat).getD d 1000) [0, 1, 2, 3, 4, 5] 6 (by kernel_rfl) (by kernel_rfl) (by kernel_rfl) (fun _ _ _ _ _ h => h) (by assumption) (fun K hK => ?_)
      refine Ys_cons (v := ?_) rfl (Or.inl ⟨by rfl, ?_⟩) ?_
      rotate_left
      · intro w hSw; go_simp; (try with_reducible rfl)
      try simp only [Act.put, List.setIfInBounds_toArray, List.set_cons_zero, List.set_cons_succ, List.getElem_toArray, List.getElem_cons_zero, List.getElem_cons_succ]
      refine Ys_cons (v := ?_) rfl (Or.inl ⟨by rfl, ?_⟩) ?_
      rotate_left
      · intro w hSw; go_simp; (try with_reducible rfl)
      try simp only [Act.put, List.setIfInBounds_toArray, List.set_cons_zero, List.set_cons_succ, List.getElem_toArray, List.getElem_cons_zero, List.getElem_cons_succ]
      refine Ys_cons (v := ?_) rfl (Or.inl ⟨by rfl, ?_⟩) ?_
      rotate_left
      · intro w hSw; go_simp; (try with_reducible rfl)
      try simp only [Act.put, List.setIfInBounds_toArray, List.set_cons_zero, List.set_cons_succ, List.getElem_toArray, List.getElem_cons_zero, List.getElem_cons_succ]
      refine Ys_cons (v := ?_) rfl (Or.inl ⟨by rfl, ?_⟩) ?_
      rotate_left
      · intro w hSw; go_simp; (try with_reducible rfl)
      try simp only [Act.put, List.setIfInBounds_toArray, List.set_cons_zero, List.set_cons_succ, List.getElem_toArray, List.getElem_cons_zero, List.getElem_cons_succ]
      refine Ys_cons (v := ?_) rfl (Or.inl ⟨by rfl, ?_⟩) ?_
      rotate_left
      · intro w hSw; go_simp; (try with_reducible rfl)
      try simp only [Act.put, List.setIfInBounds_toArray, List.set_cons_zero, List.set_cons_succ, List.getElem_toArray, List.getElem_cons_zero, List.getElem_cons_succ]
      refine Ys_cons (v := ?_) rfl (Or.inl ⟨by rfl, ?_⟩) ?_
      rotate_left
      · intro w hSw; go_simp; (try with_reducible rfl)
      try simp only [Act.put, List.setIfInBounds_toArray, List.set_cons_zero, List.set_cons_succ, List.getElem_toArray, List.getElem_cons_zero, List.getElem_cons_succ]
      refine hK _ ?_
      clear hK K
      change wpAnyH _ _ _ _ _ _ #[true, true, true, true, true, true, false, false, false, false, false, false] _ _
      refine wpAnyH_ready (rs := [6]) (by kernel_rfl) (by simp) ?_
      refine AllReadyH.cons rfl (fun K hK => ?_) AllReadyH.nil
      go_simp
      refine hK.out _ _ ?_ (fun hHeld => ?_)
      · exact ⟨N1d.out.wld.c 6, NEd.out.c 0⟩
      clear hK K
      try simp only [Act.put, List.setIfInBounds_toArray, List.set_cons_zero, List.set_cons_succ, List.getElem_toArray, List.getElem_cons_zero, List.getElem_cons_succ]
      refine wpAnyH_pures' (fun d => ([1000, 1000, 1000, 1000, 1000, 1000, 1000, 1000, 10, 11, 1000, 1000, 1000, 1000, 1000, 1000, 1000, 1000, 1000, 7, 0, 1, 2, 3, 4, 5, 6, 8, 9] : List Nat).getD d 1000) [7, 8, 9, 10, 11] 0 (by kernel_rfl) (by kernel_rfl) (by kernel_rfl) (fun _ _ _ _ _ h => h) (by assumption) (fun K hK => ?_)
      refine Ys_cons (v := ?_) rfl (Or.inl ⟨by rfl, ?_⟩) ?_
      rotate_left
      · intro w hSw; go_simp; (try with_reducible rfl)
      try simp only [Act.put, List.setIfInBounds_toArray, List.set_cons_zero, List.set_cons_succ, List.getElem_toArray, List.getElem_cons_zero, List.getElem_cons_succ]
      refine Ys_cons (v := ?_) rfl (Or.inl ⟨by rfl, ?_⟩) ?_
      rotate_left
      · intro w hSw; go_simp; (try with_reducible rfl)
      try simp only [Act.put, List.setIfInBounds_toArray, List.set_cons_zero, List.set_cons_succ, List.getElem_toArray, List.getElem_cons_zero, List.getElem_cons_succ]
      refine Ys_cons (v := ?_) rfl (Or.inl ⟨by rfl, ?_⟩) ?_
      rotate_left
      · intro w hSw; go_simp; (try with_reducible rfl)
      try simp only [Act.put, List.setIfInBounds_toArray, List.set_cons_zero, List.set_cons_succ, List.getElem_toArray, List.getElem_cons_zero, List.getElem_cons_succ]
      refine Ys_cons (v := ?_) rfl (Or.inl ⟨by rfl, ?_⟩) ?_
      rotate_left
      · intro w hSw; go_simp; (try with_reducible rfl)
      try simp only [Act.put, List.setIfInBounds_toArray, List.set_cons_zero, List.set_cons_succ, List.getElem_toArray, List.getElem_cons_zero, List.getElem_cons_succ]
      refine Ys_cons (v := ?_) rfl (Or.inl ⟨by rfl, ?_⟩) ?_
      rotate_left
      · intro w hSw; go_simp; (try with_reducible rfl)
      try simp only [Act.put, List.setIfInBounds_toArray, List.set_cons_zero, List.set_cons_succ, List.getElem_toArray, List.getElem_cons_zero, List.getElem_cons_succ]
      refine hK _ ?_
      clear hK K
      change wpAnyH _ _ _ _ _ _ #[true, true, true, true, true, true, true, true, true, true, true, true] _ _
      refine wpAnyH_done (by kernel_rfl) ?_ _
      refine NoPanic.normal ?_
      have KE := NEd.out
      have y0 := KE.c 0
      have y1 := KE.c 1
      have y2 := KE.c 2
      have y3 := KE.c 3
      have y4 := KE.c 4
      simp at y0 y1 y2 y3 y4
      go_wp2_with fail
      refine CN.out.mono ?_
      rintro e w2 ⟨rfl, i2⟩
      have FL := Keep.mk (wflush_idle i2)
      clear i2 CN
      go_wp2_with (first
        | (go_at_call 30
           go_loud (refine FL.out.mono ?_; rintro e w3 ⟨rfl, i3⟩)
           have K3 := Keep.mk i3
           clear i3 FL)
        | fail)
      go_roundw
      case rel => exact .inr ⟨rfl, rfl, K3⟩
      case measure => simp [intOf]
      -- end reg
    · go_wp2_with fail
      go_ret
      exact ⟨rfl, HQ.out⟩
set_option maxRecDepth 100000 in
theorem whost_zero {k1 : Int} (h : WIdle w0 w wb h0 t0 m0 h1 t1 m1 nb dm lo1 a b k k1) : Calls Tryz.prog 7 #[.pointer (some ⟨wb, 0, none⟩), .int .i64 0] w fun e w' => e = .returned (.pointer (some ⟨h0, 0, none⟩)) ∧ w' = w := by
  have c0 : w.cell? ⟨wb, 0, none⟩ = some (.pointer (some ⟨h0, 0, none⟩)) := h.wld.c 0
  clear h
  go_enter Tryz.func7, Tryz.ntmps7
  go_wp2_with fail
  go_ret
  exact ⟨rfl, rfl⟩
set_option maxRecDepth 100000 in
theorem whost_one {k1 : Int} (h : WIdle w0 w wb h0 t0 m0 h1 t1 m1 nb dm lo1 a b k k1) : Calls Tryz.prog 7 #[.pointer (some ⟨wb, 0, none⟩), .int .i64 1] w fun e w' => e = .returned (.pointer (some ⟨h1, 0, none⟩)) ∧ w' = w := by
  have c0 : w.cell? ⟨wb, 1, none⟩ = some (.pointer (some ⟨h1, 0, none⟩)) := h.wld.c 1
  clear h
  go_enter Tryz.func7, Tryz.ntmps7
  go_wp2_with fail
  go_ret
  exact ⟨rfl, rfl⟩
end
end Go.Proofs.YtplhjemlbadkmaaGreatDoor
/-
  WorldTicks holds.
-/
namespace Go.Proofs.YtplhjemlbadkmaaGreatDoor
open Go.RowKit Go.Maps

/-- The ticks that a row of numbers tells. -/
def sumT (l : List Int) : Int := (l.map clT).sum
theorem sumT_take (l : List Int) (i : Nat) (hi : i < l.length) : sumT (l.take (i + 1)) = sumT (l.take i) + clT l[i] := by
  rw [sumT, List.take_succ_eq_append_getElem hi, List.map_append, List.sum_append]
  simp [sumT]
set_option maxRecDepth 100000 in
set_option maxHeartbeats 6400000 in
theorem worldTicks_walk (a : Int) (A : Option Addr) (n c : Nat) (l : List Int) (w : World) (hG : Gw w) (_a0 : 0 ≤ a) (_a1 : a < 18446744073709551616) (ha : Arg w 1 encZ A n c l) (_hall : ∀ z ∈ l, (Lit.int .i64 z).wf = true) :
    Calls Tryz.prog 3 #[.int .u64 a, .slice A n c] w fun e w' => e = .returned (.bool true) ∧ Below w.heap.size w w' := by
  clear _a0 _a1 _hall
  have WK := Keep.mk (wwakes_any w hG)
  have HA := Keep.mk ha
  have HL := Keep.mk ha.hlen
  clear ha hG
  by_cases h3 : 50 < n
  · have h3' : (50 : Int) < (n : Int) := by omega
    clear h3
    go_enter Tryz.func3, Tryz.ntmps3
    go_wp2_with (first
      | (go_at_call 4
         go_loud (refine WK.out.mono ?_; rintro e w1 ⟨rfl, hb1⟩)
         have B1 := Keep.mk hb1
         clear hb1)
      | fail)
    go_ret
    exact ⟨rfl, B1.out⟩
  have h3' : ¬ (50 : Int) < (n : Int) := by omega
  have HN : Keep (n ≤ 50) := ⟨by omega⟩
  clear h3
  go_enter Tryz.func3, Tryz.ntmps3
  go_wp2_with (first
    | (go_at_call 4
       go_loud (refine WK.out.mono ?_; rintro e w1 ⟨rfl, hb1⟩)
       have B1 := Keep.mk hb1
       have NW := Keep.mk (wnew_any a a w1)
       clear hb1)
    | (go_at_call 5
       go_loud (refine NW.out.mono ?_; rintro e w2 ⟨wb, h0, t0, m0, h1, t1, m1, nb, dm, lo1, rfl, n2⟩)
       have K2 := Keep.mk n2.idle
       clear n2 NW)
    | fail)
  go_loopw [6, 19] (fun SUM I wr => ∃ (j : Nat) (k : Int), j ≤ n ∧ Keep (k = sumT (l.take j)) ∧ 0 ≤ k ∧ k ≤ 20 * j ∧ I = .int .i64 j ∧ SUM = .int .i64 k ∧ Keep (WIdle w1 wr wb h0 t0 m0 h1 t1 m1 nb dm lo1 a a k k)) (fun _ i _ => n - (intOf i).toNat)
  case atStart => exact ⟨0, 0, by omega, ⟨by simp [sumT]⟩, by omega, by omega, rfl, rfl, K2⟩
  case round =>
    obtain ⟨j, k, hj, HS, hk0, hk1, rfl, rfl, HQ⟩ := hrel
    rcases Nat.lt_or_ge j n with hlt | hge
    · obtain ⟨b, off, rfl, hbl, hc⟩ := HA.out.rd.numZ (List.ne_nil_of_length_pos (by rw [HL.out]; omega))
      have BW := Keep.mk (B1.out.trans (HQ.out.below.mono B1.out.size))
      have c0 := (BW.out.cell (p := ⟨b, off + j, none⟩) hbl).trans (hc j (by rw [HL.out]; exact hlt))
      have hsn := sumT_take l j (by rw [HL.out]; exact hlt)
      obtain ⟨x, hxx⟩ : ∃ x, l[j]'(by rw [HL.out]; exact hlt) = x := ⟨_, rfl⟩
      rw [hxx] at c0 hsn
      obtain ⟨t, ht⟩ : ∃ t : Nat, clT x = (t : Int) := ⟨(clT x).toNat, by unfold clT; omega⟩
      have htl : min (max x 0) 20 = (t : Int) := ht
      have ht20 : t ≤ 20 := by unfold clT at ht; omega
      have HSN : Keep (k + (t : Int) = sumT (l.take (j + 1))) := ⟨by rw [hsn, ht, HS.out]⟩
      have hkt : k + (t : Int) ≤ 1000 := by have := HN.out; omega
      have hlti : ((j : Nat) : Int) < (n : Int) := by omega
      obtain ⟨wo, hwo⟩ : ∃ wo : World, wo = wr := ⟨_, rfl⟩
      have DO := Keep.mk (wdo_tick x (HQ.out.past ((Below.refl _ wr).alloc (Nat.le_refl _) (.cells (entC 4 0 x 0 0) 29))) (Bk.new wr (entC 4 0 x 0 0) 29) hk0 (by omega))
      rw [ht] at DO
      have HK : Keep (0 ≤ k + (t : Int) ∧ k + (t : Int) ≤ 20 * ((j + 1 : Nat) : Int)) := ⟨by omega, by omega⟩
      clear hc hsn hxx ht hwo
      go_wp2_with (first
        | (go_at_call 6
           go_loud (refine DO.out.mono ?_; rintro e w4 ⟨rfl, o4⟩)
           have K4 := Keep.mk o4
           have Z0 := Keep.mk (whost_zero o4)
           have Z1 := Keep.mk (whost_one o4)
           obtain ⟨p0, q0⟩ := o4.i0.blk
           obtain ⟨p1, q1⟩ := o4.i1.blk
           have N0 := Keep.mk (hnow_any q0)
           have N1 := Keep.mk (hnow_any q1)
           clear o4 q0 q1 DO)
        | (go_at_call 7
           go_loud (refine Z0.out.mono ?_; rintro e X ⟨rfl, hX⟩)
           rw [hX]
           clear hX Z0)
        | (go_at_call 7
           go_loud (refine Z1.out.mono ?_; rintro e X ⟨rfl, hX⟩)
           rw [hX]
           clear hX Z1)
        | (go_at_call 8
           go_loud (refine N0.out.mono ?_; rintro e X ⟨rfl, hX⟩)
           rw [hX]
           clear hX N0)
        | (go_at_call 8
           go_loud (refine N1.out.mono ?_; rintro e X ⟨rfl, hX⟩)
           rw [hX]
           clear hX N1)
        | fail)
      go_roundw
      case rel => exact ⟨j + 1, k + (t : Int), by omega, HSN, HK.out.1, HK.out.2, by go_num, rfl, K4⟩
      case measure => simp [intOf] <;> omega
    · obtain rfl : j = n := by omega
      have QI := Keep.mk (wquiet_idle HQ.out.wld HQ.out.net HQ.out.i0 HQ.out.i1)
      have BW := Keep.mk (B1.out.trans (HQ.out.below.mono B1.out.size))
      go_wp2_with (first
        | (go_at_call 9
           go_loud (refine QI.out.mono ?_; rintro e w5 ⟨rfl, b5⟩)
           have B5 := Keep.mk (BW.out.trans (b5.mono BW.out.size))
           clear b5)
        | fail)
      go_ret
      exact ⟨rfl, B5.out⟩
end Go.Proofs.YtplhjemlbadkmaaGreatDoor
