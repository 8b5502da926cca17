/-
  Walks and laws, one behind the other (part 44).
-/
import Derived.Test.YtjpokeakemlffaaGreatDoorS30
import Derived.Test.YtjpokeakemlffaaGreatDoorS34
set_option linter.unusedSimpArgs false
set_option linter.unusedVariables false
/-
  A net is sent one segment that opens, or none.
-/
namespace Go.Proofs.YtjpokeakemlffaaGreatDoor
open Go.RowKit Go.Maps
set_option maxRecDepth 100000 in
theorem hout_two {w : World} {hb tb : Nat} {seed drawn made tick : Int} {pv ports lv : Value} {A : Option Addr} {n cc : Nat} (h : Bk w hb (hostC seed drawn pv ports lv made tb tick (.slice A n cc)) 92) :
    Calls Tryz.prog 70 #[.pointer (some ⟨hb, 0, none⟩)] w fun e w' => e = .returned (.slice A n cc) ∧ Bk w' hb (hostC seed drawn pv ports lv made tb tick (.slice none 0 0)) 92 ∧ Fz w w' [hb] := by
  have c8 : w.cell? ⟨hb, 8, none⟩ = some (.slice A n cc) := h.c 8
  have f8 := h.free 8
  have HB := Keep.mk h
  clear h
  go_enter Tryz.func70, Tryz.ntmps70
  go_wp2_with fail
  go_ret
  exact ⟨rfl, HB.out.set 8 _, Fz.set _ hb 8 _⟩
set_option maxRecDepth 100000 in
theorem nsend_none (nb : Nat) (tt : Int) (w : World) (h0 : 0 ≤ tt) (h1 : tt ≤ 1) : Calls Tryz.prog 69 #[.pointer (some ⟨nb, 0, none⟩), .int .i64 tt, .slice none 0 0] w fun e w' => e = .returned (.int .i64 0) ∧ w' = w := by
  go_enter Tryz.func69, Tryz.ntmps69
  go_wp2_with fail
  go_loopw [7, 24] (fun v i wr => v = .int .i64 0 ∧ i = .int .i64 0 ∧ wr = w) (fun _ _ _ => 0)
  case atStart => exact ⟨rfl, rfl, rfl⟩
  case round =>
    obtain ⟨rfl, rfl, rfl⟩ := hrel
    go_wp2_with fail
    go_ret
    exact ⟨rfl, rfl⟩
theorem infoPkt : (Tryz.prog.info? 98).map (fun i => (i.zero, i.size, i.bytes)) = some (some (.agg #[.int .i64 0, .slice none 0 0]), 2, 32) := by kernel_rfl
set_option maxRecDepth 100000 in
set_option maxHeartbeats 3200000 in
theorem nsend_one (nb : Nat) (tt p1 p2 s : Int) (go g off cc : Nat) (k : Int) (w : World) (h0 : 0 ≤ tt) (h1 : tt ≤ 1) (hn : Bk w nb #[.slice none 0 0] 95) (hG : Gw w) (ho : Bk w go (capO k) 173) (c1 : 0 ≤ p1) (c2 : p1 ≤ 65535) (d1 : 0 ≤ p2) (d2 : p2 ≤ 65535) (k0 : 0 ≤ k) (k1 : k < 18446744073709551616)
    (hs : ∀ j u, (segS p1 p2 s go)[j]? = some u → w.cell? ⟨g, off + j, none⟩ = some u) :
    Calls Tryz.prog 69 #[.pointer (some ⟨nb, 0, none⟩), .int .i64 tt, .slice (some ⟨g, off, none⟩) 1 cc] w fun e w' => e = .returned (.int .i64 1) ∧ (∃ A c, Bk w' nb #[.slice A 1 c] 95) ∧ Fz w w' [nb] := by
  have X1 := Fz.alloc w (.cells (segS p1 p2 s go).toArray 132)
  have SP := Keep.mk (segput_syn p1 p2 s go k (w.alloc (.cells (segS p1 p2 s go).toArray 132)) (hG.fz X1 (by simp)) (ho.fz X1 (by simp)) c1 c2 d1 d2 k0 k1)
  have KX1 := Keep.mk X1
  have KN := Keep.mk hn
  have s0 := hs 0 _ rfl
  have s1 := hs 1 _ rfl
  have s2 := hs 2 _ rfl
  have s3 := hs 3 _ rfl
  have s4 := hs 4 _ rfl
  have s5 := hs 5 _ rfl
  have s6 := hs 6 _ rfl
  have s7 := hs 7 _ rfl
  have s8 := hs 8 _ rfl
  have s9 := hs 9 _ rfl
  have s10 := hs 10 _ rfl
  have s11 := hs 11 _ rfl
  have s12 := hs 12 _ rfl
  simp only [Nat.add_zero] at s0
  clear X1 hG ho c1 c2 d1 d2 k0 k1 hs hn
  go_enter Tryz.func69, Tryz.ntmps69
  go_wp2_with fail
  go_loopw [7, 24] (fun v i wr => (v = .int .i64 0 ∧ i = .int .i64 0 ∧ wr = w) ∨ (v = .int .i64 1 ∧ i = .int .i64 1 ∧ Keep ((∃ A c, Bk wr nb #[.slice A 1 c] 95) ∧ Fz w wr [nb]))) (fun _ i _ => 1 - (intOf i).toNat)
  case atStart => exact .inl ⟨rfl, rfl, rfl⟩
  case round =>
    rcases hrel with ⟨rfl, rfl, rfl⟩ | ⟨rfl, rfl, HQ⟩
    · go_wp2_with (first
        | (go_at_call 110
           go_loud (refine SP.out.mono ?_; rintro e w2 ⟨g2, m2, rfl, _, _, _, b2⟩)
           have F2 := (KX1.out.trans (Fz.below b2 (Nat.le_refl _)))
           have N2 := KN.out.fz F2 (by simp)
           have n0 : w2.cell? ⟨nb, 0, none⟩ = some (.slice none 0 0) := N2.c 0
           have N3 := Keep.mk (N2.fz (Fz.alloc w2 (.cells #[.int .i64 tt, .slice (some ⟨g2, 0, none⟩) m2 m2] 98)) (by simp))
           have F3 : Keep (Fz wr (w2.alloc (.cells #[.int .i64 tt, .slice (some ⟨g2, 0, none⟩) m2 m2] 98)) []) := ⟨(F2.trans (Fz.alloc w2 _)).mono (by simp)⟩
           clear b2 F2 N2)
        | (refine append_one rfl (.tmp 47) (.tmp 51) 93 98 rfl Tryz.underlying93 infoPkt rfl (by omega) (by omega) rfl w2.heap.size [.int .i64 tt, .slice (some ⟨g2, 0, none⟩) m2 m2] rfl rfl (fun j u hu => ((Bk.new w2 #[.int .i64 tt, .slice (some ⟨g2, 0, none⟩) m2 m2] 98).c j).trans (by simpa using hu)) (by simp) (by simp [Value.oneCell']) ?_
           intro g' c' w4 ho4 hb4
           have F4 := Fz.below hb4 (Nat.le_refl _)
           have N4 := N3.out.fz F4 (by simp)
           have KN4 := Keep.mk N4
           have KF4 : Keep (Fz wr w4 []) := ⟨(F3.out.trans F4).mono (by simp)⟩
           have f4 := N4.free 0
           have n4 : w4.cell? ⟨nb, 0, none⟩ = some (.slice none 0 0) := N4.c 0
           clear ho4 hb4 F4 N4)
        | fail)
      go_roundw
      case rel => exact .inr ⟨rfl, rfl, ⟨⟨_, _, KN4.out.set 0 (.slice (some ⟨g', 0, none⟩) 1 c')⟩, (KF4.out.trans (Fz.set w4 nb 0 _)).mono (by simp)⟩⟩
      case measure => simp [intOf]
    · go_wp2_with fail
      go_ret
      exact ⟨rfl, HQ.out.1, HQ.out.2⟩
end Go.Proofs.YtjpokeakemlffaaGreatDoor
/-
  A world dials.
-/
namespace Go.Proofs.YtjpokeakemlffaaGreatDoor
open Go.RowKit Go.Maps
theorem Hc.fz1 {lo : Nat} {w w' : World} {hb tb m nbt : Nat} {seed : Int} {ports lv : Value} {made tick : Int} {outv : Value} {M : Int → Option En} {k : Nat} {l : List (Nat × Nat)} {R : List SegR} {b : Nat} {arr : Array Value} {ty : TypeId} (h : Hc lo w hb tb m nbt seed ports lv made tick outv M k l R) (F : Fz w w' [b]) (hb' : Bk w b arr ty)
    (t1 : 92 ≠ ty) (t2 : 128 ≠ ty) (t3 : 42 ≠ ty) (t4 : 138 ≠ ty) (t5 : 141 ≠ ty) (t6 : 191 ≠ ty) (t7 : 132 ≠ ty) : Hc lo w' hb tb m nbt seed ports lv made tick outv M k l R := by
  have key : ∀ {y : Nat} {a : Array Value} {t : TypeId}, Bk w y a t → t ≠ ty → y ∉ [b] := fun hy ht => by simp; exact fun e => hy.ne_ty hb' ht e
  obtain ⟨ca, hca⟩ := h.con
  exact ⟨h.hst.fz F (fun _ _ h => key h t1) (fun _ _ h => key h t2) (fun _ _ h => key h t3) (by simp; exact fun e => h.hst.ne.2.2 _ _ _ hb' e.symm), h.sk.fz F (fun _ _ h => key h t4) (fun _ _ h => key h t5), ⟨ca, fun i s c hi => let ⟨a, p, q, r⟩ := hca i s c hi; ⟨a.fz F (key a t6), p, q, r⟩⟩, h.nd, own_blockW h.row (fun kb e => let ⟨_, _, h2⟩ := own_ty h.row e; F.block kb h2.lt (key h2 t7)), h.lo.1, Nat.le_trans h.lo.2 F.size⟩
structure Wdial (w w' : World) (wb h0 t0 m0 h1 nb lo : Nat) (a : Int) (dv : Value) : Prop where
  ex : ∃ (lv' lvh ports outv : Value) (sk c go : Nat) (s x : Int), Bk w' wb (wldC h0 h1 nb 0 0 lv' dv) 73 ∧ w'.ownsRow w.heap.size 27 7 lv' 1 (toldC 0 5 1 0) ∧
    Hc lo w' h0 t0 m0 1 a ports lvh 1 0 outv (setT (fun _ => none) (tokN x) (some ⟨0 + 1, true, 0⟩)) 1 [(sk, c)] [synR (1024 + (0 + 1)) 80 s go] ∧ Bk w' go (capO x) 173 ∧ 0 ≤ x ∧ x < 18446744073709551616
  fz : Fz w w' [wb, h0, m0]
section
variable {w : World} {wb h0 t0 m0 h1 nb lo : Nat} {a : Int} {dv : Value}
set_option maxRecDepth 100000 in
set_option maxHeartbeats 6400000 in
theorem wconnect_one (hw : Bk w wb (wldC h0 h1 nb 0 0 (.slice none 0 0) dv) 73) (hi : HIdle lo w h0 t0 m0 a 0) (hlo : lo ≤ w.heap.size) :
    Calls Tryz.prog 31 #[.pointer (some ⟨wb, 0, none⟩), .agg (entC 5 0 0 1 0)] w fun e w' => e = .returned (.tuple #[]) ∧ Wdial w w' wb h0 t0 m0 h1 nb lo a dv := by
  have X0 := Fz.alloc w (.cells (entC 5 0 0 1 0) 45)
  have D0 := X0.trans (Fz.drew _ 1)
  have NE := Keep.mk ((Bk.new w (entC 5 0 0 1 0) 45).fz (Fz.drew _ 1) (by simp))
  have KW := Keep.mk (hw.fz D0 (by simp))
  have KI := Keep.mk (hi.fz D0 (by simp) (by simp) (by simp))
  have KX : Keep (Fz w (w.alloc (.cells (entC 5 0 0 1 0) 45)).drew []) := ⟨D0.mono (by simp)⟩
  have KH : Keep (Bk w wb (wldC h0 h1 nb 0 0 (.slice none 0 0) dv) 73 ∧ HIdle lo w h0 t0 m0 a 0 ∧ lo ≤ w.heap.size) := ⟨hw, hi, hlo⟩
  clear hw hi hlo X0 D0
  go_enter Tryz.func31, Tryz.ntmps31
  go_wp2_with fail
  -- reg connect
  refine wp_region_noPanic ?_
  refine wp_region_held_drew (S := fun X => X.cell? ⟨w.heap.size, 0, none⟩ = some (.int .i64 5) ∧ X.cell? ⟨w.heap.size, 1, none⟩ = some (.int .i64 0) ∧ X.cell? ⟨w.heap.size, 2, none⟩ = some (.int .i64 0) ∧ X.cell? ⟨w.heap.size, 3, none⟩ = some (.int .i64 1) ∧ X.cell? ⟨w.heap.size, 4, none⟩ = some (.int .i64 0)) (by kernel_rfl) ⟨NE.out.c 0, NE.out.c 1, NE.out.c 2, NE.out.c 3, NE.out.c 4⟩ (fun hHeld => ?_)
  refine wpAnyH_pures' (fun d => ([1000, 1000, 1000, 1000, 11, 12, 8, 0, 1, 2, 3, 4, 5, 6, 7, 9, 10] : List Nat).getD d 1000) [0, 1, 3, 4, 5, 6] 7 (by kernel_rfl) (by kernel_rfl) (by kernel_rfl) (fun _ _ _ _ _ h => h) (by assumption) (fun K hK => ?_)
  iterate 6 (refine Ys_cons (v := ?_) rfl (Or.inl ⟨by rfl, ?_⟩) ?_; rotate_left; (focus (intro w hSw; go_simp; (try with_reducible rfl))); try simp only [Act.put, List.setIfInBounds_toArray, List.set_cons_zero, List.set_cons_succ, List.getElem_toArray, List.getElem_cons_zero, List.getElem_cons_succ])
  refine hK _ ?_
  clear hK K
  change wpAnyH _ _ _ _ _ _ #[true, true, false, true, true, true, true, false, false, false, false, false, false] _ _
  refine wpAnyH_ready (rs := [2]) (by kernel_rfl) (by simp) ?_
  refine AllReadyH.cons rfl (fun K hK => ?_) AllReadyH.nil
  go_simp
  refine (wside_zero 5 0 1 0 KW.out).mono ?_
  rintro e w1 ⟨rfl, b1⟩
  have F1 := Fz.below b1 (Nat.le_refl _)
  have NE1 := Keep.mk (NE.out.fz F1 (by simp))
  have KW1 := Keep.mk (KW.out.fz F1 (by simp))
  have KI1 := Keep.mk (KI.out.fz F1 (by simp) (by simp) (by simp))
  have KX1 : Keep (Fz w w1 []) := ⟨(KX.out.trans F1).mono (by simp)⟩
  clear b1 F1
  refine hK.out _ _ ?_ (fun hHeld => ?_)
  · first | exact ⟨NE.out.c 0, NE.out.c 1, NE.out.c 2, NE.out.c 3, NE.out.c 4⟩ | exact ⟨NE1.out.c 0, NE1.out.c 1, NE1.out.c 2, NE1.out.c 3, NE1.out.c 4⟩ | exact ⟨NE2.out.c 0, NE2.out.c 1, NE2.out.c 2, NE2.out.c 3, NE2.out.c 4⟩
  clear hK K
  try simp only [Act.put, List.setIfInBounds_toArray, List.set_cons_zero, List.set_cons_succ, List.getElem_toArray, List.getElem_cons_zero, List.getElem_cons_succ]
  refine wpAnyH_ready (rs := [7]) (by kernel_rfl) (by simp) ?_
  refine AllReadyH.cons rfl (fun K hK => ?_) AllReadyH.nil
  go_simp
  obtain ⟨ports, hc1⟩ := KI1.out.hc
  refine (hconnect_any hc1 (by simp) (by omega) (by omega) (by omega) (by omega) (by omega) (by simp)).mono ?_
  rintro e w2 (⟨er, her, _⟩ | ⟨x, _, _, rfl, hd⟩)
  · exfalso
    rcases her with ⟨_, h⟩ | ⟨_, _, t, h⟩ <;> cases h
  have FD : Fz w1 w2 [h0, m0] := hd.fz.mono (by simp [Value.ownBlock])
  obtain ⟨lv2, outv2, sk, c, go, s, hc2, hgo, _⟩ := hd.ex
  have RG := Keep.mk hd.rng
  have GO := Keep.mk hgo
  have HC2 := Keep.mk hc2
  have nin : ∀ {b : Nat} {arr : Array Value} {ty : TypeId}, Bk w1 b arr ty → 92 ≠ ty → b ∉ [h0, m0] := fun hb ht => hc1.out hb ht
  have NE2 := Keep.mk (NE1.out.fz FD (nin NE1.out (by decide)))
  have KW2 := Keep.mk (KW1.out.fz FD (nin KW1.out (by decide)))
  have KX2 : Keep (Fz w w2 [h0, m0]) := ⟨(KX1.out.trans FD).mono (by simp)⟩
  clear hc1 hd FD hc2 hgo nin
  refine hK.out _ _ ?_ (fun hHeld => ?_)
  · first | exact ⟨NE.out.c 0, NE.out.c 1, NE.out.c 2, NE.out.c 3, NE.out.c 4⟩ | exact ⟨NE1.out.c 0, NE1.out.c 1, NE1.out.c 2, NE1.out.c 3, NE1.out.c 4⟩ | exact ⟨NE2.out.c 0, NE2.out.c 1, NE2.out.c 2, NE2.out.c 3, NE2.out.c 4⟩
  clear hK K
  try simp only [Act.put, List.setIfInBounds_toArray, List.set_cons_zero, List.set_cons_succ, List.getElem_toArray, List.getElem_cons_zero, List.getElem_cons_succ]
  refine wpAnyH_pures' (fun d => ([1000, 1000, 1000, 1000, 11, 12, 8, 0, 1, 2, 3, 4, 5, 6, 7, 9, 10] : List Nat).getD d 1000) [8, 9, 10, 11, 12] 0 (by kernel_rfl) (by kernel_rfl) (by kernel_rfl) (fun _ _ _ _ _ h => h) (by assumption) (fun K hK => ?_)
  iterate 5 (refine Ys_cons (v := ?_) rfl (Or.inl ⟨by rfl, ?_⟩) ?_; rotate_left; (focus (intro w hSw; go_simp; (try with_reducible rfl))); try simp only [Act.put, List.setIfInBounds_toArray, List.set_cons_zero, List.set_cons_succ, List.getElem_toArray, List.getElem_cons_zero, List.getElem_cons_succ])
  refine hK _ ?_
  clear hK K
  change wpAnyH _ _ _ _ _ _ #[true, true, true, true, true, true, true, true, true, true, true, true, true] _ _
  refine wpAnyH_done (by kernel_rfl) ?_ _
  refine NoPanic.normal ?_
  obtain ⟨_, _, _, hB2, _⟩ := HC2.out.hst.ex
  have n0 := NE2.out.c 0
  have n1 := NE2.out.c 1
  have n2 := NE2.out.c 2
  have n3 := NE2.out.c 3
  have n4 := NE2.out.c 4
  simp at n0 n1 n2 n3 n4
  have SY := Keep.mk (wsay_zero (lo := w.heap.size) (n := 0) (L := []) 5 0 1 0 1 0 KW2.out hB2 (World.ownsRow_nil _ _ _ _) KX2.out.size (by omega))
  clear hB2
  go_wp2_with (first
    | (go_at_call 58
       go_loud (refine SY.out.mono ?_; rintro e w3 ⟨rfl, lv3, hw3, hl3, f3⟩)
       have K3 : Keep (Bk w3 wb (wldC h0 h1 nb 0 0 lv3 dv) 73 ∧ w3.ownsRow w.heap.size 27 7 lv3 1 (toldC 0 5 1 0) ∧ Fz w2 w3 [wb]) := ⟨hw3, by simpa using hl3, f3.mono (by simp [Value.ownBlock])⟩
       clear hw3 hl3 f3 SY)
    | fail)
  go_end0
  refine ⟨rfl, ⟨lv3, lv2, ports, outv2, sk, c, go, s, x, K3.out.1, K3.out.2.1, HC2.out.fz1 K3.out.2.2 KW2.out (by decide) (by decide) (by decide) (by decide) (by decide) (by decide) (by decide), GO.out.fz K3.out.2.2 (by simp; exact fun e => GO.out.ne_ty KW2.out (by decide) e), RG.out.1, RG.out.2⟩, (KX2.out.trans K3.out.2.2).mono (by intro y _ hy; simp at hy ⊢; omega)⟩
  -- end reg
end
end Go.Proofs.YtjpokeakemlffaaGreatDoor
/-
  A world sends what its hosts want to be sent.
-/
namespace Go.Proofs.YtjpokeakemlffaaGreatDoor
open Go.RowKit Go.Maps
section
variable {w : World} {wb h0 t0 m0 h1 t1 m1 nb lo lo1 : Nat} {a b k1 : Int} {lv dv : Value}
set_option maxRecDepth 100000 in
set_option maxHeartbeats 6400000 in
theorem wflush_one {lvh ports outv : Value} {sk c go : Nat} {p1 s x : Int} {M : Int → Option En} (hw : Bk w wb (wldC h0 h1 nb 0 0 lv dv) 73) (hn : Bk w nb #[.slice none 0 0] 95) (hG : Gw w)
    (hc : Hc lo w h0 t0 m0 1 a ports lvh 1 0 outv M 1 [(sk, c)] [synR p1 80 s go]) (hgo : Bk w go (capO x) 173) (hi : HIdle lo1 w h1 t1 m1 b k1) (hne : h0 ≠ h1) (hgn : 0 ≠ h0) (c1 : 0 ≤ p1) (c2 : p1 ≤ 65535) (x0 : 0 ≤ x) (x1 : x < 18446744073709551616) :
    Calls Tryz.prog 42 #[.pointer (some ⟨wb, 0, none⟩)] w fun e w' => e = .returned (.tuple #[]) ∧ Bk w' wb (wldC h0 h1 nb 0 0 lv dv) 73 ∧ (∃ A c, Bk w' nb #[.slice A 1 c] 95) ∧ Fz w w' [h0, nb, h1] := by
  obtain ⟨drawn, pv, ps, hB, _⟩ := hc.hst.ex
  obtain ⟨ports1, hB1⟩ := hi.blk
  have hrow : w.ownsRow lo 132 13 outv 1 ([go].flatMap (segS p1 80 s)) := by simpa [synR] using hc.row
  obtain ⟨A0, cc0, rfl, _⟩ := own_slice hrow
  obtain ⟨g, off, rfl, hg, hcs⟩ := Rd.of_own (enc := segS p1 80 s) (l := [go]) (segS_length _ _ _) (by decide) hrow (by simp)
  have hgh : g ≠ h0 := (own_ty hrow (g := g) rfl).2.elim (fun cur hk => hk.ne_ty hB (by decide))
  have HS : Hid (∀ j u, (segS p1 80 s go)[j]? = some u → w.cell? ⟨g, off + j, none⟩ = some u) := fun j u hu => by have := hcs 0 go rfl j u hu; simpa using this
  have cw0 : w.cell? ⟨wb, 0, none⟩ = some (.pointer (some ⟨h0, 0, none⟩)) := hw.c 0
  have cw1 : w.cell? ⟨wb, 1, none⟩ = some (.pointer (some ⟨h1, 0, none⟩)) := hw.c 1
  obtain ⟨IX0, IX1⟩ := two_hosts h0 h1
  have NE : Keep (wb ≠ h0 ∧ wb ≠ h1 ∧ wb ≠ nb ∧ nb ≠ h0 ∧ nb ≠ h1 ∧ h0 ≠ h1 ∧ go ≠ h0 ∧ g ≠ h0 ∧ 0 ≠ h0 ∧ g < w.heap.size) := ⟨hw.ne_ty hB (by decide), hw.ne_ty hB1 (by decide), hw.ne_ty hn (by decide), hn.ne_ty hB (by decide), hn.ne_ty hB1 (by decide), hne, hgo.ne_ty hB (by decide), hgh, hgn, hg⟩
  have KW := Keep.mk hw
  have KN := Keep.mk hn
  have KG := Keep.mk hG
  have KB := Keep.mk hB
  have KB1 := Keep.mk hB1
  have KGO := Keep.mk hgo
  have BD : Keep (0 ≤ p1 ∧ p1 ≤ 65535 ∧ 0 ≤ x ∧ x < 18446744073709551616) := ⟨c1, c2, x0, x1⟩
  clear hw hn hG hc hgo hi hne hgn c1 c2 x0 x1 hB hB1 hrow hg hcs hgh
  go_enter Tryz.func42, Tryz.ntmps42
  go_wp2_with fail
  go_loopw [8] (fun i wr => (i = .int .i64 0 ∧ wr = w) ∨ (i = .int .i64 1 ∧ Keep ((∃ A c, Bk wr nb #[.slice A 1 c] 95) ∧ Fz w wr [h0, nb])) ∨ (i = .int .i64 2 ∧ Keep ((∃ A c, Bk wr nb #[.slice A 1 c] 95) ∧ Fz w wr [h0, nb, h1]))) (fun i _ => 2 - (intOf i).toNat)
  case atStart => exact .inl ⟨rfl, rfl⟩
  case round =>
    rcases hrel with ⟨rfl, rfl⟩ | ⟨rfl, HQ⟩ | ⟨rfl, HQ⟩
    · have KW0 := Keep.mk (KW.out.fz (Fz.drew wr 1) (by simp))
      have OU := Keep.mk (hout_two (KB.out.fz (Fz.drew wr 1) (by simp)))
      clear cw0 cw1
      go_wp2_with fail
      go_region_held3 (fun X => X.cell? ⟨wb, 2, none⟩ = some (.pointer (some ⟨nb, 0, none⟩)))
        (first | exact KW0.out.c 2 | exact KW1.out.c 2 | exact KW2.out.c 2)
        (first
          | (go_at_call 70
             go_loud (refine OU.out.mono ?_; rintro e w1 ⟨rfl, _, f1⟩)
             have F1 : Fz wr w1 [h0] := ((Fz.drew wr 1).trans f1).mono (by simp)
             have KF1 := Keep.mk F1
             have KW1 := Keep.mk (KW.out.fz F1 (by simp; exact NE.out.1))
             have SN := Keep.mk (nsend_one nb (IntKind.i64.wrap (1 - 0)) p1 80 s go g off cc0 x w1 (by decide) (by decide) (KN.out.fz F1 (by simp; exact NE.out.2.2.2.1)) (KG.out.fz F1 (by simp; exact NE.out.2.2.2.2.2.2.2.2.1)) (KGO.out.fz F1 (by simp; exact NE.out.2.2.2.2.2.2.1)) BD.out.1 BD.out.2.1 (by omega) (by omega) BD.out.2.2.1 BD.out.2.2.2 (fun j u hu => (World.cell?_of_block (F1.block g NE.out.2.2.2.2.2.2.2.2.2 (by simp; exact NE.out.2.2.2.2.2.2.2.1))).trans (HS j u hu)))
             clear f1 F1)
          | (go_at_call 69
             go_loud (refine SN.out.mono ?_; rintro e w2 ⟨rfl, hn2, f2⟩)
             have KW2 := Keep.mk (KW1.out.fz f2 (by simp; exact NE.out.2.2.1))
             have K2 : Keep ((∃ A c, Bk w2 nb #[.slice A 1 c] 95) ∧ Fz wr w2 [h0, nb]) := ⟨hn2, (KF1.out.trans f2).mono (by simp)⟩
             clear hn2 f2)
          | fail)
      go_wp2_with fail
      go_roundw
      case rel => exact .inr (.inl ⟨rfl, K2⟩)
      case measure => simp [intOf]
    · obtain ⟨⟨An, cn, hnn⟩, fz⟩ := HQ.out
      have KWr := Keep.mk (KW.out.fz fz (by simp; exact ⟨NE.out.1, NE.out.2.2.1⟩))
      have KW0 := Keep.mk (KWr.out.fz (Fz.drew wr 1) (by simp))
      have KNN := Keep.mk hnn
      have OU := Keep.mk (hout_two ((KB1.out.fz fz (by simp; exact ⟨fun e => NE.out.2.2.2.2.2.1 e.symm, fun e => NE.out.2.2.2.2.1 e.symm⟩)).fz (Fz.drew wr 1) (by simp)))
      have KFZ := Keep.mk fz
      clear cw0 cw1 hnn fz
      go_wp2_with fail
      go_region_held3 (fun X => X.cell? ⟨wb, 2, none⟩ = some (.pointer (some ⟨nb, 0, none⟩)))
        (first | exact KW0.out.c 2 | exact KW1.out.c 2)
        (first
          | (go_at_call 70
             go_loud (refine OU.out.mono ?_; rintro e w1 ⟨rfl, _, f1⟩)
             have F1 : Fz wr w1 [h1] := ((Fz.drew wr 1).trans f1).mono (by simp)
             have KW1 := Keep.mk (KWr.out.fz F1 (by simp; exact NE.out.2.1))
             have K1 : Keep ((∃ A c, Bk w1 nb #[.slice A 1 c] 95) ∧ Fz w w1 [h0, nb, h1]) := ⟨⟨_, _, KNN.out.fz F1 (by simp; exact NE.out.2.2.2.2.1)⟩, (KFZ.out.trans F1).mono (by simp)⟩
             clear f1 F1)
          | (go_at_call 69
             go_loud (refine (nsend_none nb _ _ (by decide) (by decide)).mono ?_; rintro e X ⟨rfl, hX⟩)
             rw [hX]
             clear hX)
          | fail)
      go_wp2_with fail
      go_roundw
      case rel => exact .inr (.inr ⟨rfl, K1⟩)
      case measure => simp [intOf]
    · go_wp2_with fail
      go_end0
      exact ⟨rfl, KW.out.fz HQ.out.2 (by simp; exact ⟨NE.out.1, NE.out.2.2.1, NE.out.2.1⟩), HQ.out.1, HQ.out.2⟩
end
end Go.Proofs.YtjpokeakemlffaaGreatDoor
/-
  The example of the laws of worlds.
-/
namespace Go.Proofs.YtjpokeakemlffaaGreatDoor
open Go.RowKit Go.Maps
section
variable {w0 w w' : World} {wb h0 t0 m0 h1 t1 m1 nb dm lo1 ge : Nat} {a b : Int}
theorem Wnew.past (h : Wnew w0 w wb h0 t0 m0 h1 t1 m1 nb dm lo1 a b) (hB : Below w.heap.size w w') : Wnew w0 w' wb h0 t0 m0 h1 t1 m1 nb dm lo1 a b := by
  have F := Fz.below hB (Nat.le_refl _)
  exact ⟨h.wld.fz F (by simp), h.net.fz F (by simp), h.i0.fz F (by simp) (by simp) (by simp), h.i1.fz F (by simp) (by simp) (by simp), h.dms.same (F.block _ h.dms.lt (by simp)), h.lt0, h.lt1, h.below.trans (hB.mono h.below.size)⟩
structure Wone (w0 w' : World) (wb h0 h1 nb dm : Nat) : Prop where
  wld : ∃ lv, Bk w' wb (wldC h0 h1 nb 0 0 lv (.map (some dm))) 73 ∧ w'.ownsRow w0.heap.size 27 7 lv 1 (toldC 0 5 1 0)
  net : ∃ A c, Bk w' nb #[.slice A 1 c] 95
  below : Below w0.heap.size w0 w'
theorem deeds_five : deeds 5 = some 31 := by decide
set_option maxRecDepth 100000 in
set_option maxHeartbeats 6400000 in
theorem wdo_one (hN : Wnew w0 w wb h0 t0 m0 h1 t1 m1 nb dm lo1 a b) (hG : Gw w0) (he : Bk w ge (entC 5 0 0 1 0) 45) :
    Calls Tryz.prog 11 #[.pointer (some ⟨wb, 0, none⟩), .slice (some ⟨ge, 0, none⟩) 1 1] w fun e w' => e = .returned (.int .i64 1) ∧ Wone w0 w' wb h0 h1 nb dm := by
  have hg0 : 0 < w0.heap.size := hG.1
  have X1 := Fz.alloc w (.cells (entC 5 0 0 1 0) 45)
  have N1 := Keep.mk (hN.past ((Below.refl _ w).alloc (Nat.le_refl _) (.cells (entC 5 0 0 1 0) 45)))
  have G1 : Keep (Gw w) := ⟨hG.past hN.below hg0⟩
  have c6 : w.cell? ⟨wb, 6, none⟩ = some (.map (some dm)) := hN.wld.c 6
  have LK : ∀ q, (Instr.lookup 71 (.map (some dm)) (.int .i64 5) true).run Tryz.prog ((w.alloc (.cells (entC 5 0 0 1 0) 45)).drewN q) = .ok (.tuple #[fnV wb 31, .bool true]) ((w.alloc (.cells (entC 5 0 0 1 0) 45)).drewN q) := fun q => by
    have h := ((N1.out.dms).same (w' := (w.alloc (.cells (entC 5 0 0 1 0) 45)).drewN q) rfl).look (x := 5) (wfI_of (by omega) (by omega))
    rw [deeds_five] at h
    exact h
  have NW := Keep.mk hN
  have e0 := he.c 0
  have e1 := he.c 1
  have e2 := he.c 2
  have e3 := he.c 3
  have e4 := he.c 4
  simp at e0 e1 e2 e3 e4
  have NE := Keep.mk (Bk.new w (entC 5 0 0 1 0) 45)
  have x0 : (w.alloc (.cells (entC 5 0 0 1 0) 45)).cell? ⟨w.heap.size, 0, none⟩ = some (.int .i64 5) := NE.out.c 0
  have KX1 := Keep.mk X1
  have HG0 := Keep.mk hg0
  clear hN hG he X1 hg0
  go_enter Tryz.func11, Tryz.ntmps11
  go_wp2_with fail
  go_loopw [5, 15] (fun n i wr => (n = .int .i64 0 ∧ i = .int .i64 0 ∧ wr = w) ∨ (n = .int .i64 1 ∧ i = .int .i64 1 ∧ Keep (Wone w0 wr wb h0 h1 nb dm))) (fun _ i _ => 1 - (intOf i).toNat)
  case atStart => exact .inl ⟨rfl, rfl, rfl⟩
  case round =>
    rcases hrel with ⟨rfl, rfl, rfl⟩ | ⟨rfl, rfl, HQ⟩
    · go_wp2_with fail
      have N1d := Keep.mk (N1.out.past ((Below.refl _ _).drew))
      have NEd := Keep.mk (NE.out.fz (Fz.drew _ 1) (by simp))
      have G1d : Keep (Gw (wr.alloc (.cells (entC 5 0 0 1 0) 45)).drew) := ⟨G1.out.fz (KX1.out.trans (Fz.drew _ 1)) (by simp)⟩
      have CN := Keep.mk (wconnect_one N1d.out.wld N1d.out.i0 N1d.out.below.size)
      have LK1 : (Instr.lookup 71 (.map (some dm)) (.int .i64 5) true).run Tryz.prog (wr.alloc (.cells (entC 5 0 0 1 0) 45)).drew = .ok (.tuple #[fnV wb 31, .bool true]) (wr.alloc (.cells (entC 5 0 0 1 0) 45)).drew := LK 1
      -- reg do
      refine wp_region_noPanic ?_
      refine wp_region_held_drew (S := fun X => X.cell? ⟨wb, 6, none⟩ = some (.map (some dm)) ∧ X.cell? ⟨wr.heap.size, 0, none⟩ = some (.int .i64 5)) (by kernel_rfl) ⟨N1d.out.wld.c 6, NEd.out.c 0⟩ (fun hHeld => ?_)
      refine wpAnyH_pures' (fun d => ([1000, 1000, 1000, 1000, 1000, 1000, 1000, 1000, 10, 11, 1000, 1000, 1000, 1000, 1000, 1000, 1000, 1000, 1000, 7, 0, 1, 2, 3, 4, 5, 6, 8, 9] : List Nat).getD d 1000) [0, 1, 2, 3, 4, 5] 6 (by kernel_rfl) (by kernel_rfl) (by kernel_rfl) (fun _ _ _ _ _ h => h) (by assumption) (fun K hK => ?_)
      iterate 6 (refine Ys_cons (v := ?_) rfl (Or.inl ⟨by rfl, ?_⟩) ?_; rotate_left; (focus (intro w hSw; go_simp; (try with_reducible rfl))); try simp only [Act.put, List.setIfInBounds_toArray, List.set_cons_zero, List.set_cons_succ, List.getElem_toArray, List.getElem_cons_zero, List.getElem_cons_succ])
      refine hK _ ?_
      clear hK K
      change wpAnyH _ _ _ _ _ _ #[true, true, true, true, true, true, false, false, false, false, false, false] _ _
      refine wpAnyH_ready (rs := [6]) (by kernel_rfl) (by simp) ?_
      refine AllReadyH.cons rfl (fun K hK => ?_) AllReadyH.nil
      go_simp
      refine hK.out _ _ ?_ (fun hHeld => ?_)
      · exact ⟨N1d.out.wld.c 6, NEd.out.c 0⟩
      clear hK K
      try simp only [Act.put, List.setIfInBounds_toArray, List.set_cons_zero, List.set_cons_succ, List.getElem_toArray, List.getElem_cons_zero, List.getElem_cons_succ]
      refine wpAnyH_pures' (fun d => ([1000, 1000, 1000, 1000, 1000, 1000, 1000, 1000, 10, 11, 1000, 1000, 1000, 1000, 1000, 1000, 1000, 1000, 1000, 7, 0, 1, 2, 3, 4, 5, 6, 8, 9] : List Nat).getD d 1000) [7, 8, 9, 10, 11] 0 (by kernel_rfl) (by kernel_rfl) (by kernel_rfl) (fun _ _ _ _ _ h => h) (by assumption) (fun K hK => ?_)
      iterate 5 (refine Ys_cons (v := ?_) rfl (Or.inl ⟨by rfl, ?_⟩) ?_; rotate_left; (focus (intro w hSw; go_simp; (try with_reducible rfl))); try simp only [Act.put, List.setIfInBounds_toArray, List.set_cons_zero, List.set_cons_succ, List.getElem_toArray, List.getElem_cons_zero, List.getElem_cons_succ])
      refine hK _ ?_
      clear hK K
      change wpAnyH _ _ _ _ _ _ #[true, true, true, true, true, true, true, true, true, true, true, true] _ _
      refine wpAnyH_done (by kernel_rfl) ?_ _
      refine NoPanic.normal ?_
      have KE := NEd.out
      have y0 := KE.c 0
      have y1 := KE.c 1
      have y2 := KE.c 2
      have y3 := KE.c 3
      have y4 := KE.c 4
      simp at y0 y1 y2 y3 y4
      go_wp2_with fail
      refine CN.out.mono ?_
      rintro e w2 ⟨rfl, wd⟩
      obtain ⟨lv2, lvh, ports, outv, sk, c, go, s, x, hw2, hl2, hc2, hgo2, hx0, hx1⟩ := wd.ex
      have FD := wd.fz
      have n1 := N1d.out
      have lt0 := n1.lt0
      have lt1 := n1.lt1
      obtain ⟨_, hB1⟩ := n1.i1.blk
      have hlow : h0 ≠ h1 := by have := n1.i1.lo; omega
      have FL := Keep.mk (wflush_one hw2 (n1.net.fz FD (by simp; omega)) ((G1d.out).fz FD (by simp; have := HG0.out; have := n1.i0.lo; have := n1.i0.tab.lowm; omega)) hc2 hgo2 (n1.i1.fz FD (by simp; have := n1.i1.lo; omega) (by simp; have := n1.i1.tab.lowb; omega) (by simp; have := n1.i1.tab.lowm; omega)) hlow (by have := HG0.out; have := n1.i0.lo; omega) (by decide) (by decide) hx0 hx1)
      have KW2 : Keep (w2.ownsRow w0.heap.size 27 7 lv2 1 (toldC 0 5 1 0) ∧ Below w0.heap.size w0 w2) := ⟨own_low hl2 n1.below.size, n1.below.trans (FD.toBelow n1.below.size (by simp; have := n1.i0.lo; have := n1.i0.tab.lowm; omega))⟩
      have KO : Keep (∀ kb, lv2.ownBlock = some kb → kb < w2.heap.size ∧ kb ∉ [h0, nb, h1]) := ⟨fun kb e => by
        obtain ⟨_, _, hk⟩ := own_ty hl2 e
        obtain ⟨_, _, _, hBh, _⟩ := hc2.hst.ex
        refine ⟨hk.lt, ?_⟩
        simp
        exact ⟨hk.ne_ty hBh (by decide), hk.ne_ty (n1.net.fz FD (by simp; omega)) (by decide), hk.ne_ty (hB1.fz FD (by simp; have := n1.i1.lo; omega)) (by decide)⟩⟩
      have LW : Keep (w0.heap.size ≤ h0 ∧ w0.heap.size ≤ nb ∧ w0.heap.size ≤ h1) := ⟨n1.i0.lo, by omega, by have := n1.i1.lo; omega⟩
      clear wd hw2 hl2 hc2 hgo2 hx0 hx1 FD n1 lt0 lt1 hB1 hlow CN
      go_wp2_with (first
        | (go_at_call 42
           go_loud (refine FL.out.mono ?_; rintro e w3 ⟨rfl, hw3, hn3, f3⟩)
           have K3 : Keep (Wone w0 w3 wb h0 h1 nb dm) := ⟨⟨lv2, hw3, own_blockW KW2.out.1 (fun kb e => f3.block kb (KO.out kb e).1 (KO.out kb e).2)⟩, hn3, KW2.out.2.trans (f3.toBelow KW2.out.2.size (by simp; exact LW.out))⟩
           clear hw3 hn3 f3 FL)
        | fail)
      go_roundw
      case rel => exact .inr ⟨rfl, rfl, K3⟩
      case measure => simp [intOf]
      -- end reg
    · go_wp2_with fail
      go_ret
      exact ⟨rfl, HQ.out⟩
end
end Go.Proofs.YtjpokeakemlffaaGreatDoor
