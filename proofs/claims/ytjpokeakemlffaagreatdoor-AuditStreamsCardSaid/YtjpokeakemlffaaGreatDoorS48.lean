/-
  Walks and laws, one behind the other (part 48).
-/
import Derived.Test.YtjpokeakemlffaaGreatDoorS30
import Derived.Test.YtjpokeakemlffaaGreatDoorS39
import Derived.Test.YtjpokeakemlffaaGreatDoorS43
import Derived.Test.YtjpokeakemlffaaGreatDoorS46
import Derived.Test.YtjpokeakemlffaaGreatDoorS47
set_option linter.unusedSimpArgs false
set_option linter.unusedVariables false
/-
  The example of the laws of logs: one that dials has its stream; tokens that fall are not sound.
-/
namespace Go.Proofs.YtjpokeakemlffaaGreatDoor
open Go.RowKit Go.Maps
abbrev fallA : Array Value := #[.int .u32 2, .int .i64 1, .bool true, .int .i64 0, .int .u32 1, .int .i64 2, .bool true, .int .i64 0]
theorem fall_no : (sndN [⟨2, 1, true, 0⟩, ⟨1, 2, true, 0⟩] 2 && decide (((2 : Nat) : Int) ≤ 4)) = false := by decide
theorem sound_fall (w : World) : Calls Tryz.prog 13 #[.slice (some ⟨w.heap.size, 0, none⟩) 2 2, .int .i64 4] (w.alloc (.cells fallA 50)) fun e w' => e = .returned (.bool false) ∧ Below w.heap.size w w' := by
  have NB := Bk.new w fallA 50
  have ha : Arg (w.alloc (.cells fallA 50)) 4 tkC (some ⟨w.heap.size, 0, none⟩) 2 2 [⟨2, 1, true, 0⟩, ⟨1, 2, true, 0⟩] := Arg.ofRow tkC_length NB.eq 2 rfl (by decide)
  refine (sound_any _ 4 ha (by omega)).mono ?_
  rintro e w' ⟨rfl, hb⟩
  exact ⟨by rw [fall_no], ((Below.refl _ w).alloc (Nat.le_refl _) (.cells fallA 50)).trans (hb.mono (by simp))⟩
set_option maxRecDepth 100000 in
set_option maxHeartbeats 3200000 in
theorem awakes_any (w : World) (hG : Gw w) : Calls Tryz.prog 4 #[] w fun e w' => e = .returned (.bool true) ∧ Below w.heap.size w w' := by
  have NW := Keep.mk (wnew_any 1 2 w)
  have KG := Keep.mk hG
  clear hG
  go_enter Tryz.func4, Tryz.ntmps4
  go_wp2_with (first
    | (go_at_call 10
       go_loud (refine NW.out.mono ?_; rintro e w1 ⟨wb, h0, t0, m0, h1, t1, m1, nb, dm, lo1, rfl, n1⟩)
       have DO := Keep.mk (wdo_one (n1.past ((Below.refl _ w1).alloc (Nat.le_refl _) (.cells (entC 5 0 0 1 0) 45))) KG.out (Bk.new w1 (entC 5 0 0 1 0) 45))
       clear n1 NW)
    | (go_at_call 11
       go_loud (refine DO.out.mono ?_; rintro e w4 ⟨rfl, o4⟩)
       obtain ⟨lv4, hw4, hl4⟩ := o4.wld
       have LG := Keep.mk (wlog_one hw4 hl4)
       have B4 := Keep.mk o4.below
       clear o4 hw4 hl4 DO)
    | (go_at_call 12
       go_loud (refine LG.out.mono ?_; rintro e w5 ⟨g5, c5, rfl, hg5, ⟨arr5, hb5, ha5⟩, b5⟩)
       have ST := Keep.mk (streams_one (c := c5) hb5 ha5)
       have B5 := Keep.mk (B4.out.trans (b5.mono B4.out.size))
       clear hg5 hb5 ha5 b5 LG)
    | (go_at_call 5
       go_loud (refine ST.out.mono ?_; rintro e w6 ⟨g6, c6, rfl, d0, d1, b6⟩)
       have SF := Keep.mk (sound_fall w6)
       have B6 := Keep.mk (B5.out.trans (b6.mono B5.out.size))
       clear b6 ST)
    | (go_at_call 13
       go_loud (refine SF.out.mono ?_; rintro e w7 ⟨rfl, b7⟩)
       have B7 := Keep.mk (B6.out.trans (b7.mono B6.out.size))
       clear b7 SF)
    | fail)
  go_ret
  exact ⟨by first | rfl | simp, B7.out⟩
end Go.Proofs.YtjpokeakemlffaaGreatDoor
/-
  The law of streams.
-/
namespace Go.Proofs.YtjpokeakemlffaaGreatDoor
open Go.RowKit Go.Maps
set_option maxRecDepth 100000 in
set_option maxHeartbeats 3200000 in
theorem lsame_any {w : World} {s h e : Int} {sh cl ov : Bool} {A1 A2 B1 B2 : Option Addr} {c1 c2 d1 d2 : Nat} (p q : List Int) (g1 : Rd w w.heap.size 1 encB A1 p) (g2 : Rd w w.heap.size 1 encB A2 q) (g3 : Rd w w.heap.size 1 encB B1 p) (g4 : Rd w w.heap.size 1 encB B2 q) (hp : p.length ≤ 1000000) (hq : q.length ≤ 1000000) :
    Calls Tryz.prog 8 #[.agg #[.int .i64 s, .int .i64 h, .slice A1 p.length c1, .slice A2 q.length c2, .bool sh, .bool cl, .bool ov, .int .i64 e], .agg #[.slice B1 p.length d1, .slice B2 q.length d2, .bool sh, .bool cl, .bool ov, .int .i64 e]] w fun r w' => r = .returned (.bool true) ∧ Below w.heap.size w w' := by
  obtain ⟨W, hW⟩ : ∃ W, (w.alloc (.cells #[.int .i64 s, .int .i64 h, .slice A1 p.length c1, .slice A2 q.length c2, .bool sh, .bool cl, .bool ov, .int .i64 e] 31)).alloc (.cells #[.slice B1 p.length d1, .slice B2 q.length d2, .bool sh, .bool cl, .bool ov, .int .i64 e] 37) = W := ⟨_, rfl⟩
  have HB : Below w.heap.size w W := hW ▸ ((Below.refl _ w).alloc (Nat.le_refl _) _).alloc (by simp) _
  have S1 := Keep.mk (fun k => refSame_any A1 B1 p p c1 d1 (W.drewN k) (((g1.below HB).more HB.size).drewN k) (((g3.below HB).more HB.size).drewN k) (by omega) (by omega))
  have S2 := Keep.mk (fun k => refSame_any A2 B2 q q c2 d2 (W.drewN k) (((g2.below HB).more HB.size).drewN k) (((g4.below HB).more HB.size).drewN k) (by omega) (by omega))
  have dp : decide (p = p) = true := decide_eq_true rfl
  have dq : decide (q = q) = true := decide_eq_true rfl
  have S1' : Keep (Calls Tryz.prog 21 #[.slice A1 p.length c1, .slice B1 p.length d1] W fun r w' => r = .returned (.bool true) ∧ ∃ n, w' = W.drewN n) := ⟨dp ▸ S1.out 0⟩
  have S2' : Keep (∀ k, Calls Tryz.prog 21 #[.slice A2 q.length c2, .slice B2 q.length d2] (W.drewN k) fun r w' => r = .returned (.bool true) ∧ ∃ n, w' = (W.drewN k).drewN n) := ⟨fun k => dq ▸ S2.out k⟩
  have b0 := Bk.new w #[.int .i64 s, .int .i64 h, .slice A1 p.length c1, .slice A2 q.length c2, .bool sh, .bool cl, .bool ov, .int .i64 e] 31
  have b1 := Bk.new (w.alloc (.cells #[.int .i64 s, .int .i64 h, .slice A1 p.length c1, .slice A2 q.length c2, .bool sh, .bool cl, .bool ov, .int .i64 e] 31)) #[.slice B1 p.length d1, .slice B2 q.length d2, .bool sh, .bool cl, .bool ov, .int .i64 e] 37
  rw [show (w.alloc (.cells #[.int .i64 s, .int .i64 h, .slice A1 p.length c1, .slice A2 q.length c2, .bool sh, .bool cl, .bool ov, .int .i64 e] 31)).heap.size = w.heap.size + 1 by simp, hW] at b1
  have b0' : Bk W w.heap.size #[.int .i64 s, .int .i64 h, .slice A1 p.length c1, .slice A2 q.length c2, .bool sh, .bool cl, .bool ov, .int .i64 e] 31 := hW ▸ b0.fz (Fz.alloc _ _) (by simp)
  have K0 := Keep.mk (And.intro b0' b1)
  have KB := Keep.mk HB
  have a2 : W.cell? ⟨w.heap.size, 2, none⟩ = some (.slice A1 p.length c1) := b0'.c 2
  have a0' : W.cell? ⟨w.heap.size + 1, 0, none⟩ = some (.slice B1 p.length d1) := b1.c 0
  clear g1 g2 g3 g4 HB S1 S2 dp dq b0 b1 b0' hp hq
  go_enter Tryz.func8, Tryz.ntmps8
  go_wp2_with (first
    | (go_at_call 21
       first
         | (refine S1'.out.mono ?_
            rintro r X ⟨rfl, k, hX⟩
            have e3 : X.cell? ⟨w.heap.size, 3, none⟩ = some (.slice A2 q.length c2) := by rw [hX]; exact K0.out.1.c 3
            have e1 : X.cell? ⟨w.heap.size + 1, 1, none⟩ = some (.slice B2 q.length d2) := by rw [hX]; exact K0.out.2.c 1
            have S3 : Keep (Calls Tryz.prog 21 #[.slice A2 q.length c2, .slice B2 q.length d2] X fun r w' => r = .returned (.bool true) ∧ ∃ n, w' = W.drewN n) := ⟨by rw [hX]; exact (S2'.out k).mono fun r w' ⟨h1, n, h2⟩ => ⟨h1, k + n, by rw [h2]; simp [World.drewN, Nat.add_assoc]⟩⟩
            clear hX S1')
         | (refine S3.out.mono ?_
            rintro r Y ⟨rfl, k2, hY⟩
            have e4 : Y.cell? ⟨w.heap.size, 4, none⟩ = some (.bool sh) := by rw [hY]; exact K0.out.1.c 4
            have e5 : Y.cell? ⟨w.heap.size, 5, none⟩ = some (.bool cl) := by rw [hY]; exact K0.out.1.c 5
            have e6 : Y.cell? ⟨w.heap.size, 6, none⟩ = some (.bool ov) := by rw [hY]; exact K0.out.1.c 6
            have e7 : Y.cell? ⟨w.heap.size, 7, none⟩ = some (.int .i64 e) := by rw [hY]; exact K0.out.1.c 7
            have f2 : Y.cell? ⟨w.heap.size + 1, 2, none⟩ = some (.bool sh) := by rw [hY]; exact K0.out.2.c 2
            have f3 : Y.cell? ⟨w.heap.size + 1, 3, none⟩ = some (.bool cl) := by rw [hY]; exact K0.out.2.c 3
            have f4 : Y.cell? ⟨w.heap.size + 1, 4, none⟩ = some (.bool ov) := by rw [hY]; exact K0.out.2.c 4
            have f5 : Y.cell? ⟨w.heap.size + 1, 5, none⟩ = some (.int .i64 e) := by rw [hY]; exact K0.out.2.c 5
            have BY : Keep (Below w.heap.size w Y) := ⟨by rw [hY]; exact below_drewN KB.out _⟩
            clear hY S3))
    | fail)
  go_ret
  exact ⟨by first | rfl | simp, BY.out⟩
end Go.Proofs.YtjpokeakemlffaaGreatDoor
/-
  The law of streams, walked.
-/
namespace Go.Proofs.YtjpokeakemlffaaGreatDoor
open Go.RowKit Go.Maps
theorem items_rd {w w0 : World} {L : List HA} {items : List It} {z : It} (H : Sat w (each itemA items :: initA w0 :: L)) (hz : z ∈ items) :
    (∀ A n c, z.v1 = .slice A n c → ∀ p, z.t.wr = p → Rd w w.heap.size 1 encB A p) ∧ (∀ A n c, z.v2 = .slice A n c → ∀ p, z.t.rd = p → Rd w w.heap.size 1 encB A p) := by
  obtain ⟨l1, l2, rfl⟩ := List.append_of_mem hz
  have H1 := H.pick
  refine ⟨fun A n c hv p hp => ?_, fun A n c hv p hp => ?_⟩
  · have o := (H1.to 1 rfl).own
    rw [hv] at o
    subst hp
    exact Rd.of_own encB_length (by decide) (by have := own_slice o; obtain ⟨A', c', e, _⟩ := this; injection e with e1 e2 e3; subst e1 e2 e3; exact o)
  · have o := (H1.to 2 rfl).own
    rw [hv] at o
    subst hp
    exact Rd.of_own encB_length (by decide) (by have := own_slice o; obtain ⟨A', c', e, _⟩ := this; injection e with e1 e2 e3; subst e1 e2 e3; exact o)
set_option maxRecDepth 100000 in
set_option maxHeartbeats 12800000 in
theorem auditStreams_walk {A : Option Addr} {n c : Nat} {l : List Td} (w : World) (ha : Arg w 7 tdK A n c l) (hd : ∀ x ∈ l, Arg w 1 encB x.A x.m x.c x.d) (hwf : ∀ x ∈ l, wfI x.s ∧ wfI x.h) (hG : Gw w) :
    Calls Tryz.prog 3 #[.slice A n c] w fun e w' => e = .returned (.bool true) ∧ Below w.heap.size w w' := by
  have WK := Keep.mk (awakes_any w hG)
  have HA := Keep.mk ha
  have HD := Keep.mk (And.intro hd hwf)
  have HL := Keep.mk ha.hlen
  clear ha hd hwf hG
  go_enter Tryz.func3, Tryz.ntmps3
  by_cases hn : n ≤ 60
  case neg =>
    go_wp2_with (first
      | (go_at_call 4
         refine WK.out.mono ?_
         rintro e w1 ⟨rfl, b1⟩
         have B1 := Keep.mk b1
         clear b1 WK)
      | fail)
    go_ret
    exact ⟨rfl, B1.out⟩
  case pos =>
  have HN := Keep.mk hn
  go_wp2_with (first
    | (go_at_call 4
       refine WK.out.mono ?_
       rintro e w1 ⟨rfl, b1⟩
       have K1 := Keep.mk ((Sat.init w).below b1 (Nat.le_refl _))
       clear b1 WK)
    | fail)
  go_loopw [22] (fun i wr => ∃ j : Nat, i = .int .i64 j ∧ j ≤ n ∧ Keep (Sat wr [initA w]) ∧ Keep (∀ x ∈ l.take j, x.m ≤ 100)) (fun i _ => n - (intOf i).toNat)
  case atStart => exact ⟨0, rfl, Nat.zero_le _, K1, ⟨by simp⟩⟩
  case round =>
    obtain ⟨j, rfl, hj, HQ, HM⟩ := hrel
    clear K1
    rcases Nat.lt_or_ge j n with hlt | hge
    · obtain ⟨x, hx⟩ : ∃ x, l[j]? = some x := ⟨l[j]'(by have := HL.out; omega), List.getElem?_eq_getElem _⟩
      obtain ⟨g, off, rfl, hg, hcs⟩ := HA.out.rd (by intro e; rw [e] at hx; simp at hx)
      have HB := HQ.out.initB
      have cc : ∀ (k : Nat) (u : Value), (tdK x)[k]? = some u → wr.cell? ⟨g, off + j * 7 + k, none⟩ = some u := fun k u hu => (HB.cell (p := ⟨g, off + j * 7 + k, none⟩) hg).trans (hcs j x hx k u hu)
      have c0 : wr.cell? ⟨g, off + j * 7, none⟩ = some (.int .i64 x.s) := cc 0 _ rfl
      have c1 : wr.cell? ⟨g, off + j * 7 + 1, none⟩ = some (.int .i64 x.tk) := cc 1 _ rfl
      have c2 : wr.cell? ⟨g, off + j * 7 + 2, none⟩ = some (.int .i64 x.k) := cc 2 _ rfl
      have c3 : wr.cell? ⟨g, off + j * 7 + 3, none⟩ = some (.int .i64 x.h) := cc 3 _ rfl
      have c4 : wr.cell? ⟨g, off + j * 7 + 4, none⟩ = some (.int .i64 x.n) := cc 4 _ rfl
      have c5 : wr.cell? ⟨g, off + j * 7 + 5, none⟩ = some (.slice x.A x.m x.c) := cc 5 _ rfl
      have c6 : wr.cell? ⟨g, off + j * 7 + 6, none⟩ = some (.int .i64 x.e) := cc 6 _ rfl
      have K3 := Keep.mk ((HQ.out.alloc (tdK x).toArray 27).tl)
      have HX := Keep.mk hx
      clear cc hcs hx hg HB
      by_cases hm : x.m ≤ 100
      · have HMM := Keep.mk hm
        go_wp2_with fail
        go_roundw
        case rel =>
          refine ⟨j + 1, by go_num, hlt, K3, ⟨fun y hy => ?_⟩⟩
          rw [List.take_add_one, HX.out] at hy
          rcases List.mem_append.1 hy with hy | hy
          · exact HM.out y hy
          · obtain rfl : y = x := by simpa using hy
            exact HMM.out
        case measure => simp [intOf] <;> omega
      · go_wp2_with fail
        go_ret
        exact ⟨rfl, K3.out.initB⟩
    · obtain rfl : n = j := by omega
      have HM2 : Keep (∀ x ∈ l, x.m ≤ 100) := ⟨fun x hx => HM.out x (by rw [List.take_of_length_le (by rw [HL.out]; exact Nat.le_refl _)]; exact hx)⟩
      have ST := Keep.mk (streams_any HQ.out HA.out HD.out.1 HD.out.2 HN.out HM2.out)
      clear HM HQ
      have HM := HM2
      clear HM2
      go_wp2_with (first
        | (go_at_call 5
           refine ST.out.mono ?_
           rintro e w1 ⟨items, ts, A2, c2, rfl, h1, hpl, hnd, hperm, hlt, hlen⟩
           have K1 := Keep.mk h1
           have HP := Keep.mk (And.intro hpl (And.intro hnd (And.intro hperm (And.intro hlt hlen))))
           clear h1 hpl hnd hperm hlt hlen ST)
        | fail)
      obtain ⟨f, hf⟩ : ∃ f, fOf items = f := ⟨_, rfl⟩
      have HF := Keep.mk hf
      rw [hf] at K1
      clear hf
      have HTL : Keep (ts.length ≤ 60) := ⟨by rw [HP.out.2.2.1.length_eq, List.length_map]; exact HP.out.2.2.2.2⟩
      go_loopw [35] (fun i wr => ∃ j : Nat, i = .int .i64 j ∧ j ≤ ts.length ∧ Keep (Sat wr [rowA 31 8 (.slice A2 ts.length c2) ts.length (ts.flatMap (encS f)), each itemA items, initA w])) (fun i _ => ts.length - (intOf i).toNat)
      case atStart => exact ⟨0, rfl, Nat.zero_le _, K1⟩
      case round =>
        obtain ⟨j, rfl, hj, HQ⟩ := hrel
        clear K1
        have htl : ts.length ≤ 60 := HTL.out
        rcases Nat.lt_or_ge j ts.length with hlt | hge
        · obtain ⟨⟨s, h⟩, hx⟩ : ∃ x, ts[j]? = some x := ⟨ts[j], List.getElem?_eq_getElem hlt⟩
          have HJL := Keep.mk hlt
          have hxm : (s, h) ∈ items.map It.nm := HP.out.2.2.1.mem_iff.1 (List.mem_of_getElem? hx)
          obtain ⟨z0, hz0, hzn0⟩ := List.mem_map.1 hxm
          obtain ⟨l1, z, l2, hsp, hzn, hl1, hl2⟩ := split_nm HP.out.2.1 ⟨z0, hz0, hzn0⟩
          have hzm : z ∈ items := by rw [hsp]; simp
          have hlk : lkS (s, h) (logN l) = some z.t := by rw [← HP.out.1, hsp]; exact lkS_item hzn hl1
          rw [log_spec (s, h) l.length l rfl] at hlk
          obtain ⟨i, hi, hil⟩ : ∃ i : Nat, begN (s, h) l = i ∧ i < l.length := by
            rcases begN_ge (s, h) l with e | e
            · rw [e, if_pos (by decide)] at hlk; cases hlk
            · exact ⟨(begN (s, h) l).toNat, by omega, by omega⟩
          rw [hi, if_neg (by omega), Int.toNat_natCast] at hlk
          have hzt : z.t = foldS (ownN (s, h) i l) := (Option.some.inj hlk).symm
          have hw0 := fold_wr0 s h i l
          obtain ⟨own, hown⟩ : ∃ own, ownN (s, h) i l = own := ⟨_, rfl⟩
          rw [hown] at hzt hw0
          have hpk : Sat wr (strL z.b z.s z.h z.v1 z.v2 z.t ++ initA w :: each itemA (l1 ++ l2) :: [rowA 31 8 (.slice A2 ts.length c2) ts.length (ts.flatMap (encS f))]) := Sat.pick (by rw [← hsp]; exact ((HQ.out.to 2 rfl).to 2 rfl))
          obtain ⟨A1, k1, hv1, -⟩ := (hpk.to 1 rfl).sl
          obtain ⟨A2', k2, hv2, -⟩ := (hpk.to 2 rfl).sl
          have hfz : f (s, h) = ⟨A1, (allN s 7 h own).length, k1, A2', (allN s 8 h own).length, k2, (foldS own).sh, (foldS own).cl, (foldS own).ov, (foldS own).e⟩ := by
            rw [← HF.out, hsp, ← hzn, fOf_at (fun y hy => by rw [hzn]; exact hl1 y hy)]
            unfold stR
            rw [hv1, hv2, hzt, hw0.1, hw0.2]
            rfl
          obtain ⟨g, off, rfl, _, hcs⟩ := Rd.of_own (encS_length f) (by decide) HQ.out.own (List.ne_nil_of_length_pos (by omega))
          have cc : ∀ (k : Nat) (u : Value), (encS f (s, h))[k]? = some u → wr.cell? ⟨g, off + j * 8 + k, none⟩ = some u := fun k u hu => hcs j (s, h) hx k u hu
          have henc : encS f (s, h) = [.int .i64 s, .int .i64 h, .slice A1 (allN s 7 h own).length k1, .slice A2' (allN s 8 h own).length k2, .bool (foldS own).sh, .bool (foldS own).cl, .bool (foldS own).ov, .int .i64 (foldS own).e] := by unfold encS; rw [hfz]
          rw [henc] at cc
          have c0 : wr.cell? ⟨g, off + j * 8, none⟩ = some (.int .i64 s) := cc 0 _ rfl
          have c1 : wr.cell? ⟨g, off + j * 8 + 1, none⟩ = some (.int .i64 h) := cc 1 _ rfl
          have c2' : wr.cell? ⟨g, off + j * 8 + 2, none⟩ = some (.slice A1 (allN s 7 h own).length k1) := cc 2 _ rfl
          have c3 : wr.cell? ⟨g, off + j * 8 + 3, none⟩ = some (.slice A2' (allN s 8 h own).length k2) := cc 3 _ rfl
          have c4 : wr.cell? ⟨g, off + j * 8 + 4, none⟩ = some (.bool (foldS own).sh) := cc 4 _ rfl
          have c5 : wr.cell? ⟨g, off + j * 8 + 5, none⟩ = some (.bool (foldS own).cl) := cc 5 _ rfl
          have c6 : wr.cell? ⟨g, off + j * 8 + 6, none⟩ = some (.bool (foldS own).ov) := cc 6 _ rfl
          have c7 : wr.cell? ⟨g, off + j * 8 + 7, none⟩ = some (.int .i64 (foldS own).e) := cc 7 _ rfl
          have HI : Keep (i < l.length ∧ l.length ≤ 60) := ⟨hil, by rw [HL.out]; exact HN.out⟩
          have HZ : Keep (z ∈ items ∧ z.v1 = .slice A1 z.t.wr.length k1 ∧ z.t.wr = allN s 7 h own ∧ z.v2 = .slice A2' z.t.rd.length k2 ∧ z.t.rd = allN s 8 h own) := ⟨hzm, hv1, by rw [hzt]; exact hw0.1, hv2, by rw [hzt]; exact hw0.2⟩
          have HBL : Keep ((allN s 7 h own).length ≤ 1000000 ∧ (allN s 8 h own).length ≤ 1000000) := ⟨by
            have hsub : ∀ x ∈ own, x ∈ l := fun x hx => by rw [← hown] at hx; exact List.mem_of_mem_drop (List.mem_filter.1 hx).1
            have hol : own.length ≤ l.length := by rw [← hown]; exact Nat.le_trans (List.length_filter_le _ _) (by rw [List.length_drop]; omega)
            have hb := fun k => allN_len (s := s) (k := k) (h := h) (l := own) fun x hx => by rw [(HD.out.1 x (hsub x hx)).hlen]; exact HM.out x (hsub x hx)
            have h7 := hb 7
            have h8 := hb 8
            have := HI.out
            omega⟩
          obtain ⟨W1, hW1⟩ : ∃ W1, wr.alloc (.cells #[.int .i64 s, .int .i64 h, .slice A1 (allN s 7 h own).length k1, .slice A2' (allN s 8 h own).length k2, .bool (foldS own).sh, .bool (foldS own).cl, .bool (foldS own).ov, .int .i64 (foldS own).e] 31) = W1 := ⟨_, rfl⟩
          have H1 : Sat W1 (blkA wr.heap.size #[.int .i64 s, .int .i64 h, .slice A1 (allN s 7 h own).length k1, .slice A2' (allN s 8 h own).length k2, .bool (foldS own).sh, .bool (foldS own).cl, .bool (foldS own).ov, .int .i64 (foldS own).e] 31 :: rowA 31 8 (.slice (some ⟨g, off, none⟩) ts.length c2) ts.length (ts.flatMap (encS f)) :: each itemA items :: [initA w]) := hW1 ▸ HQ.out.alloc _ _
          have t0 : W1.cell? ⟨wr.heap.size, 0, none⟩ = some (.int .i64 s) := H1.bk.c 0
          have t1 : W1.cell? ⟨wr.heap.size, 1, none⟩ = some (.int .i64 h) := H1.bk.c 1
          have BG : Keep (Calls Tryz.prog 6 #[.slice A n c, .int .i64 s, .int .i64 h] W1 fun e w' => e = .returned (.int .i64 i) ∧ w' = W1) := ⟨hi ▸ begins_any (HA.out.below ((H1.to 3 rfl).initB)) (by have := HN.out; omega)⟩
          have FD : Keep (Calls Tryz.prog 7 #[.slice (some ⟨g, off, none⟩) ts.length c2, .int .i64 s, .int .i64 h] W1 fun e w' => e = .returned (.tuple #[.agg #[.int .i64 s, .int .i64 h, .slice A1 (allN s 7 h own).length k1, .slice A2' (allN s 8 h own).length k2, .bool (foldS own).sh, .bool (foldS own).cl, .bool (foldS own).ov, .int .i64 (foldS own).e], .bool true]) ∧
              Sat w' (rowA 31 8 (.slice (some ⟨g, off, none⟩) ts.length c2) ts.length (ts.flatMap (encS f)) :: blkA wr.heap.size #[.int .i64 s, .int .i64 h, .slice A1 (allN s 7 h own).length k1, .slice A2' (allN s 8 h own).length k2, .bool (foldS own).sh, .bool (foldS own).cl, .bool (foldS own).ov, .int .i64 (foldS own).e] 31 :: each itemA items :: [initA w])) := ⟨by
            have q := strfind_any (s := s) (h := h) f ts HTL.out (H1.to 1 rfl)
            have hmem : (s, h) ∈ ts := List.mem_of_getElem? hx
            have e1 : findC f ts (s, h) = #[.int .i64 s, .int .i64 h, .slice A1 (allN s 7 h own).length k1, .slice A2' (allN s 8 h own).length k2, .bool (foldS own).sh, .bool (foldS own).cl, .bool (foldS own).ov, .int .i64 (foldS own).e] := by
              unfold findC
              rw [if_pos hmem]
              show (encS f (s, h)).toArray = _
              rw [henc]
            rw [e1, decide_eq_true hmem] at q
            exact q⟩
          have HSRT : Keep (∀ (k : Nat) (a b : Int), k + 1 = j → ts[k]? = some (a, b) → a < s ∨ a = s ∧ b < h) := ⟨fun k a b hk hab => by
            have hp := List.pairwise_iff_getElem.1 HP.out.2.2.2.1 k j (by omega) hlt (by omega)
            rw [(List.getElem?_eq_some_iff.1 hx).2, (List.getElem?_eq_some_iff.1 hab).2, ltN_eq] at hp
            simpa using hp⟩
          have HOWN := Keep.mk hown
          clear cc hcs hxm hz0 hzn0 hsp hzn hl1 hl2 hzm hlk hzt hw0 hpk hv1 hv2 hfz henc hi hil H1 HQ hx hown
          go_wp2_with (first
            | (go_at_call 6
               refine BG.out.mono ?_
               rintro e X ⟨rfl, hX⟩
               rw [hX]
               clear hX)
            | (go_at_call 7
               refine FD.out.mono ?_
               rintro e w2 ⟨rfl, h2⟩
               have K2 := Keep.mk h2
               clear h2)
            | fail)
          clear c0 c1 c2' c3 c4 c5 c6 c7 t0 t1 BG FD
          have hi0 : ¬ ((i : Int) < 0) := by omega
          rcases Nat.eq_zero_or_pos j with hj0 | hj0
          · have hj1 : ¬ (0 < (j : Int)) := by omega
            refine wp_region_noPanic ?_
            refine wpL_beg (K2.out.alloc _ _) (fun X => X.cell? ⟨w2.heap.size, 0, none⟩ = some (.int .i64 s) ∧ X.cell? ⟨w2.heap.size, 1, none⟩ = some (.int .i64 h) ∧ X.cell? ⟨w2.heap.size, 2, none⟩ = some (.slice A1 (allN s 7 h own).length k1) ∧ X.cell? ⟨w2.heap.size, 3, none⟩ = some (.slice A2' (allN s 8 h own).length k2) ∧ X.cell? ⟨w2.heap.size, 4, none⟩ = some (.bool (foldS own).sh) ∧ X.cell? ⟨w2.heap.size, 5, none⟩ = some (.bool (foldS own).cl) ∧ X.cell? ⟨w2.heap.size, 6, none⟩ = some (.bool (foldS own).ov) ∧ X.cell? ⟨w2.heap.size, 7, none⟩ = some (.int .i64 (foldS own).e) ∧ X.cell? ⟨wr.heap.size, 0, none⟩ = some (.int .i64 s) ∧ X.cell? ⟨wr.heap.size, 1, none⟩ = some (.int .i64 h)) (fun X => True) 1000 (by kernel_rfl) ?_ ?_
            · intro w1 H
              refine ⟨?_, ?_⟩
              · exact ⟨(H.bkAt 0 rfl).c 0, (H.bkAt 0 rfl).c 1, (H.bkAt 0 rfl).c 2, (H.bkAt 0 rfl).c 3, (H.bkAt 0 rfl).c 4, (H.bkAt 0 rfl).c 5, (H.bkAt 0 rfl).c 6, (H.bkAt 0 rfl).c 7, (H.bkAt 2 rfl).c 0, (H.bkAt 2 rfl).c 1⟩
              · trivial
            intro w1 H1 hHeld
            try clear H
            have H := H1
            clear H1
            refine wpL_looks (fun d => ([1000, 1000, 1000, 1000, 1000, 1000, 1000, 1000, 1000, 1000, 1000, 1000, 1000, 1000, 1000, 1000, 1000, 1000, 1000, 1000, 1000, 1000, 1000, 1000, 1000, 1000, 1000, 1000, 1000, 1000, 1000, 1000, 1000, 1000, 1000, 1000, 1000, 1000, 1000, 1000, 1000, 1000, 1000, 1000, 1000, 1000, 1000, 1000, 1000, 1000, 1000, 1000, 1000, 1000, 1000, 0, 1, 2, 3, 4, 5, 6, 7, 8, 9, 10, 11, 12, 13, 14, 15, 16, 17, 18, 19, 20, 21, 22, 23, 24, 25, 26, 27, 28, 29, 30, 31, 32, 33, 34, 35, 36, 37, 38, 39, 40, 41, 42, 43, 44, 45, 46, 47, 48, 49, 50, 51, 52, 53, 54] : List Nat).getD d 1000) [0, 1, 2, 3, 4, 5, 6, 7, 8, 9, 10, 11, 12, 13] 41 (by kernel_rfl) (by kernel_rfl) (by kernel_rfl) (by kernel_rfl) (fun _ _ _ _ _ h => h) hHeld (fun K hK => ?_)
            iterate 14 (refine Ysp (v := ?_) rfl (by rfl) ?_ ?_; rotate_left; (focus (intro w hSw; go_simp; (try with_reducible rfl))); try simp only [Act.put, List.setIfInBounds_toArray, List.set_cons_zero, List.set_cons_succ, List.getElem_toArray, List.getElem_cons_zero, List.getElem_cons_succ])
            refine hK _ ?_
            clear hK K
            change wpAnyL _ _ _ _ _ _ _ _ #[true, true, true, true, true, true, true, true, true, true, true, true, true, true, false, false, false, false, false, false, false, false, false, false, false, false, false, false, false, false, false, false, false, false, false, false, false, false, false, false, false, false, false, false, false, false, false, false, false, false, false, false, false, false, false] _ _
            refine wpL_next (i := 14) (by kernel_rfl) rfl (fun K hK => ?_)
            try clear hHeld
            go_simp
            refine Calls.mono (refOf_any (HA.out) HD.out.1 HM.out HN.out (by have := HI.out; have := HL.out; omega) (H.to 4 rfl)) ?_
            rintro r w3 ⟨A5, c5, A6, c6, hr, h3⟩
            rw [HOWN.out] at hr h3
            subst hr
            clear H
            have H := ((h3.back 6).back 6).back 4
            clear h3
            refine hK.out _ _ ⟨?_, ?_⟩ (fun hHeld => ?_)
            · exact ⟨(H.bkAt 0 rfl).c 0, (H.bkAt 0 rfl).c 1, (H.bkAt 0 rfl).c 2, (H.bkAt 0 rfl).c 3, (H.bkAt 0 rfl).c 4, (H.bkAt 0 rfl).c 5, (H.bkAt 0 rfl).c 6, (H.bkAt 0 rfl).c 7, (H.bkAt 2 rfl).c 0, (H.bkAt 2 rfl).c 1⟩
            · exact fun _ => trivial
            clear hK K
            try simp only [Act.put, List.setIfInBounds_toArray, List.set_cons_zero, List.set_cons_succ, List.getElem_toArray, List.getElem_cons_zero, List.getElem_cons_succ]
            refine wpL_next (i := 15) (by kernel_rfl) rfl (fun K hK => ?_)
            try clear hHeld
            go_simp
            refine Calls.mono (lsame_any (allN s 7 h own) (allN s 8 h own) ?_ ?_ (Rd.of_own encB_length (by decide) (H.to 5 rfl).own) (Rd.of_own encB_length (by decide) (H.to 6 rfl).own) HBL.out.1 HBL.out.2) ?_
            · exact (items_rd ((H.to 4 rfl).to 4 rfl) HZ.out.1).1 A1 _ k1 HZ.out.2.1 _ HZ.out.2.2.1
            · exact (items_rd ((H.to 4 rfl).to 4 rfl) HZ.out.1).2 A2' _ k2 HZ.out.2.2.2.1 _ HZ.out.2.2.2.2
            rintro r w4 ⟨rfl, b4⟩
            have H1 := H.below b4 (Nat.le_refl _)
            clear H b4
            have H := H1
            clear H1
            refine hK.out _ _ ⟨?_, ?_⟩ (fun hHeld => ?_)
            · exact ⟨(H.bkAt 0 rfl).c 0, (H.bkAt 0 rfl).c 1, (H.bkAt 0 rfl).c 2, (H.bkAt 0 rfl).c 3, (H.bkAt 0 rfl).c 4, (H.bkAt 0 rfl).c 5, (H.bkAt 0 rfl).c 6, (H.bkAt 0 rfl).c 7, (H.bkAt 2 rfl).c 0, (H.bkAt 2 rfl).c 1⟩
            · exact fun _ => trivial
            clear hK K
            try simp only [Act.put, List.setIfInBounds_toArray, List.set_cons_zero, List.set_cons_succ, List.getElem_toArray, List.getElem_cons_zero, List.getElem_cons_succ]
            refine wpL_looks (fun d => ([1000, 1000, 1000, 1000, 1000, 1000, 1000, 1000, 1000, 1000, 1000, 1000, 1000, 1000, 1000, 1000, 1000, 1000, 1000, 1000, 1000, 1000, 1000, 1000, 1000, 1000, 1000, 1000, 1000, 1000, 1000, 1000, 1000, 1000, 1000, 1000, 1000, 1000, 1000, 1000, 1000, 1000, 1000, 1000, 1000, 1000, 1000, 1000, 1000, 1000, 1000, 1000, 1000, 1000, 1000, 0, 1, 2, 3, 4, 5, 6, 7, 8, 9, 10, 11, 12, 13, 14, 15, 16, 17, 18, 19, 20, 21, 22, 23, 24, 25, 26, 27, 28, 29, 30, 31, 32, 33, 34, 35, 36, 37, 38, 39, 40, 41, 42, 43, 44, 45, 46, 47, 48, 49, 50, 51, 52, 53, 54] : List Nat).getD d 1000) [16, 17, 18, 19, 20, 21, 22, 23, 24, 25, 26, 27, 28, 29, 30, 31, 32, 33, 34, 35, 36, 37, 38, 39, 40, 41, 42, 43, 44, 45, 46, 47, 48, 49, 50, 51, 52, 53, 54] 0 (by kernel_rfl) (by kernel_rfl) (by kernel_rfl) (by kernel_rfl) (fun _ _ _ _ _ h => h) hHeld (fun K hK => ?_)
            iterate 6 (refine Ysp (v := ?_) rfl (by rfl) ?_ ?_; rotate_left; (focus (intro w hSw; go_simp; (try with_reducible rfl))); try simp only [Act.put, List.setIfInBounds_toArray, List.set_cons_zero, List.set_cons_succ, List.getElem_toArray, List.getElem_cons_zero, List.getElem_cons_succ])
            iterate 31 (refine Ysn rfl (by rfl) ?_; try simp only [Act.put, List.setIfInBounds_toArray, List.set_cons_zero, List.set_cons_succ, List.getElem_toArray, List.getElem_cons_zero, List.getElem_cons_succ])
            iterate 2 (refine Ysp (v := ?_) rfl (by rfl) ?_ ?_; rotate_left; (focus (intro w hSw; go_simp; (try with_reducible rfl))); try simp only [Act.put, List.setIfInBounds_toArray, List.set_cons_zero, List.set_cons_succ, List.getElem_toArray, List.getElem_cons_zero, List.getElem_cons_succ])
            refine hK _ ?_
            clear hK K
            change wpAnyL _ _ _ _ _ _ _ _ #[true, true, true, true, true, true, true, true, true, true, true, true, true, true, true, true, true, true, true, true, true, true, true, true, true, true, true, true, true, true, true, true, true, true, true, true, true, true, true, true, true, true, true, true, true, true, true, true, true, true, true, true, true, true, true] _ _
            try clear hHeld
            refine wpL_done (by kernel_rfl) ?_ _
            refine NoPanic.normal ?_
            have K4 : Keep (Sat w4 [rowA 31 8 (.slice (some ⟨g, off, none⟩) ts.length c2) ts.length (ts.flatMap (encS f)), each itemA items, initA w]) := ⟨(((H.rm 6 rfl).rm 5 rfl).rm 2 rfl).rm 0 rfl⟩
            clear H
            go_wp2_with fail
            go_roundw
            case rel => exact ⟨j + 1, by go_num, by have := HJL.out; omega, K4⟩
            case measure => simp [intOf] <;> omega
          · obtain ⟨k, hk⟩ : ∃ k, j = k + 1 := ⟨j - 1, by omega⟩
            have hj1 : 0 < (j : Int) := by omega
            have hk1 : (j : Int) - 1 = (k : Int) := by omega
            have hk2 : IntKind.i64.wrap (k : Int) = (k : Int) := IntWalk.i64_in _ (by omega)
            have hk3 : k < ts.length := by omega
            have hk4 : (k : Int) < (ts.length : Int) := by omega
            have hk5 : 0 ≤ (k : Int) := by omega
            obtain ⟨⟨a, b⟩, hab⟩ : ∃ x, ts[k]? = some x := ⟨ts[k], List.getElem?_eq_getElem hk3⟩
            have HPV := Keep.mk hab
            rcases HSRT.out k a b hk.symm hab with hlt2 | ⟨heq, hlt2⟩
            · have hn1 : ¬ (s < a) := by omega
              have hn2 : (a == s) = false := by simp; omega
              clear hab hlt2 hk
              refine wp_region_noPanic ?_
              refine wpL_beg (K2.out.alloc _ _) (fun X => X.cell? ⟨w2.heap.size, 0, none⟩ = some (.int .i64 s) ∧ X.cell? ⟨w2.heap.size, 1, none⟩ = some (.int .i64 h) ∧ X.cell? ⟨w2.heap.size, 2, none⟩ = some (.slice A1 (allN s 7 h own).length k1) ∧ X.cell? ⟨w2.heap.size, 3, none⟩ = some (.slice A2' (allN s 8 h own).length k2) ∧ X.cell? ⟨w2.heap.size, 4, none⟩ = some (.bool (foldS own).sh) ∧ X.cell? ⟨w2.heap.size, 5, none⟩ = some (.bool (foldS own).cl) ∧ X.cell? ⟨w2.heap.size, 6, none⟩ = some (.bool (foldS own).ov) ∧ X.cell? ⟨w2.heap.size, 7, none⟩ = some (.int .i64 (foldS own).e) ∧ X.cell? ⟨wr.heap.size, 0, none⟩ = some (.int .i64 s) ∧ X.cell? ⟨wr.heap.size, 1, none⟩ = some (.int .i64 h) ∧ X.cell? ⟨g, off + k * 8, none⟩ = some (.int .i64 a)) (fun X => True) 1000 (by kernel_rfl) ?_ ?_
              · intro w1 H
                refine ⟨?_, ?_⟩
                · exact ⟨(H.bkAt 0 rfl).c 0, (H.bkAt 0 rfl).c 1, (H.bkAt 0 rfl).c 2, (H.bkAt 0 rfl).c 3, (H.bkAt 0 rfl).c 4, (H.bkAt 0 rfl).c 5, (H.bkAt 0 rfl).c 6, (H.bkAt 0 rfl).c 7, (H.bkAt 2 rfl).c 0, (H.bkAt 2 rfl).c 1, (H.to 1 rfl).rc (encS_length f) (by decide) HPV.out 0 rfl⟩
                · trivial
              intro w1 H1 hHeld
              try clear H
              have H := H1
              clear H1
              refine wpL_looks (fun d => ([1000, 1000, 1000, 1000, 1000, 1000, 1000, 1000, 1000, 1000, 1000, 1000, 1000, 1000, 1000, 1000, 1000, 1000, 1000, 1000, 1000, 1000, 1000, 1000, 1000, 1000, 1000, 1000, 1000, 1000, 1000, 1000, 1000, 1000, 1000, 1000, 1000, 1000, 1000, 1000, 1000, 1000, 1000, 1000, 1000, 1000, 1000, 1000, 1000, 1000, 1000, 1000, 1000, 1000, 1000, 0, 1, 2, 3, 4, 5, 6, 7, 8, 9, 10, 11, 12, 13, 14, 15, 16, 17, 18, 19, 20, 21, 22, 23, 24, 25, 26, 27, 28, 29, 30, 31, 32, 33, 34, 35, 36, 37, 38, 39, 40, 41, 42, 43, 44, 45, 46, 47, 48, 49, 50, 51, 52, 53, 54] : List Nat).getD d 1000) [0, 1, 2, 3, 4, 5, 6, 7, 8, 9, 10, 11, 12, 13] 41 (by kernel_rfl) (by kernel_rfl) (by kernel_rfl) (by kernel_rfl) (fun _ _ _ _ _ h => h) hHeld (fun K hK => ?_)
              iterate 14 (refine Ysp (v := ?_) rfl (by rfl) ?_ ?_; rotate_left; (focus (intro w hSw; go_simp; (try with_reducible rfl))); try simp only [Act.put, List.setIfInBounds_toArray, List.set_cons_zero, List.set_cons_succ, List.getElem_toArray, List.getElem_cons_zero, List.getElem_cons_succ])
              refine hK _ ?_
              clear hK K
              change wpAnyL _ _ _ _ _ _ _ _ #[true, true, true, true, true, true, true, true, true, true, true, true, true, true, false, false, false, false, false, false, false, false, false, false, false, false, false, false, false, false, false, false, false, false, false, false, false, false, false, false, false, false, false, false, false, false, false, false, false, false, false, false, false, false, false] _ _
              refine wpL_next (i := 14) (by kernel_rfl) rfl (fun K hK => ?_)
              try clear hHeld
              go_simp
              refine Calls.mono (refOf_any (HA.out) HD.out.1 HM.out HN.out (by have := HI.out; have := HL.out; omega) (H.to 4 rfl)) ?_
              rintro r w3 ⟨A5, c5, A6, c6, hr, h3⟩
              rw [HOWN.out] at hr h3
              subst hr
              clear H
              have H := ((h3.back 6).back 6).back 4
              clear h3
              refine hK.out _ _ ⟨?_, ?_⟩ (fun hHeld => ?_)
              · exact ⟨(H.bkAt 0 rfl).c 0, (H.bkAt 0 rfl).c 1, (H.bkAt 0 rfl).c 2, (H.bkAt 0 rfl).c 3, (H.bkAt 0 rfl).c 4, (H.bkAt 0 rfl).c 5, (H.bkAt 0 rfl).c 6, (H.bkAt 0 rfl).c 7, (H.bkAt 2 rfl).c 0, (H.bkAt 2 rfl).c 1, (H.to 1 rfl).rc (encS_length f) (by decide) HPV.out 0 rfl⟩
              · exact fun _ => trivial
              clear hK K
              try simp only [Act.put, List.setIfInBounds_toArray, List.set_cons_zero, List.set_cons_succ, List.getElem_toArray, List.getElem_cons_zero, List.getElem_cons_succ]
              refine wpL_next (i := 15) (by kernel_rfl) rfl (fun K hK => ?_)
              try clear hHeld
              go_simp
              refine Calls.mono (lsame_any (allN s 7 h own) (allN s 8 h own) ?_ ?_ (Rd.of_own encB_length (by decide) (H.to 5 rfl).own) (Rd.of_own encB_length (by decide) (H.to 6 rfl).own) HBL.out.1 HBL.out.2) ?_
              · exact (items_rd ((H.to 4 rfl).to 4 rfl) HZ.out.1).1 A1 _ k1 HZ.out.2.1 _ HZ.out.2.2.1
              · exact (items_rd ((H.to 4 rfl).to 4 rfl) HZ.out.1).2 A2' _ k2 HZ.out.2.2.2.1 _ HZ.out.2.2.2.2
              rintro r w4 ⟨rfl, b4⟩
              have H1 := H.below b4 (Nat.le_refl _)
              clear H b4
              have H := H1
              clear H1
              refine hK.out _ _ ⟨?_, ?_⟩ (fun hHeld => ?_)
              · exact ⟨(H.bkAt 0 rfl).c 0, (H.bkAt 0 rfl).c 1, (H.bkAt 0 rfl).c 2, (H.bkAt 0 rfl).c 3, (H.bkAt 0 rfl).c 4, (H.bkAt 0 rfl).c 5, (H.bkAt 0 rfl).c 6, (H.bkAt 0 rfl).c 7, (H.bkAt 2 rfl).c 0, (H.bkAt 2 rfl).c 1, (H.to 1 rfl).rc (encS_length f) (by decide) HPV.out 0 rfl⟩
              · exact fun _ => trivial
              clear hK K
              try simp only [Act.put, List.setIfInBounds_toArray, List.set_cons_zero, List.set_cons_succ, List.getElem_toArray, List.getElem_cons_zero, List.getElem_cons_succ]
              refine wpL_looks (fun d => ([1000, 1000, 1000, 1000, 1000, 1000, 1000, 1000, 1000, 1000, 1000, 1000, 1000, 1000, 1000, 1000, 1000, 1000, 1000, 1000, 1000, 1000, 1000, 1000, 1000, 1000, 1000, 1000, 1000, 1000, 1000, 1000, 1000, 1000, 1000, 1000, 1000, 1000, 1000, 1000, 1000, 1000, 1000, 1000, 1000, 1000, 1000, 1000, 1000, 1000, 1000, 1000, 1000, 1000, 1000, 0, 1, 2, 3, 4, 5, 6, 7, 8, 9, 10, 11, 12, 13, 14, 15, 16, 17, 18, 19, 20, 21, 22, 23, 24, 25, 26, 27, 28, 29, 30, 31, 32, 33, 34, 35, 36, 37, 38, 39, 40, 41, 42, 43, 44, 45, 46, 47, 48, 49, 50, 51, 52, 53, 54] : List Nat).getD d 1000) [16, 17, 18, 19, 20, 21, 22, 23, 24, 25, 26, 27, 28, 29, 30, 31, 32, 33, 34, 35, 36, 37, 38, 39, 40, 41, 42, 43, 44, 45, 46, 47, 48, 49, 50, 51, 52, 53, 54] 0 (by kernel_rfl) (by kernel_rfl) (by kernel_rfl) (by kernel_rfl) (fun _ _ _ _ _ h => h) hHeld (fun K hK => ?_)
              iterate 26 (refine Ysp (v := ?_) rfl (by rfl) ?_ ?_; rotate_left; (focus (intro w hSw; go_simp; (try with_reducible rfl))); try simp only [Act.put, List.setIfInBounds_toArray, List.set_cons_zero, List.set_cons_succ, List.getElem_toArray, List.getElem_cons_zero, List.getElem_cons_succ])
              iterate 9 (refine Ysn rfl (by rfl) ?_; try simp only [Act.put, List.setIfInBounds_toArray, List.set_cons_zero, List.set_cons_succ, List.getElem_toArray, List.getElem_cons_zero, List.getElem_cons_succ])
              iterate 4 (refine Ysp (v := ?_) rfl (by rfl) ?_ ?_; rotate_left; (focus (intro w hSw; go_simp; (try with_reducible rfl))); try simp only [Act.put, List.setIfInBounds_toArray, List.set_cons_zero, List.set_cons_succ, List.getElem_toArray, List.getElem_cons_zero, List.getElem_cons_succ])
              refine hK _ ?_
              clear hK K
              change wpAnyL _ _ _ _ _ _ _ _ #[true, true, true, true, true, true, true, true, true, true, true, true, true, true, true, true, true, true, true, true, true, true, true, true, true, true, true, true, true, true, true, true, true, true, true, true, true, true, true, true, true, true, true, true, true, true, true, true, true, true, true, true, true, true, true] _ _
              try clear hHeld
              refine wpL_done (by kernel_rfl) ?_ _
              refine NoPanic.normal ?_
              have K4 : Keep (Sat w4 [rowA 31 8 (.slice (some ⟨g, off, none⟩) ts.length c2) ts.length (ts.flatMap (encS f)), each itemA items, initA w]) := ⟨(((H.rm 6 rfl).rm 5 rfl).rm 2 rfl).rm 0 rfl⟩
              clear H
              go_wp2_with fail
              go_roundw
              case rel => exact ⟨j + 1, by go_num, by have := HJL.out; omega, K4⟩
              case measure => simp [intOf] <;> omega
            · subst heq
              have hn3 : ¬ (h ≤ b) := by omega
              clear hab hlt2 hk
              refine wp_region_noPanic ?_
              refine wpL_beg (K2.out.alloc _ _) (fun X => X.cell? ⟨w2.heap.size, 0, none⟩ = some (.int .i64 a) ∧ X.cell? ⟨w2.heap.size, 1, none⟩ = some (.int .i64 h) ∧ X.cell? ⟨w2.heap.size, 2, none⟩ = some (.slice A1 (allN a 7 h own).length k1) ∧ X.cell? ⟨w2.heap.size, 3, none⟩ = some (.slice A2' (allN a 8 h own).length k2) ∧ X.cell? ⟨w2.heap.size, 4, none⟩ = some (.bool (foldS own).sh) ∧ X.cell? ⟨w2.heap.size, 5, none⟩ = some (.bool (foldS own).cl) ∧ X.cell? ⟨w2.heap.size, 6, none⟩ = some (.bool (foldS own).ov) ∧ X.cell? ⟨w2.heap.size, 7, none⟩ = some (.int .i64 (foldS own).e) ∧ X.cell? ⟨wr.heap.size, 0, none⟩ = some (.int .i64 a) ∧ X.cell? ⟨wr.heap.size, 1, none⟩ = some (.int .i64 h) ∧ X.cell? ⟨g, off + k * 8, none⟩ = some (.int .i64 a) ∧ X.cell? ⟨g, off + k * 8 + 1, none⟩ = some (.int .i64 b)) (fun X => True) 1000 (by kernel_rfl) ?_ ?_
              · intro w1 H
                refine ⟨?_, ?_⟩
                · exact ⟨(H.bkAt 0 rfl).c 0, (H.bkAt 0 rfl).c 1, (H.bkAt 0 rfl).c 2, (H.bkAt 0 rfl).c 3, (H.bkAt 0 rfl).c 4, (H.bkAt 0 rfl).c 5, (H.bkAt 0 rfl).c 6, (H.bkAt 0 rfl).c 7, (H.bkAt 2 rfl).c 0, (H.bkAt 2 rfl).c 1, (H.to 1 rfl).rc (encS_length f) (by decide) HPV.out 0 rfl, (H.to 1 rfl).rc (encS_length f) (by decide) HPV.out 1 rfl⟩
                · trivial
              intro w1 H1 hHeld
              try clear H
              have H := H1
              clear H1
              refine wpL_looks (fun d => ([1000, 1000, 1000, 1000, 1000, 1000, 1000, 1000, 1000, 1000, 1000, 1000, 1000, 1000, 1000, 1000, 1000, 1000, 1000, 1000, 1000, 1000, 1000, 1000, 1000, 1000, 1000, 1000, 1000, 1000, 1000, 1000, 1000, 1000, 1000, 1000, 1000, 1000, 1000, 1000, 1000, 1000, 1000, 1000, 1000, 1000, 1000, 1000, 1000, 1000, 1000, 1000, 1000, 1000, 1000, 0, 1, 2, 3, 4, 5, 6, 7, 8, 9, 10, 11, 12, 13, 14, 15, 16, 17, 18, 19, 20, 21, 22, 23, 24, 25, 26, 27, 28, 29, 30, 31, 32, 33, 34, 35, 36, 37, 38, 39, 40, 41, 42, 43, 44, 45, 46, 47, 48, 49, 50, 51, 52, 53, 54] : List Nat).getD d 1000) [0, 1, 2, 3, 4, 5, 6, 7, 8, 9, 10, 11, 12, 13] 41 (by kernel_rfl) (by kernel_rfl) (by kernel_rfl) (by kernel_rfl) (fun _ _ _ _ _ h => h) hHeld (fun K hK => ?_)
              iterate 14 (refine Ysp (v := ?_) rfl (by rfl) ?_ ?_; rotate_left; (focus (intro w hSw; go_simp; (try with_reducible rfl))); try simp only [Act.put, List.setIfInBounds_toArray, List.set_cons_zero, List.set_cons_succ, List.getElem_toArray, List.getElem_cons_zero, List.getElem_cons_succ])
              refine hK _ ?_
              clear hK K
              change wpAnyL _ _ _ _ _ _ _ _ #[true, true, true, true, true, true, true, true, true, true, true, true, true, true, false, false, false, false, false, false, false, false, false, false, false, false, false, false, false, false, false, false, false, false, false, false, false, false, false, false, false, false, false, false, false, false, false, false, false, false, false, false, false, false, false] _ _
              refine wpL_next (i := 14) (by kernel_rfl) rfl (fun K hK => ?_)
              try clear hHeld
              go_simp
              refine Calls.mono (refOf_any (HA.out) HD.out.1 HM.out HN.out (by have := HI.out; have := HL.out; omega) (H.to 4 rfl)) ?_
              rintro r w3 ⟨A5, c5, A6, c6, hr, h3⟩
              rw [HOWN.out] at hr h3
              subst hr
              clear H
              have H := ((h3.back 6).back 6).back 4
              clear h3
              refine hK.out _ _ ⟨?_, ?_⟩ (fun hHeld => ?_)
              · exact ⟨(H.bkAt 0 rfl).c 0, (H.bkAt 0 rfl).c 1, (H.bkAt 0 rfl).c 2, (H.bkAt 0 rfl).c 3, (H.bkAt 0 rfl).c 4, (H.bkAt 0 rfl).c 5, (H.bkAt 0 rfl).c 6, (H.bkAt 0 rfl).c 7, (H.bkAt 2 rfl).c 0, (H.bkAt 2 rfl).c 1, (H.to 1 rfl).rc (encS_length f) (by decide) HPV.out 0 rfl, (H.to 1 rfl).rc (encS_length f) (by decide) HPV.out 1 rfl⟩
              · exact fun _ => trivial
              clear hK K
              try simp only [Act.put, List.setIfInBounds_toArray, List.set_cons_zero, List.set_cons_succ, List.getElem_toArray, List.getElem_cons_zero, List.getElem_cons_succ]
              refine wpL_next (i := 15) (by kernel_rfl) rfl (fun K hK => ?_)
              try clear hHeld
              go_simp
              refine Calls.mono (lsame_any (allN a 7 h own) (allN a 8 h own) ?_ ?_ (Rd.of_own encB_length (by decide) (H.to 5 rfl).own) (Rd.of_own encB_length (by decide) (H.to 6 rfl).own) HBL.out.1 HBL.out.2) ?_
              · exact (items_rd ((H.to 4 rfl).to 4 rfl) HZ.out.1).1 A1 _ k1 HZ.out.2.1 _ HZ.out.2.2.1
              · exact (items_rd ((H.to 4 rfl).to 4 rfl) HZ.out.1).2 A2' _ k2 HZ.out.2.2.2.1 _ HZ.out.2.2.2.2
              rintro r w4 ⟨rfl, b4⟩
              have H1 := H.below b4 (Nat.le_refl _)
              clear H b4
              have H := H1
              clear H1
              refine hK.out _ _ ⟨?_, ?_⟩ (fun hHeld => ?_)
              · exact ⟨(H.bkAt 0 rfl).c 0, (H.bkAt 0 rfl).c 1, (H.bkAt 0 rfl).c 2, (H.bkAt 0 rfl).c 3, (H.bkAt 0 rfl).c 4, (H.bkAt 0 rfl).c 5, (H.bkAt 0 rfl).c 6, (H.bkAt 0 rfl).c 7, (H.bkAt 2 rfl).c 0, (H.bkAt 2 rfl).c 1, (H.to 1 rfl).rc (encS_length f) (by decide) HPV.out 0 rfl, (H.to 1 rfl).rc (encS_length f) (by decide) HPV.out 1 rfl⟩
              · exact fun _ => trivial
              clear hK K
              try simp only [Act.put, List.setIfInBounds_toArray, List.set_cons_zero, List.set_cons_succ, List.getElem_toArray, List.getElem_cons_zero, List.getElem_cons_succ]
              refine wpL_looks (fun d => ([1000, 1000, 1000, 1000, 1000, 1000, 1000, 1000, 1000, 1000, 1000, 1000, 1000, 1000, 1000, 1000, 1000, 1000, 1000, 1000, 1000, 1000, 1000, 1000, 1000, 1000, 1000, 1000, 1000, 1000, 1000, 1000, 1000, 1000, 1000, 1000, 1000, 1000, 1000, 1000, 1000, 1000, 1000, 1000, 1000, 1000, 1000, 1000, 1000, 1000, 1000, 1000, 1000, 1000, 1000, 0, 1, 2, 3, 4, 5, 6, 7, 8, 9, 10, 11, 12, 13, 14, 15, 16, 17, 18, 19, 20, 21, 22, 23, 24, 25, 26, 27, 28, 29, 30, 31, 32, 33, 34, 35, 36, 37, 38, 39, 40, 41, 42, 43, 44, 45, 46, 47, 48, 49, 50, 51, 52, 53, 54] : List Nat).getD d 1000) [16, 17, 18, 19, 20, 21, 22, 23, 24, 25, 26, 27, 28, 29, 30, 31, 32, 33, 34, 35, 36, 37, 38, 39, 40, 41, 42, 43, 44, 45, 46, 47, 48, 49, 50, 51, 52, 53, 54] 0 (by kernel_rfl) (by kernel_rfl) (by kernel_rfl) (by kernel_rfl) (fun _ _ _ _ _ h => h) hHeld (fun K hK => ?_)
              iterate 39 (refine Ysp (v := ?_) rfl (by rfl) ?_ ?_; rotate_left; (focus (intro w hSw; go_simp; (try with_reducible rfl))); try simp only [Act.put, List.setIfInBounds_toArray, List.set_cons_zero, List.set_cons_succ, List.getElem_toArray, List.getElem_cons_zero, List.getElem_cons_succ])
              refine hK _ ?_
              clear hK K
              change wpAnyL _ _ _ _ _ _ _ _ #[true, true, true, true, true, true, true, true, true, true, true, true, true, true, true, true, true, true, true, true, true, true, true, true, true, true, true, true, true, true, true, true, true, true, true, true, true, true, true, true, true, true, true, true, true, true, true, true, true, true, true, true, true, true, true] _ _
              try clear hHeld
              refine wpL_done (by kernel_rfl) ?_ _
              refine NoPanic.normal ?_
              have K4 : Keep (Sat w4 [rowA 31 8 (.slice (some ⟨g, off, none⟩) ts.length c2) ts.length (ts.flatMap (encS f)), each itemA items, initA w]) := ⟨(((H.rm 6 rfl).rm 5 rfl).rm 2 rfl).rm 0 rfl⟩
              clear H
              go_wp2_with fail
              go_roundw
              case rel => exact ⟨j + 1, by go_num, by have := HJL.out; omega, K4⟩
              case measure => simp [intOf] <;> omega
        · obtain rfl : j = ts.length := by omega
          have HME : Keep (∀ s h : Int, (s, h) ∈ ts ↔ ¬ begN (s, h) l < 0) := ⟨fun s h => by
            have h1 : (s, h) ∈ ts ↔ lkS (s, h) (logN l) ≠ none := by
              rw [HP.out.2.2.1.mem_iff, ← HP.out.1, ne_eq, lkS_none]
              unfold plainI
              simp only [List.mem_map, forall_exists_index, and_imp]
              constructor
              · rintro ⟨z, hz, e⟩ hc
                exact hc _ z hz rfl e
              · intro hc
                rcases Classical.em (∃ z ∈ items, z.nm = (s, h)) with e | e
                · exact e
                · exact absurd (fun p z hz hp e2 => e ⟨z, hz, by rw [← e2, ← hp]⟩) hc
            rw [h1, log_spec (s, h) l.length l rfl]
            by_cases e : begN (s, h) l < 0 <;> simp [e]⟩
          go_wp2_with fail
          go_loopw [113] (fun i wr => ∃ j : Nat, i = .int .i64 j ∧ j ≤ n ∧ Keep (Sat wr [rowA 31 8 (.slice A2 ts.length c2) ts.length (ts.flatMap (encS f)), each itemA items, initA w])) (fun i _ => n - (intOf i).toNat)
          case atStart => exact ⟨0, rfl, Nat.zero_le _, HQ⟩
          case round =>
            obtain ⟨j, rfl, hj, HQ⟩ := hrel
            have hn60 : n ≤ 60 := HN.out
            rcases Nat.lt_or_ge j n with hlt | hge
            · obtain ⟨x, hx⟩ : ∃ x, l[j]? = some x := ⟨l[j]'(by have := HL.out; omega), List.getElem?_eq_getElem _⟩
              obtain ⟨g, off, rfl, hg, hcs⟩ := HA.out.rd (by intro e; rw [e] at hx; simp at hx)
              have HB := (HQ.out.to 2 rfl).initB
              have cc : ∀ (k : Nat) (u : Value), (tdK x)[k]? = some u → wr.cell? ⟨g, off + j * 7 + k, none⟩ = some u := fun k u hu => (HB.cell (p := ⟨g, off + j * 7 + k, none⟩) hg).trans (hcs j x hx k u hu)
              have c0 : wr.cell? ⟨g, off + j * 7, none⟩ = some (.int .i64 x.s) := cc 0 _ rfl
              have c1 : wr.cell? ⟨g, off + j * 7 + 1, none⟩ = some (.int .i64 x.tk) := cc 1 _ rfl
              have c2' : wr.cell? ⟨g, off + j * 7 + 2, none⟩ = some (.int .i64 x.k) := cc 2 _ rfl
              have c3 : wr.cell? ⟨g, off + j * 7 + 3, none⟩ = some (.int .i64 x.h) := cc 3 _ rfl
              have c4 : wr.cell? ⟨g, off + j * 7 + 4, none⟩ = some (.int .i64 x.n) := cc 4 _ rfl
              have c5 : wr.cell? ⟨g, off + j * 7 + 5, none⟩ = some (.slice x.A x.m x.c) := cc 5 _ rfl
              have c6 : wr.cell? ⟨g, off + j * 7 + 6, none⟩ = some (.int .i64 x.e) := cc 6 _ rfl
              obtain ⟨W1, hW1⟩ : ∃ W1, wr.alloc (.cells (tdK x).toArray 27) = W1 := ⟨_, rfl⟩
              have H1 : Sat W1 (blkA wr.heap.size (tdK x).toArray 27 :: rowA 31 8 (.slice A2 ts.length c2) ts.length (ts.flatMap (encS f)) :: each itemA items :: [initA w]) := hW1 ▸ HQ.out.alloc _ _
              have t0 : W1.cell? ⟨wr.heap.size, 0, none⟩ = some (.int .i64 x.s) := H1.bk.c 0
              have t3 : W1.cell? ⟨wr.heap.size, 3, none⟩ = some (.int .i64 x.h) := H1.bk.c 3
              have FD := Keep.mk (strfind_any (s := x.s) (h := x.h) f ts HTL.out (H1.to 1 rfl))
              obtain ⟨bi, hbi⟩ : ∃ bi, begN (x.s, x.h) l = bi := ⟨_, rfl⟩
              have hmm := HME.out x.s x.h
              rw [hbi] at hmm
              obtain ⟨d, hd⟩ : ∃ d, decide ((x.s, x.h) ∈ ts) = d := ⟨_, rfl⟩
              rw [hd] at FD
              have HDB : Keep (d = decide (0 ≤ bi)) := ⟨by rw [← hd]; exact decide_eq_decide.2 (hmm.trans (by omega))⟩
              have BG : Keep (∀ W, Below w.heap.size w W → Calls Tryz.prog 6 #[.slice (some ⟨g, off, none⟩) n c, .int .i64 x.s, .int .i64 x.h] W fun e w' => e = .returned (.int .i64 bi) ∧ w' = W) := ⟨fun W hb => hbi ▸ begins_any (HA.out.below hb) (by omega)⟩
              obtain ⟨fc, hfc⟩ : ∃ fc, findC f ts (x.s, x.h) = fc := ⟨_, rfl⟩
              have hfs : ∃ (y1 y2 : Int) (y3 y4 : Option Addr × Nat × Nat) (y5 y6 y7 : Bool) (y8 : Int), fc = #[.int .i64 y1, .int .i64 y2, .slice y3.1 y3.2.1 y3.2.2, .slice y4.1 y4.2.1 y4.2.2, .bool y5, .bool y6, .bool y7, .int .i64 y8] := by
                rw [← hfc]
                unfold findC
                split
                · exact ⟨_, _, (_, _, _), (_, _, _), _, _, _, _, rfl⟩
                · exact ⟨_, _, (none, 0, 0), (none, 0, 0), _, _, _, _, rfl⟩
              rw [hfc] at FD
              obtain ⟨y1, y2, ⟨y31, y32, y33⟩, ⟨y41, y42, y43⟩, y5, y6, y7, y8, rfl⟩ := hfs
              clear cc hcs hx hg HB H1 HQ hd hmm hbi hfc
              cases d
              · have hb0 : ¬ (0 ≤ bi) := by have := HDB.out; simpa using this.symm
                go_wp2_with (first
                  | (go_at_call 7
                     refine FD.out.mono ?_
                     rintro e w2 ⟨rfl, h2⟩
                     have K2 := Keep.mk h2
                     have H3 := h2.alloc #[.int .i64 y1, .int .i64 y2, .slice y31 y32 y33, .slice y41 y42 y43, .bool y5, .bool y6, .bool y7, .int .i64 y8] 31
                     have q0 : (w2.alloc (.cells #[.int .i64 y1, .int .i64 y2, .slice y31 y32 y33, .slice y41 y42 y43, .bool y5, .bool y6, .bool y7, .int .i64 y8] 31)).cell? ⟨wr.heap.size, 0, none⟩ = some (.int .i64 x.s) := (H3.bkAt 2 rfl).c 0
                     have q3 : (w2.alloc (.cells #[.int .i64 y1, .int .i64 y2, .slice y31 y32 y33, .slice y41 y42 y43, .bool y5, .bool y6, .bool y7, .int .i64 y8] 31)).cell? ⟨wr.heap.size, 3, none⟩ = some (.int .i64 x.h) := (H3.bkAt 2 rfl).c 3
                     have K3 := Keep.mk ((H3.rm 2 rfl).tl)
                     have B3 := Keep.mk (BG.out _ (H3.to 4 rfl).initB)
                     clear h2 H3)
                  | (go_at_call 6
                     refine B3.out.mono ?_
                     rintro e X ⟨rfl, hX⟩
                     rw [hX]
                     clear hX)
                  | fail)
                go_roundw
                case rel => exact ⟨j + 1, by go_num, hlt, K3⟩
                case measure => simp [intOf] <;> omega
              · have hb0 : 0 ≤ bi := by have := HDB.out; simpa using this.symm
                go_wp2_with (first
                  | (go_at_call 7
                     refine FD.out.mono ?_
                     rintro e w2 ⟨rfl, h2⟩
                     have K2 := Keep.mk h2
                     have H3 := h2.alloc #[.int .i64 y1, .int .i64 y2, .slice y31 y32 y33, .slice y41 y42 y43, .bool y5, .bool y6, .bool y7, .int .i64 y8] 31
                     have q0 : (w2.alloc (.cells #[.int .i64 y1, .int .i64 y2, .slice y31 y32 y33, .slice y41 y42 y43, .bool y5, .bool y6, .bool y7, .int .i64 y8] 31)).cell? ⟨wr.heap.size, 0, none⟩ = some (.int .i64 x.s) := (H3.bkAt 2 rfl).c 0
                     have q3 : (w2.alloc (.cells #[.int .i64 y1, .int .i64 y2, .slice y31 y32 y33, .slice y41 y42 y43, .bool y5, .bool y6, .bool y7, .int .i64 y8] 31)).cell? ⟨wr.heap.size, 3, none⟩ = some (.int .i64 x.h) := (H3.bkAt 2 rfl).c 3
                     have K3 := Keep.mk ((H3.rm 2 rfl).tl)
                     have B3 := Keep.mk (BG.out _ (H3.to 4 rfl).initB)
                     clear h2 H3)
                  | (go_at_call 6
                     refine B3.out.mono ?_
                     rintro e X ⟨rfl, hX⟩
                     rw [hX]
                     clear hX)
                  | fail)
                go_roundw
                case rel => exact ⟨j + 1, by go_num, hlt, K3⟩
                case measure => simp [intOf] <;> omega
            · obtain rfl : j = n := by omega
              go_wp2_with fail
              go_ret
              exact ⟨rfl, (HQ.out.to 2 rfl).initB⟩
end Go.Proofs.YtjpokeakemlffaaGreatDoor
