/-
  A connection that opens: its timers.
-/
import Derived.Test.YtcjanieeepcddaaGreatDoorCo4
namespace Go.Proofs.YtcjanieeepcddaaGreatDoor
open Go.RowKit

section
variable {w0 w : World} {base wb wm nb : Nat} {S : Nat → Value} {now : Int} {L : List Due} {c sd st rv mp st2 lg fl pb q : Nat} {p1 p2 k : Int} {out fout : Value} {times state rcv tries at_ since : Int} {has twice : Bool} {farr : Array Value}
set_option maxRecDepth 100000 in
theorem fat_any (h : Bk w fl (flC q times state rcv tries at_ has since twice fout) 105) : Calls Tryz.prog 134 #[.pointer (some ⟨fl, 0, none⟩)] w fun e w' => e = .returned (.tuple #[.int .i64 at_, .bool has]) ∧ ∃ n, w' = w.drewN n := by
  have c8 : w.cell? ⟨fl, 8, none⟩ = some (.int .i64 at_) := h.c 8
  have c9 : w.cell? ⟨fl, 9, none⟩ = some (.bool has) := h.c 9
  clear h
  go_enter Tryz.func134, Tryz.ntmps134
  go_wp2_with fail
  go_big_quiet (fail)
  go_wp2_with fail
  refine bodyPost_ret (results_tmp2 rfl _ _ _) rfl ⟨rfl, _, rfl⟩
set_option maxRecDepth 100000 in
theorem starved_no (h : Bk w c (conD p1 p2 k sd rv pb lg wb out) 68) : Calls Tryz.prog 86 #[.pointer (some ⟨c, 0, none⟩)] w fun e w' => e = .returned (.bool false) ∧ ∃ n, w' = w.drewN n := by
  have c7 : w.cell? ⟨c, 7, none⟩ = some (.int .i64 0) := h.c 7
  clear h
  go_enter Tryz.func86, Tryz.ntmps86
  go_wp2_with fail
  go_big_quiet (fail)
  go_wp2_with fail
  go_ret
  exact ⟨by first | rfl | simp, _, rfl⟩

theorem drop_one {t x : Int} (hx : x ≠ 0) : dropH x [(0, t)] = [(0, t)] := dropH_all (by simp; exact fun e => hx e.symm)
theorem tk_one {t x : Int} (hx : x ≠ 0) : tk [((0 : Int), t)] x = none := by
  rw [tk_cons, if_neg (fun e => hx e.symm)]
  rfl
set_option maxRecDepth 100000 in
set_option maxHeartbeats 6400000 in
theorem arm_one (tick : Int) (h : Cs w0 w base wb wm nb S now L c sd st rv mp st2 lg fl (conD p1 p2 k sd rv pb lg wb out) (flC q times 1 rcv tries at_ true since twice fout)) (hn : 0 ≤ now) (hn2 : now < 1152921504606846976) (hL : ∀ d ∈ L, d.1 = 0) (hLl : L.length ≤ 10) (hat : at_ ≤ now + 4096) (hnb : nb < 9000) :
    Calls Tryz.prog 79 #[.pointer (some ⟨c, 0, none⟩), .int .i64 tick] w fun e w' => e = .returned (.tuple #[]) ∧ ∃ S', Cs w0 w' base wb wm (nb + 1) S' now [(0, max at_ (now + 1))] c sd st rv mp st2 lg fl (conD p1 p2 k sd rv pb lg wb out) (flC q times 1 rcv tries at_ true since twice fout) ∧ Fm w w' wb wm S S' := by
  have c22 : w.cell? ⟨c, 22, none⟩ = some (.pointer (some ⟨wb, 0, none⟩)) := h.cn.c 22
  have l0 : w.cell? ⟨c, 12, none⟩ = some (.pointer (some ⟨lg, 0, none⟩)) := h.cn.c 12
  have l1 : w.cell? ⟨c, 13, none⟩ = some (.pointer none) := h.cn.c 13
  have l2 : w.cell? ⟨c, 14, none⟩ = some (.pointer none) := h.cn.c 14
  have l3 : w.cell? ⟨c, 15, none⟩ = some (.pointer none) := h.cn.c 15
  have l4 : w.cell? ⟨c, 16, none⟩ = some (.pointer none) := h.cn.c 16
  have l5 : w.cell? ⟨c, 17, none⟩ = some (.pointer none) := h.cn.c 17
  have l6 : w.cell? ⟨c, 18, none⟩ = some (.pointer none) := h.cn.c 18
  have l7 : w.cell? ⟨c, 19, none⟩ = some (.pointer none) := h.cn.c 19
  have NW := Keep.mk (now_wl h.wl)
  have HN : Keep (0 ≤ now ∧ now < 1152921504606846976 ∧ at_ ≤ now + 4096 ∧ nb < 9000 ∧ L.length ≤ 10) := ⟨hn, hn2, hat, hnb, hLl⟩
  have HL := Lib.hid hL
  have HC := Keep.mk h
  obtain ⟨t, ht⟩ : ∃ t, max at_ (now + 1) = t := ⟨_, rfl⟩
  have HT : Keep (now < t ∧ t ≤ now + 4096 ∧ max at_ (now + 1) = t) := ⟨by omega, by omega, ht⟩
  have q1 : IntKind.i64.wrap (now + 1) = now + 1 := IntWalk.i64_in _ (by omega)
  rw [ht]
  have HD0 : Keep (dropH 0 L = []) := ⟨by unfold dropH; rw [List.filter_eq_nil_iff]; intro d hd; simp [hL d hd]⟩
  clear h hn hn2 hL hLl hat hnb
  go_enter Tryz.func79, Tryz.ntmps79
  go_wp2_with (first
    | (go_at_call 31
       go_loud (refine NW.out.mono ?_; rintro e X ⟨rfl, hX⟩)
       rw [hX]
       clear hX)
    | fail)
  clear c22 l0 l1 l2 l3 l4 l5 l6 l7 NW
  go_loopw [22] (fun i wr => ∃ (j : Nat) (nb' : Nat) (S' : Nat → Value), j ≤ 8 ∧ i = .int .i64 j ∧ Keep (nb' = if j = 0 then nb else nb + 1) ∧ Keep (Cs w0 wr base wb wm nb' S' now (if j = 0 then L else [(0, t)]) c sd st rv mp st2 lg fl (conD p1 p2 k sd rv pb lg wb out) (flC q times 1 rcv tries at_ true since twice fout)) ∧ Keep (Fm w wr wb wm S S')) (fun i _ => 8 - (intOf i).toNat)
  case atStart => exact ⟨0, nb, S, by omega, rfl, ⟨rfl⟩, HC, ⟨Fm.refl _ _ _ _⟩⟩
  case round =>
    obtain ⟨j, nb', S', hj, rfl, HNB, HK, HM⟩ := hrel
    rcases Nat.eq_zero_or_pos j with rfl | hpos
    · have hk := HK.out
      rw [if_pos rfl] at hk
      have ix := index_leg (legsA lg) 0 _ rfl (by omega) wr
      rw [show ((0 : Nat) : Int) = 0 from rfl] at ix
      have OV := Keep.mk (over_any lg fl q times 1 rcv tries at_ true since twice fout wr hk.leg hk.flw)
      have FA := Keep.mk (fat_any hk.flw)
      have g0 : wr.cell? ⟨lg, 0, none⟩ = some (.pointer (some ⟨fl, 0, none⟩)) := hk.leg.c 0
      have W0 : Keep (wfI 0) := ⟨wfI_of (by omega) (by omega)⟩
      have hmx := HT.out.2.2
      have hnb2 := HNB.out
      rw [if_pos rfl] at hnb2
      have HNB2 := Keep.mk hnb2
      clear hnb2
      have KK := Keep.mk hk
      clear hk
      go_wp2_with (first
        | (go_at_call 38
           go_loud (refine OV.out.mono ?_; rintro e X ⟨rfl, hX⟩)
           rw [hX]
           clear hX)
        | (go_at_call 134
           go_loud (refine FA.out.mono ?_; rintro e w2 ⟨rfl, n2, hw2⟩)
           have K2 := Keep.mk (KK.out.quiet (w1 := w2) (by rw [hw2]; exact below_dn wr n2))
           have M2 : Keep (Fm wr w2 wb wm S' S') := ⟨Fm.quiet (by rw [hw2]; exact below_dn wr n2) _ _ _⟩
           have d22 : w2.cell? ⟨c, 22, none⟩ = some (.pointer (some ⟨wb, 0, none⟩)) := K2.out.cn.c 22
           have AW := Keep.mk (arm_wl K2.out.wl K2.out.hs W0.out HN.out.1 (by have := HN.out.2.1; omega) HT.out.1 HT.out.2.1 (by have := HN.out.2.2.2.2; omega) (by have := HN.out.2.2.2.1; have := HNB2.out; omega))
           clear hw2)
        | (go_at_call 64
           go_loud (refine AW.out.mono ?_; rintro e w3 ⟨rfl, S3, wl3, fm3⟩)
           rw [HD0.out, List.nil_append] at wl3
           have K3 := Keep.mk (K2.out.wheel wl3 fm3)
           have M3 := Keep.mk ((HM.out.trans M2.out).trans fm3)
           clear wl3 fm3)
        | fail)
      go_roundw
      case rel => exact ⟨1, nb' + 1, S3, by omega, by go_num, ⟨by have := HNB2.out; rw [if_neg (by omega)]; omega⟩, ⟨by rw [if_neg (by omega)]; exact K3.out⟩, M3⟩
      case measure => simp [intOf]
    · have hk := HK.out
      rw [if_neg (by omega)] at hk
      rcases Nat.lt_or_ge j 8 with hlt | hge
      · have ix := index_leg (legsA lg) j _ (legsA_nil hpos hlt) hlt wr
        have hji : ((j : Nat) : Int) < 8 := by omega
        have d22 : wr.cell? ⟨c, 22, none⟩ = some (.pointer (some ⟨wb, 0, none⟩)) := hk.cn.c 22
        have C2 := Keep.mk (hk.quiet ((Below.refl _ wr).alloc (Nat.le_refl _) (.cells #[.int .i64 (j : Int)] 3)))
        have CW := cancel_wl (c := 1) C2.out.wl C2.out.hs (by simp) (cells_one wr (j : Int)) (wfI_of (by omega) (by omega)) HN.out.1 (by have := HN.out.2.1; omega) (by simp)
        rw [drop_one (by omega)] at CW
        have CW := Keep.mk CW
        have HP := Keep.mk hpos
        have hnb2 := HNB.out
        rw [if_neg (by omega)] at hnb2
        have HNB2 := Keep.mk hnb2
        clear hk hpos hnb2
        go_wp2_with (first
          | (go_at_call 38
             go_loud (refine (over_nil _).mono ?_; rintro e X ⟨rfl, hX⟩)
             rw [hX]
             clear hX)
          | (go_at_call 100
             go_loud (refine CW.out.mono ?_; rintro e w3 ⟨rfl, S3, wl3, fm3⟩)
             have K3 := Keep.mk (C2.out.wheel wl3 fm3)
             have M3 := Keep.mk ((HM.out.trans (Fm.alloc wr _ wb wm S')).trans fm3)
             clear wl3 fm3)
          | fail)
        go_roundw
        case rel => exact ⟨j + 1, nb', S3, by omega, by go_num, ⟨by have := HNB2.out; rw [if_neg (by omega)]; omega⟩, ⟨by rw [if_neg (by omega)]; exact K3.out⟩, M3⟩
        case measure => simp [intOf] <;> omega
      · obtain rfl : j = 8 := by omega
        have hnb := HNB.out
        rw [if_neg (by omega)] at hnb
        subst hnb
        have d7 : wr.cell? ⟨c, 7, none⟩ = some (.int .i64 0) := hk.cn.c 7
        have d22 : wr.cell? ⟨c, 22, none⟩ = some (.pointer (some ⟨wb, 0, none⟩)) := hk.cn.c 22
        have AT := at_wl hk.wl (x := 12) (wfI_of (by omega) (by omega))
        rw [tk_one (by omega)] at AT
        have AT := Keep.mk AT
        have SV := Keep.mk (starved_no hk.cn)
        have KK := Keep.mk hk
        clear hk
        go_wp2_with (first
          | (go_at_call 130
             go_loud (refine AT2.out.mono ?_; rintro e X ⟨cx2, rfl, -, hX⟩)
             rw [hX]
             clear hX)
          | (go_at_call 130
             go_loud (refine AT.out.mono ?_; rintro e X ⟨cx, rfl, -, hX⟩)
             rw [hX]
             clear hX)
          | (go_at_call 86
             go_loud (refine SV2.out.mono ?_; rintro e w3 ⟨rfl, n3, hw3⟩)
             have K3 := Keep.mk (K2.out.quiet (w1 := w3) (by rw [hw3]; exact below_dn w2 n3))
             have f22 : w3.cell? ⟨c, 22, none⟩ = some (.pointer (some ⟨wb, 0, none⟩)) := K3.out.cn.c 22
             have M3 : Keep (Fm w (w3.alloc (.cells #[.int .i64 12] 3)) wb wm S S') := ⟨(M2.out.trans (Fm.quiet (by rw [hw3]; exact below_dn w2 n3) _ _ _)).trans (Fm.alloc w3 _ wb wm S')⟩
             have C4 := Keep.mk (K3.out.quiet ((Below.refl _ w3).alloc (Nat.le_refl _) (.cells #[.int .i64 12] 3)))
             have cw := cancel_wl (c := 1) C4.out.wl C4.out.hs (by simp) (cells_one w3 12) (wfI_of (by omega) (by omega)) HN.out.1 (by have := HN.out.2.1; omega) (by simp)
             rw [drop_one (by omega)] at cw
             have CW := Keep.mk cw
             clear hw3 cw)
          | (go_at_call 86
             go_loud (refine SV.out.mono ?_; rintro e w2 ⟨rfl, n2, hw2⟩)
             have K2 := Keep.mk (KK.out.quiet (w1 := w2) (by rw [hw2]; exact below_dn wr n2))
             have SV2 := Keep.mk (starved_no K2.out.cn)
             have M2 : Keep (Fm w w2 wb wm S S') := ⟨HM.out.trans (Fm.quiet (by rw [hw2]; exact below_dn wr n2) _ _ _)⟩
             clear hw2)
          | (go_at_call 100
             go_loud (refine CW.out.mono ?_; rintro e w4 ⟨rfl, S4, wl4, fm4⟩)
             have K4 := Keep.mk (C4.out.wheel wl4 fm4)
             have M4 := Keep.mk (M3.out.trans fm4)
             have e7 : w4.cell? ⟨c, 7, none⟩ = some (.int .i64 0) := K4.out.cn.c 7
             have e22 : w4.cell? ⟨c, 22, none⟩ = some (.pointer (some ⟨wb, 0, none⟩)) := K4.out.cn.c 22
             have at2 := at_wl K4.out.wl (x := 11) (wfI_of (by omega) (by omega))
             rw [tk_one (by omega)] at at2
             have AT2 := Keep.mk at2
             clear wl4 fm4 at2)
          | fail)
        go_end0
        exact ⟨rfl, S4, K4.out, M4.out⟩
end
end Go.Proofs.YtcjanieeepcddaaGreatDoor
/-
  A connection that opens: settle.
-/
namespace Go.Proofs.YtcjanieeepcddaaGreatDoor
open Go.RowKit

section
variable {w0 w : World} {base wb wm nb : Nat} {S : Nat → Value} {now : Int} {L : List Due} {c sd st rv mp st2 lg fl pb q g0 c0 : Nat} {p1 p2 k : Int} {times state rcv tries at_ since : Int} {has twice : Bool}
theorem nd_four (h : [c, sd, rv, lg, fl].Nodup) : [c, rv, lg, fl].Nodup := by
  simp only [List.nodup_cons, List.mem_cons, List.not_mem_nil, or_false, not_or, not_false_eq_true, List.nodup_nil, and_true] at h ⊢
  omega
set_option maxRecDepth 100000 in
set_option maxHeartbeats 6400000 in
theorem settle_dial (tick s : Int) (n0 ov : Value) (gos : List Nat) (R : List Nat → Prop) (h : Cs w0 w base wb wm nb S now L c sd st rv mp st2 lg fl (conD p1 p2 k sd rv pb lg wb ov) (flC q times 1 rcv tries at_ true since twice n0)) (hn : 0 ≤ now) (hn2 : now < 1152921504606846976) (hL : ∀ d ∈ L, d.1 = 0) (hLl : L.length ≤ 10) (hat : at_ ≤ now + 4096) (hnb : nb < 9000)
    (hov : Outs w w0.heap.size p1 p2 k s ov gos) (hfree : ∀ kb, (ov.ownBlock = some kb ∨ kb ∈ gos) → ¬ Owns wb wm S kb)
    (hfl : ∀ w3 S3, Cs w0 w3 base wb wm nb S3 now L c sd st rv mp st2 lg fl (conD p1 p2 k sd rv pb lg wb ov) (flC q times 1 rcv tries at_ true since twice n0) → Fm w w3 wb wm S S3 → Calls Tryz.prog 77 #[.pointer (some ⟨c, 0, none⟩), .pointer (some ⟨lg, 0, none⟩), .slice none 0 0] w3 fun e w' => e = .returned (.tuple #[]) ∧ ∃ ov' gos', Flu w3 w' w0.heap.size c fl p1 p2 k s sd rv pb lg wb (flC q times 1 rcv tries at_ true since twice (.slice none 0 0)) ov ov' gos gos' ∧ R gos') :
    Calls Tryz.prog 30 #[.pointer (some ⟨c, 0, none⟩), .int .i64 tick] w fun e w' => e = .returned (.tuple #[]) ∧ ∃ S' ov' gos', Cs w0 w' base wb wm (nb + 1) S' now [(0, max at_ (now + 1))] c sd st rv mp st2 lg fl (conD p1 p2 k sd rv pb lg wb ov') (flC q times 1 rcv tries at_ true since twice (.slice none 0 0)) ∧
      Outs w' w0.heap.size p1 p2 k s ov' gos' ∧ R gos' ∧ (∀ kb, (ov'.ownBlock = some kb ∨ kb ∈ gos') → ¬ Owns wb wm S' kb) ∧ Fw w w' wb wm S S' (c :: fl :: ov.ownBlock.toList) := by
  have c9 : w.cell? ⟨c, 9, none⟩ = some (.pointer (some ⟨sd, 0, none⟩)) := h.cn.c 9
  have c10 : w.cell? ⟨c, 10, none⟩ = some (.pointer (some ⟨rv, 0, none⟩)) := h.cn.c 10
  have DN := Keep.mk (done_no w h.snd)
  have EN := Keep.mk (ended_no w h.rcv)
  have HC := Keep.mk h
  have HN : Keep (0 ≤ now ∧ now < 1152921504606846976 ∧ at_ ≤ now + 4096 ∧ nb < 9000 ∧ L.length ≤ 10) := ⟨hn, hn2, hat, hnb, hLl⟩
  have HL := Lib.hid hL
  have HOV := Keep.mk hov
  have HFR := Keep.mk hfree
  have HFL := Keep.mk hfl
  have HT8 : Keep (tk L 8 = none) := ⟨by
    cases e : tk L 8 with
    | none => rfl
    | some t => exact absurd (hL _ (tk_some e)) (by simp)⟩
  have HD8 : Keep (dropH 8 L = L) := ⟨dropH_all fun d hd => by rw [hL d hd]; omega⟩
  clear h hn hn2 hL hLl hat hnb hov hfree hfl
  go_enter Tryz.func30, Tryz.ntmps30
  go_wp2_with (first
    | (go_at_call 73
       go_loud (refine DN.out.mono ?_; rintro e X ⟨rfl, hX⟩)
       rw [hX]
       clear hX)
    | (go_at_call 74
       go_loud (refine EN.out.mono ?_; rintro e w1 ⟨rfl, n1, hw1⟩)
       have hb1 : Below w.heap.size w w1 := by rw [hw1]; exact below_dn w n1
       have C1 := Keep.mk (HC.out.quiet hb1)
       have M1 : Keep (Fm w w1 wb wm S S) := ⟨Fm.quiet hb1 _ _ _⟩
       have PI := Keep.mk (pump_init tick C1.out.cn)
       have TE := Keep.mk (tellend_init tick C1.out HN.out.1 (by have := HN.out.2.1; omega) (by have := HN.out.2.2.2.2; omega) HT8.out)
       clear hw1 hb1)
    | (go_at_call 75
       go_loud (refine PI.out.mono ?_; rintro e X ⟨rfl, hX⟩)
       rw [hX]
       clear hX)
    | (go_at_call 76
       go_loud (refine TE.out.mono ?_; rintro e w3 ⟨rfl, S3, c3, m3⟩)
       rw [HD8.out] at c3
       have C3 := Keep.mk c3
       have M3 := Keep.mk (M1.out.trans m3)
       have l0 : w3.cell? ⟨c, 12, none⟩ = some (.pointer (some ⟨lg, 0, none⟩)) := C3.out.cn.c 12
       have l1 : w3.cell? ⟨c, 13, none⟩ = some (.pointer none) := C3.out.cn.c 13
       have l2 : w3.cell? ⟨c, 14, none⟩ = some (.pointer none) := C3.out.cn.c 14
       have l3 : w3.cell? ⟨c, 15, none⟩ = some (.pointer none) := C3.out.cn.c 15
       have l4 : w3.cell? ⟨c, 16, none⟩ = some (.pointer none) := C3.out.cn.c 16
       have l5 : w3.cell? ⟨c, 17, none⟩ = some (.pointer none) := C3.out.cn.c 17
       have l6 : w3.cell? ⟨c, 18, none⟩ = some (.pointer none) := C3.out.cn.c 18
       have l7 : w3.cell? ⟨c, 19, none⟩ = some (.pointer none) := C3.out.cn.c 19
       clear c3 m3)
    | fail)
  clear c9 c10 l0 l1 l2 l3 l4 l5 l6 l7
  have OV3 : Keep (Outs w3 w0.heap.size p1 p2 k s ov gos) := ⟨HOV.out.fw M3.out.fw fun kb e => ⟨HFR.out kb e, by simp⟩⟩
  have FR3 : Keep (∀ kb, (ov.ownBlock = some kb ∨ kb ∈ gos) → ¬ Owns wb wm S3 kb) := ⟨fun kb e => M3.out.fw.free (HOV.out.lt' e) (HFR.out kb e)⟩
  have FL := Keep.mk (HFL.out w3 S3 C3.out M3.out)
  go_loopw [52] (fun i wr => (i = .int .i64 0 ∧ wr = w3) ∨ ∃ j : Nat, 0 < j ∧ j ≤ 8 ∧ i = .int .i64 j ∧ Keep (∃ ov' gos', Flu w3 wr w0.heap.size c fl p1 p2 k s sd rv pb lg wb (flC q times 1 rcv tries at_ true since twice (.slice none 0 0)) ov ov' gos gos' ∧ R gos')) (fun i _ => 8 - (intOf i).toNat)
  case atStart => exact .inl ⟨rfl, rfl⟩
  case round =>
    rcases hrel with ⟨rfl, rfl⟩ | ⟨j, hpos, hj, rfl, HP⟩
    · have ix := index_leg (legsA lg) 0 _ rfl (by omega) wr
      rw [show ((0 : Nat) : Int) = 0 from rfl] at ix
      go_wp2_with (first
        | (go_at_call 77
           go_loud (refine FL.out.mono ?_; rintro e w4 ⟨rfl, ov', gos', fl4⟩)
           have FL4 := Keep.mk fl4
           clear fl4)
        | fail)
      go_roundw
      case rel => exact .inr ⟨1, by omega, by omega, by go_num, ⟨ov', gos', FL4.out⟩⟩
      case measure => simp [intOf]
    · rcases Nat.lt_or_ge j 8 with hlt | hge
      · have ix := index_leg (legsA lg) j _ (legsA_nil hpos hlt) hlt wr
        have hji : ((j : Nat) : Int) < 8 := by omega
        have HPP := Keep.mk hpos
        clear hpos
        go_wp2_with fail
        go_roundw
        case rel => exact .inr ⟨j + 1, by omega, by omega, by go_num, HP⟩
        case measure => simp [intOf] <;> omega
      · obtain rfl : j = 8 := by omega
        obtain ⟨ov', gos', fl4, hR⟩ := HP.out
        have C4 := C3.out.own fl4.fz fl4.cn fl4.flw (fun x hx => by
          have hx : ov.ownBlock = some x := by simpa using hx
          refine ⟨(OV3.out.lt hx).1, FR3.out x (.inl hx), ?_⟩
          simp only [List.mem_cons, List.not_mem_nil, or_false, not_or]
          exact ⟨OV3.out.ne C3.out.snd (by decide) hx, OV3.out.ne C3.out.rcv (by decide) hx, OV3.out.ne C3.out.leg (by decide) hx⟩)
        have HR := Keep.mk hR
        have AL := Keep.mk (alone_one tick C4.cn C4.leg C4.flw)
        have AR := Keep.mk (arm_one tick C4 HN.out.1 HN.out.2.1 HL.out HN.out.2.2.2.2 HN.out.2.2.1 HN.out.2.2.2.1)
        have NG : Keep (∀ kb, (ov'.ownBlock = some kb ∨ kb ∈ gos') → ¬ Owns wb wm S3 kb) := ⟨fun kb e o => by
          have ho := C3.out.wl.lt o
          rcases e with e | e
          · rcases fl4.blk kb e with h1 | h1
            · exact FR3.out kb (.inl h1) o
            · omega
          · rcases fl4.old kb e with h1 | h1
            · exact FR3.out kb (.inr h1) o
            · omega⟩
        have K4 := Keep.mk fl4
        clear HP C4 fl4 FL hR
        go_wp2_with (first
          | (go_at_call 78
             go_loud (refine AL.out.mono ?_; rintro e X ⟨rfl, hX⟩)
             rw [hX]
             clear hX)
          | (go_at_call 79
             go_loud (refine AR.out.mono ?_; rintro e w5 ⟨rfl, S5, c5, m5⟩)
             have C5 := Keep.mk c5
             have M5 := Keep.mk m5
             clear c5 m5)
          | fail)
        go_end0
        refine ⟨rfl, S5, ov', gos', C5.out, K4.out.outs.fw M5.out.fw (fun kb e => ⟨NG.out kb e, by simp⟩), HR.out, fun kb e => M5.out.fw.free (K4.out.outs.lt' e) (NG.out kb e), ?_⟩
        exact ((M3.out.fw.trans (K4.out.fz.fw wb wm S3)).trans M5.out.fw).mono (by simp)
end
end Go.Proofs.YtcjanieeepcddaaGreatDoor
/-
  conn.Dial; Out, Over of what it makes; the example of the laws.
-/
namespace Go.Proofs.YtcjanieeepcddaaGreatDoor
open Go.RowKit

theorem One.ne_bk {w w' : World} {ty ty' : TypeId} {k g c b : Nat} {cs : List Value} {arr : Array Value} (h : One w w' ty k g c cs) (hb : Bk w' b arr ty') (hty : ty ≠ ty') : g ≠ b := by
  rintro rfl
  rcases h.own.2 with ⟨e, _⟩ | ⟨g', cap, cur, hv, _, h2, _⟩
  · injection e with e; cases e
  · have : g' = g := by injection hv with e _ _; injection e with e; injection e with e _ _; exact e.symm
    subst this
    rw [hb.eq] at h2
    injection h2 with h2
    injection h2 with _ h3 _
    exact hty h3.symm
theorem Bk.ne {w : World} {a b : Nat} {x y : Array Value} {ty ty' : TypeId} (h : Bk w a x ty) (h' : Bk w b y ty') (hs : x.size ≠ y.size) : a ≠ b := by
  rintro rfl
  have := h.eq.symm.trans h'.eq
  injection this with this
  injection this with this _ _
  exact hs (congrArg Array.size this)
/-- The state behind Dial's put. -/
theorem Cs.made {w w1 w6 : World} {p1 p2 k tick : Int} {c sd st rv mp st2 pb base wb wm lg fl : Nat} {carr farr : Array Value} {u : World} (bg : Beg u w1 p1 p2 k tick c sd st rv mp st2 pb base wb wm) (hu : w.heap.size ≤ u.heap.size) (hB : Below w.heap.size w w1) (F : Fz w1 w6 [c]) (hc : Bk w6 c carr 68) (hl : Bk w6 lg (legC fl) 61) (hf : Bk w6 fl farr 105) (l1 : w1.heap.size ≤ lg) (l2 : w1.heap.size ≤ fl) (l3 : lg ≠ fl) :
    Cs w w6 base wb wm 0 (fun _ => .slice none 0 0) tick [] c sd st rv mp st2 lg fl carr farr := by
  have hbs := bg.wl.lt (.inl rfl)
  have hbl := bg.wl.low (.inl rfl)
  have o := bg.off
  have n := bg.ne
  have lo := bg.low
  have csd := bg.cn.lt
  have c2 := bg.snd.lt
  have c3 := bg.rcv.lt
  have sr : sd ≠ rv := bg.snd.ne bg.rcv (by simp)
  refine ⟨bg.wl.same F.size fun x ho => F.block x (bg.wl.lt ho) ?_, hc, bg.snd.fz F (by simp; omega), bg.rcv.fz F (by simp; omega), hl, hf, ?_, ?_, hB.trans (F.toBelow hB.size (by simp; omega)), by omega, by have := F.size; omega, ?_⟩
  · simp only [List.mem_singleton]
    rintro rfl
    rcases ho with e | e | ⟨i, _, e⟩
    · exact o.1 e
    · exact o.2.1 e
    · cases e
  · intro x hx ho
    have y1 := bg.wl.lt ho
    have y2 := bg.wl.low ho
    simp only [List.mem_cons, List.not_mem_nil, or_false] at hx
    rcases hx with rfl | rfl | rfl | rfl | rfl
    · rcases ho with e | e | ⟨i, _, e⟩
      · exact o.1 e
      · exact o.2.1 e
      · cases e
    · omega
    · omega
    · omega
    · omega
  · simp only [List.nodup_cons, List.mem_cons, List.not_mem_nil, or_false, not_or, not_false_eq_true, List.nodup_nil, and_true]
    omega
  · intro x hx
    simp only [List.mem_cons, List.not_mem_nil, or_false] at hx
    have := hB.size
    rcases hx with rfl | rfl | rfl | rfl | rfl <;> omega
/-- What Dial leaves: the connection, one segment to be sent, the queue with its piece, the paths. -/
structure Dl (w w' : World) (base wb wm nb : Nat) (S : Nat → Value) (now : Int) (L : List Due) (c sd st rv mp st2 lg fl pb q g2 : Nat) (p1 p2 k s e0 : Int) (c2 : Nat) (ov : Value) (gos : List Nat) (farr : Array Value) : Prop where
  cs : Cs w w' base wb wm nb S now L c sd st rv mp st2 lg fl (conD p1 p2 k sd rv pb lg wb ov) farr
  outs : Outs w' w.heap.size p1 p2 k s ov gos
  free : ∀ kb, (ov.ownBlock = some kb ∨ kb ∈ gos) → ¬ Owns wb wm S kb
  que : Bk w' q #[.slice (some ⟨g2, 0, none⟩) 1 c2, .int .u32 e0] 163
  row : ∀ j u, (synP s).toList[j]? = some u → w'.cell? ⟨g2, j, none⟩ = some u
  rty : ∃ cur, Bk w' g2 cur 108
  pat : Bk w' pb pathC 153
  free2 : ∀ kb ∈ [q, g2, pb], w.heap.size ≤ kb ∧ ¬ Owns wb wm S kb
set_option maxRecDepth 100000 in
set_option maxHeartbeats 6400000 in
theorem dial_any (p1 p2 k tick : Int) (w : World) (a1 : 0 ≤ p1) (a2 : p1 ≤ 65535) (b1 : 0 ≤ p2) (b2 : p2 ≤ 65535) (t0 : 0 ≤ tick) (t1 : tick ≤ 1000000) :
    Calls Tryz.prog 6 #[.int .u64 k, .agg #[.int .i64 0, .int .i64 1, .int .i64 p1, .int .i64 p2], .int .i64 tick] w fun e w' => ∃ (base wb wm : Nat) (S : Nat → Value) (c sd st rv mp st2 lg fl pb q g2 : Nat) (s e0 : Int) (c2 : Nat) (ov : Value) (go : Nat), e = .returned (.tuple #[.pointer (some ⟨c, 0, none⟩), .int .i64 0]) ∧
      Dl w w' base wb wm 1 S tick [(0, tick + 4)] c sd st rv mp st2 lg fl pb q g2 p1 p2 k s e0 c2 ov [go] (flC q 0 1 0 0 (tick + 4) true tick false (.slice none 0 0)) := by
  have BA := Keep.mk (begin_any p1 p2 k tick tick (w.alloc (.cells #[.int .i64 0, .int .i64 1, .int .i64 p1, .int .i64 p2] 30)) a1 a2 b1 b2 (by omega))
  have E0 := Keep.mk (Bk.new w #[.int .i64 0, .int .i64 1, .int .i64 p1, .int .i64 p2] 30)
  have A0 := Keep.mk (Fz.alloc w (.cells #[.int .i64 0, .int .i64 1, .int .i64 p1, .int .i64 p2] 30))
  have HT : Keep (0 ≤ tick ∧ tick ≤ 1000000) := ⟨t0, t1⟩
  clear t0 t1 a1 a2 b1 b2
  go_enter Tryz.func6, Tryz.ntmps6
  go_wp2_with (first
    | (go_at_call 26
       go_loud (refine BA.out.mono ?_; rintro e w1 ⟨c, sd, st, rv, mp, st2, pb, base, wb, wm, rfl, bg⟩)
       have BF := Fz.below bg.below (Nat.le_refl _)
       have E1 := Keep.mk (E0.out.fz BF (by simp))
       have A1 : Keep (Fz w w1 []) := ⟨(A0.out.trans BF).mono (by simp)⟩
       have LW : Keep (w.heap.size ≠ c ∧ w.heap.size < base) := ⟨by have := bg.low; simp at this; omega, by have := bg.low; simp at this; omega⟩
       have BG := Keep.mk bg
       have FA := Keep.mk (fresh_any c k _ w1.drew (bg.cn.fz (Fz.drew w1 1) (by simp)) rfl rfl)
       clear bg BF)
    | fail)
  -- reg dial
  refine wp_region_noPanic ?_
  refine wp_region_held_drew (S := fun X => X.cell? ⟨w.heap.size, 0, none⟩ = some (.int .i64 0) ∧ X.cell? ⟨w.heap.size, 1, none⟩ = some (.int .i64 1)) (by kernel_rfl) ⟨E1.out.c 0, E1.out.c 1⟩ (fun hHeld => ?_)
  refine wpAnyH_take (i := 0) (v := ?_) rfl (by kernel_rfl) (by kernel_rfl) (by kernel_rfl) (fun _ _ _ h => h) (Or.inl ⟨by rfl, ?_⟩) (by assumption) ?_
  rotate_left
  · intro w hSw; go_simp; (try with_reducible rfl)
  try simp only [Act.put, List.setIfInBounds_toArray, List.set_cons_zero, List.set_cons_succ, List.getElem_toArray, List.getElem_cons_zero, List.getElem_cons_succ]
  refine wpAnyH_take (i := 1) (v := ?_) rfl (by kernel_rfl) (by kernel_rfl) (by kernel_rfl) (fun _ _ _ h => h) (Or.inl ⟨by rfl, ?_⟩) (by assumption) ?_
  rotate_left
  · intro w hSw; go_simp; (try with_reducible rfl)
  try simp only [Act.put, List.setIfInBounds_toArray, List.set_cons_zero, List.set_cons_succ, List.getElem_toArray, List.getElem_cons_zero, List.getElem_cons_succ]
  refine wpAnyH_take (i := 3) (v := ?_) rfl (by kernel_rfl) (by kernel_rfl) (by kernel_rfl) (fun _ _ _ h => h) (Or.inl ⟨by rfl, ?_⟩) (by assumption) ?_
  rotate_left
  · intro w hSw; go_simp; (try with_reducible rfl)
  try simp only [Act.put, List.setIfInBounds_toArray, List.set_cons_zero, List.set_cons_succ, List.getElem_toArray, List.getElem_cons_zero, List.getElem_cons_succ]
  refine wpAnyH_take (i := 5) (v := ?_) rfl (by kernel_rfl) (by kernel_rfl) (by kernel_rfl) (fun _ _ _ h => h) (Or.inl ⟨by rfl, ?_⟩) (by assumption) ?_
  rotate_left
  · intro w hSw; go_simp; (try with_reducible rfl)
  try simp only [Act.put, List.setIfInBounds_toArray, List.set_cons_zero, List.set_cons_succ, List.getElem_toArray, List.getElem_cons_zero, List.getElem_cons_succ]
  refine wpAnyH_take (i := 6) (v := ?_) rfl (by kernel_rfl) (by kernel_rfl) (by kernel_rfl) (fun _ _ _ h => h) (Or.inl ⟨by rfl, ?_⟩) (by assumption) ?_
  rotate_left
  · intro w hSw; go_simp; (try with_reducible rfl)
  try simp only [Act.put, List.setIfInBounds_toArray, List.set_cons_zero, List.set_cons_succ, List.getElem_toArray, List.getElem_cons_zero, List.getElem_cons_succ]
  refine wpAnyH_take (i := 7) (v := ?_) rfl (by kernel_rfl) (by kernel_rfl) (by kernel_rfl) (fun _ _ _ h => h) (Or.inl ⟨by rfl, ?_⟩) (by assumption) ?_
  rotate_left
  · intro w hSw; go_simp; (try with_reducible rfl)
  try simp only [Act.put, List.setIfInBounds_toArray, List.set_cons_zero, List.set_cons_succ, List.getElem_toArray, List.getElem_cons_zero, List.getElem_cons_succ]
  refine wpAnyH_take (i := 8) (v := ?_) rfl (by kernel_rfl) (by kernel_rfl) (by kernel_rfl) (fun _ _ _ h => h) (Or.inl ⟨by rfl, ?_⟩) (by assumption) ?_
  rotate_left
  · intro w hSw; go_simp; (try with_reducible rfl)
  try simp only [Act.put, List.setIfInBounds_toArray, List.set_cons_zero, List.set_cons_succ, List.getElem_toArray, List.getElem_cons_zero, List.getElem_cons_succ]
  refine wpAnyH_ready (rs := [2]) (by kernel_rfl) (by simp) ?_
  refine AllReadyH.cons rfl (fun K hK => ?_) AllReadyH.nil
  go_simp
  refine FA.out.mono ?_
  rintro e w3 ⟨s, rfl, cn3, e3⟩
  have X3 := (Fz.drew w1 1).trans e3
  have E3 := Keep.mk (E1.out.fz X3 (by simp; exact LW.out.1))
  have CN3 := Keep.mk cn3
  have F3 : Keep (Fz w1 w3 [c]) := ⟨X3.mono (by simp)⟩
  have FD := Keep.mk (fdial_syn s tick w3 (by have := HT.out; omega) (by have := HT.out; omega))
  clear cn3 e3 X3
  refine hK.out _ _ ?_ (fun hHeld => ?_)
  · first | exact ⟨E1.out.c 0, E1.out.c 1⟩ | exact ⟨E3.out.c 0, E3.out.c 1⟩ | exact ⟨E4.out.c 0, E4.out.c 1⟩ | exact ⟨(E4.out.fz (Fz.alloc w4 (.cells (legC (w3.heap.size + 1)) 61)) (by simp)).c 0, (E4.out.fz (Fz.alloc w4 (.cells (legC (w3.heap.size + 1)) 61)) (by simp)).c 1⟩ | exact ⟨E6.out.c 0, E6.out.c 1⟩
  clear hK K
  try simp only [Act.put, List.setIfInBounds_toArray, List.set_cons_zero, List.set_cons_succ, List.getElem_toArray, List.getElem_cons_zero, List.getElem_cons_succ]
  refine wpAnyH_ready (rs := [4]) (by kernel_rfl) (by simp) ?_
  refine AllReadyH.cons rfl (fun K hK => ?_) AllReadyH.nil
  go_simp
  refine FD.out.mono ?_
  rintro e w4 ⟨rfl, g0, c0, g2, c2, o2, o1, f4, q4, b4⟩
  have X4 := Fz.below b4 (Nat.le_refl _)
  have E4 := Keep.mk (E3.out.fz X4 (by simp))
  have CN4 := CN3.out.fz X4 (by simp)
  have F4 : Keep (Fz w1 w4 [c]) := ⟨(F3.out.trans X4).mono (by simp)⟩
  have FW4 := Keep.mk f4
  have O4 := Keep.mk o1
  have Q4 := Keep.mk q4
  have G4 := Keep.mk o2
  have PU := Keep.mk (put_first c w4.heap.size _ (w4.alloc (.cells (legC (w3.heap.size + 1)) 61)) (CN4.fz (Fz.alloc _ _) (by simp)) rfl (fun i hi => by rcases (by omega : i = 0 ∨ i = 1 ∨ i = 2 ∨ i = 3 ∨ i = 4 ∨ i = 5 ∨ i = 6 ∨ i = 7) with rfl | rfl | rfl | rfl | rfl | rfl | rfl | rfl <;> rfl))
  clear o2 o1 f4 q4 b4 X4 CN4
  refine hK.out _ _ ?_ (fun hHeld => ?_)
  · first | exact ⟨E1.out.c 0, E1.out.c 1⟩ | exact ⟨E3.out.c 0, E3.out.c 1⟩ | exact ⟨E4.out.c 0, E4.out.c 1⟩ | exact ⟨(E4.out.fz (Fz.alloc w4 (.cells (legC (w3.heap.size + 1)) 61)) (by simp)).c 0, (E4.out.fz (Fz.alloc w4 (.cells (legC (w3.heap.size + 1)) 61)) (by simp)).c 1⟩ | exact ⟨E6.out.c 0, E6.out.c 1⟩
  clear hK K
  try simp only [Act.put, List.setIfInBounds_toArray, List.set_cons_zero, List.set_cons_succ, List.getElem_toArray, List.getElem_cons_zero, List.getElem_cons_succ]
  refine wpAnyH_take (i := 9) (v := ?_) rfl (by kernel_rfl) (by kernel_rfl) (by kernel_rfl) (fun _ _ _ h => h) (Or.inl ⟨by rfl, ?_⟩) (by assumption) ?_
  rotate_left
  · intro w hSw; go_simp; (try with_reducible rfl)
  try simp only [Act.put, List.setIfInBounds_toArray, List.set_cons_zero, List.set_cons_succ, List.getElem_toArray, List.getElem_cons_zero, List.getElem_cons_succ]
  refine wpAnyH_ready (rs := [10]) (by kernel_rfl) (by simp) ?_
  refine AllReadyH.cons rfl (fun K hK => ?_) AllReadyH.nil
  go_simp
  refine hK.out _ _ ?_ (fun hHeld => ?_)
  · first | exact ⟨E1.out.c 0, E1.out.c 1⟩ | exact ⟨E3.out.c 0, E3.out.c 1⟩ | exact ⟨E4.out.c 0, E4.out.c 1⟩ | exact ⟨(E4.out.fz (Fz.alloc w4 (.cells (legC (w3.heap.size + 1)) 61)) (by simp)).c 0, (E4.out.fz (Fz.alloc w4 (.cells (legC (w3.heap.size + 1)) 61)) (by simp)).c 1⟩ | exact ⟨E6.out.c 0, E6.out.c 1⟩
  clear hK K
  try simp only [Act.put, List.setIfInBounds_toArray, List.set_cons_zero, List.set_cons_succ, List.getElem_toArray, List.getElem_cons_zero, List.getElem_cons_succ]
  refine wpAnyH_ready (rs := [11]) (by kernel_rfl) (by simp) ?_
  refine AllReadyH.cons rfl (fun K hK => ?_) AllReadyH.nil
  go_simp
  refine PU.out.mono ?_
  rintro e w6 ⟨rfl, cn6, e6⟩
  have X6 := (Fz.alloc w4 (.cells (legC (w3.heap.size + 1)) 61)).trans e6
  have E6 := Keep.mk (E4.out.fz X6 (by simp; exact LW.out.1))
  have F6 : Keep (Fz w1 w6 [c]) := ⟨(F4.out.trans X6).mono (by simp)⟩
  have z3 := F3.out.size
  have z1 := BG.out.cn.lt
  have z4 := FW4.out.lt
  have LG6 : Bk w6 w4.heap.size (legC (w3.heap.size + 1)) 61 := (Bk.new w4 _ _).fz e6 (by simp; omega)
  have FW6 := FW4.out.fz X6 (by simp; omega)
  have CS6 := Keep.mk (Cs.made BG.out (by simp) (A1.out.toBelow (Nat.le_refl _) (by simp)) F6.out cn6 LG6 FW6 (by have := F4.out.size; omega) (by omega) (by omega))
  have GO6 : Keep (¬ Owns wb wm (fun _ => Value.slice none 0 0) g0 ∧ g0 < w6.heap.size ∧ g0 ≠ w3.heap.size + 1 ∧ ∀ j u, (synO s)[j]? = some u → w6.cell? ⟨g0, j, none⟩ = some u) := ⟨fun o => by have := BG.out.wl.lt o; have := O4.out.low; omega, Nat.lt_of_lt_of_le O4.out.lt X6.size, O4.out.ne_bk FW4.out (by decide), fun j u hu => (World.cell?_of_block (X6.block g0 O4.out.lt (by have := O4.out.low; simp; omega))).trans (O4.out.cell j u hu)⟩
  have z5 := BG.out.low
  have z6 := BG.out.off
  have z7 := BG.out.pth.lt
  have z8 := F3.out.size
  have z9 := F6.out.size
  simp at z5
  have Q6 : Keep (Bk w6 w3.heap.size #[.slice (some ⟨g2, 0, none⟩) 1 c2, .int .u32 (IntKind.u32.wrap (s + IntKind.u32.wrap 1))] 163) := ⟨Q4.out.fz X6 (by simp; omega)⟩
  have G6 : Keep (One w3 w6 108 6 g2 c2 (synP s).toList) := ⟨G4.out.fz X6 (by have := G4.out.low; simp; omega)⟩
  have P6 : Keep (Bk w6 pb pathC 153) := ⟨BG.out.pth.fz F6.out (by simp; have := BG.out.ne; omega)⟩
  have FR6 : Keep (∀ kb ∈ [w3.heap.size, g2, pb], w.heap.size ≤ kb ∧ kb < w6.heap.size ∧ ¬ Owns wb wm (fun _ => Value.slice none 0 0) kb ∧ kb ≠ c ∧ kb ≠ w3.heap.size + 1) := ⟨fun kb hk => by
    have ho : Owns wb wm (fun _ => Value.slice none 0 0) kb → base ≤ kb ∧ kb < w1.heap.size := fun o => ⟨BG.out.wl.low o, BG.out.wl.lt o⟩
    have := G6.out.low
    have := G6.out.lt
    have := Q6.out.lt
    have := BG.out.ne
    have := G4.out.ne_bk FW4.out (by decide)
    simp only [List.mem_cons, List.not_mem_nil, or_false] at hk
    rcases hk with rfl | rfl | rfl
    · exact ⟨by omega, by omega, fun o => by have := ho o; omega, by omega, by omega⟩
    · exact ⟨by omega, by omega, fun o => by have := ho o; omega, by omega, by omega⟩
    · exact ⟨by omega, by omega, fun o => by have := ho o; omega, by omega, by omega⟩⟩
  clear cn6 e6 X6 z3 z1 z4 z5 z6 z7 z8 z9 LG6 FW6
  refine hK.out _ _ ?_ (fun hHeld => ?_)
  · first | exact ⟨E1.out.c 0, E1.out.c 1⟩ | exact ⟨E3.out.c 0, E3.out.c 1⟩ | exact ⟨E4.out.c 0, E4.out.c 1⟩ | exact ⟨(E4.out.fz (Fz.alloc w4 (.cells (legC (w3.heap.size + 1)) 61)) (by simp)).c 0, (E4.out.fz (Fz.alloc w4 (.cells (legC (w3.heap.size + 1)) 61)) (by simp)).c 1⟩ | exact ⟨E6.out.c 0, E6.out.c 1⟩
  clear hK K
  try simp only [Act.put, List.setIfInBounds_toArray, List.set_cons_zero, List.set_cons_succ, List.getElem_toArray, List.getElem_cons_zero, List.getElem_cons_succ]
  refine wpAnyH_done (by kernel_rfl) ?_ _
  refine NoPanic.normal ?_
  have SD := Keep.mk (settle_dial tick s _ (.slice none 0 0) [] (fun gos => ∃ go, gos = [go]) CS6.out HT.out.1 (by have := HT.out; omega) (by simp) (by simp) (by omega) (by omega) (Outs.nil _ _ _ _ _ _) (by rintro kb (e | e) <;> cases e) (fun w8 S8 c8 m8 => by
    have G8 := m8.other GO6.out.2.1 GO6.out.1
    refine (flush_syn s c8.cn c8.leg c8.rcv c8.flw (Nat.lt_of_lt_of_le GO6.out.2.1 m8.size) (fun j u hu => (World.cell?_of_block G8).trans (GO6.out.2.2.2 j u hu)) (nd_four c8.nd) GO6.out.2.2.1 (Outs.nil _ _ _ _ _ _) (Nat.le_trans c8.hb c8.hs) (by simp)).mono ?_
    rintro e w9 ⟨rfl, ov', go, hf⟩
    exact ⟨rfl, ov', [go], hf, go, rfl⟩))
  go_wp2_with (first
    | (go_at_call 30
       go_loud (refine SD.out.mono ?_; rintro e w7 ⟨rfl, S7, ov, gos, c7, o7, ⟨go, rfl⟩, f7, x7⟩)
       rw [show max (tick + 4) (tick + 1) = tick + 4 by omega] at c7
       have C7 := Keep.mk c7
       have O7 := Keep.mk o7
       have FR7 := Keep.mk f7
       have X7 := Keep.mk x7
       clear c7 o7 f7 x7)
    | fail)
  have BL : ∀ kb ∈ [w3.heap.size, g2, pb], w7.heap[kb]? = w6.heap[kb]? := fun kb hk => X7.out.block kb (FR6.out kb hk).2.1 (FR6.out kb hk).2.2.1 (by have := FR6.out kb hk; simp [Value.ownBlock]; omega)
  obtain ⟨_, cur, hcur⟩ := own_ty G6.out.own (g := g2) rfl
  refine bodyPost_ret (results_tmp2 rfl _ _ _) rfl ⟨base, wb, wm, S7, c, sd, st, rv, mp, st2, w4.heap.size, w3.heap.size + 1, pb, w3.heap.size, g2, s, _, c2, ov, go, rfl, ⟨C7.out, O7.out, FR7.out, ⟨(BL _ (by simp)).trans Q6.out.eq⟩, fun j u hu => (World.cell?_of_block (BL g2 (by simp))).trans (G6.out.cell j u hu), ⟨cur, ⟨(BL g2 (by simp)).trans hcur.eq⟩⟩, ⟨(BL pb (by simp)).trans P6.out.eq⟩, fun kb hk => ⟨(FR6.out kb hk).1, X7.out.free (FR6.out kb hk).2.1 (FR6.out kb hk).2.2.1⟩⟩⟩
  -- end reg
end Go.Proofs.YtcjanieeepcddaaGreatDoor
/-
  The example of the laws of connections.
-/
namespace Go.Proofs.YtcjanieeepcddaaGreatDoor
open Go.RowKit

section
variable {w : World} {c sd rv pb lg wb fl q : Nat} {p1 p2 k : Int} {out : Value}
set_option maxRecDepth 100000 in
theorem cout_any (h : Bk w c (conD p1 p2 k sd rv pb lg wb out) 68) (A : Option Addr) (n cc : Nat) (hv : out = .slice A n cc) :
    Calls Tryz.prog 7 #[.pointer (some ⟨c, 0, none⟩)] w fun e w' => e = .returned (.slice A n cc) ∧ Bk w' c (conD p1 p2 k sd rv pb lg wb (.slice none 0 0)) 68 ∧ Fz w w' [c] := by
  subst hv
  have c29 : w.cell? ⟨c, 29, none⟩ = some (.slice A n cc) := h.c 29
  have f29 := h.free 29
  have HB := Keep.mk h
  clear h
  go_enter Tryz.func7, Tryz.ntmps7
  go_wp2_with fail
  go_ret
  exact ⟨rfl, HB.out.set 29 _, Fz.set _ c 29 _⟩
set_option maxRecDepth 100000 in
theorem over_init (h : Bk w c (conD p1 p2 k sd rv pb lg wb out) 68) : Calls Tryz.prog 10 #[.pointer (some ⟨c, 0, none⟩)] w fun e w' => e = .returned (.bool false) ∧ w' = w := by
  have c7 : w.cell? ⟨c, 7, none⟩ = some (.int .i64 0) := h.c 7
  clear h
  go_enter Tryz.func10, Tryz.ntmps10
  go_wp2_with fail
  go_ret
  exact ⟨by first | rfl | simp, rfl⟩
end
set_option maxRecDepth 100000 in
set_option maxHeartbeats 3200000 in
theorem cwakes_any (w : World) : Calls Tryz.prog 5 #[] w fun e w' => e = .returned (.bool true) ∧ Below w.heap.size w w' := by
  go_enter Tryz.func5, Tryz.ntmps5
  go_wp2_with (first
    | (go_at_call 6
       go_loud (refine (dial_any 5 80 7 0 w (by omega) (by omega) (by omega) (by omega) (by omega) (by omega)).mono ?_; rintro e w1 ⟨base, wb, wm, S, c, sd, st, rv, mp, st2, lg, fl, pb, q, g2, s, e0, c2, ov, go, rfl, dl⟩)
       obtain ⟨g, cc, rfl, hgl, hgs, hrow⟩ := dl.outs.one
       have N1 : Keep (g ≠ c ∧ go ≠ c) := ⟨dl.outs.ne dl.cs.cn (by decide) rfl, (dl.outs.opt go (by simp)).ne_ty dl.cs.cn (by decide)⟩
       have CO := Keep.mk (cout_any dl.cs.cn _ _ _ rfl)
       have CS := Keep.mk dl.cs
       have R1 := Lib.hid hrow
       have O1 := Keep.mk (dl.outs.opt go (by simp))
       have HGL := Keep.mk hgs
       clear dl hgl hgs hrow)
    | (go_at_call 7
       go_loud (refine CO.out.mono ?_; rintro e w2 ⟨rfl, c2', e2⟩)
       have g6 : w2.cell? ⟨g, 6, none⟩ = some (.bool true) := (World.cell?_of_block (e2.block g HGL.out (by simp; exact N1.out.1))).trans (R1.out 6 _ rfl)
       have g11 : w2.cell? ⟨g, 11, none⟩ = some (.slice (some ⟨go, 0, none⟩) 1 1) := (World.cell?_of_block (e2.block g HGL.out (by simp; exact N1.out.1))).trans (R1.out 11 _ rfl)
       have o1 : w2.cell? ⟨go, 1, none⟩ = some (.int .u64 7) := (O1.out.fz e2 (by simp; exact N1.out.2)).c 1
       have OV := Keep.mk (over_init c2')
       have BE : Keep (Below w.heap.size w w2) := ⟨CS.out.below.trans (e2.toBelow CS.out.below.size (by simp; exact CS.out.lo c (by simp)))⟩
       clear c2' e2)
    | (go_at_call 10
       go_loud (refine OV.out.mono ?_; rintro e X ⟨rfl, hX⟩)
       rw [hX]
       clear hX)
    | fail)
  go_ret
  exact ⟨by first | rfl | simp, BE.out⟩
end Go.Proofs.YtcjanieeepcddaaGreatDoor
