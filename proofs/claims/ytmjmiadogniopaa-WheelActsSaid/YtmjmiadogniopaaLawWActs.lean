/-
  The walk of the law WheelActs.
-/
import Derived.Deep.RegionHeld3
import Derived.Deep.CutBlock
import Derived.BigQuiet
import Derived.Test.YtmjmiadogniopaaWhAct
namespace Go.Proofs.Ytmjmiadogniopaa
open Go.RowKit

/-- What a round needs of the list: few timers, of handles that are held. -/
structure Few (k : Nat) (L : List Due) : Prop where
  len : L.length ≤ k
  wf : ∀ d ∈ L, -1125899906842624 ≤ d.1 ∧ d.1 ≤ 1125899906842624
theorem Few.arm {k : Nat} {L : List Due} (h : Few k L) {x t : Int} (h1 : -1125899906842624 ≤ x) (h2 : x ≤ 1125899906842624) : Few (k + 1) (dropH x L ++ [(x, t)]) where
  len := by
    have a := List.length_filter_le (fun d : Due => decide (d.1 ≠ x)) L
    have b := h.len
    rw [List.length_append, List.length_singleton]
    unfold dropH
    omega
  wf := fun d hd => by
    rcases List.mem_append.1 hd with e | e
    · exact h.wf d (List.mem_filter.1 e).1
    · obtain rfl : d = (x, t) := by simpa using e
      exact ⟨h1, h2⟩
theorem Few.filter {k : Nat} {L : List Due} (h : Few k L) (p : Due → Bool) : Few (k + 1) (L.filter p) :=
  ⟨by have := List.length_filter_le p L; have := h.len; omega, fun d hd => h.wf d (List.mem_filter.1 hd).1⟩
theorem Few.up {k : Nat} {L : List Due} (h : Few k L) : Few (k + 1) L := ⟨by have := h.len; omega, h.wf⟩
theorem Few.wfI {k : Nat} {L : List Due} (h : Few k L) : ∀ d ∈ L, wfI d.1 := fun d hd => by
  have := h.wf d hd
  exact wfI_of (by omega) (by omega)

set_option maxRecDepth 100000 in
set_option maxHeartbeats 6400000 in
theorem wheelActs_walk (tick : Int) (A : Option Addr) (nA cA : Nat) (l : List Ac) (w : World) (ha : Arg w 3 actC A nA cA l) (hl : ∀ z ∈ l, wfAc z) :
    Calls Try.prog 6 #[.int .i64 tick, .slice A nA cA] w fun e w' => e = .returned (.bool true) ∧ Below w.heap.size w w' := by
  have HA := Lib.hid ha
  have HL := Lib.hid hl
  have hla := ha.hlen
  have hca := ha.hcap
  clear ha hl
  subst hla
  by_cases h80 : 80 < l.length
  · have h80' : (80 : Int) < (l.length : Int) := by omega
    go_enter Try.func6, Try.ntmps6
    go_wp2_with (first
      | (go_at_call 8; refine (wakes_any _).mono ?_; rintro e w1 ⟨rfl, hb1⟩; have HB1 := Keep.mk hb1; clear hb1)
      | fail)
    go_ret
    exact ⟨rfl, HB1.out⟩
  have h80' : ¬ (80 : Int) < (l.length : Int) := by omega
  obtain ⟨n0, hn0⟩ : ∃ n0, min (max tick 0) 1099511627776 = n0 := ⟨_, rfl⟩
  have HN0 : Keep (0 ≤ n0 ∧ n0 ≤ 1099511627776 ∧ min (max tick 0) 1099511627776 = n0) := ⟨by omega, by omega, hn0⟩
  clear hn0
  go_enter Try.func6, Try.ntmps6
  go_wp2_with (first
    | (go_at_call 8; refine (wakes_any _).mono ?_; rintro e w1 ⟨rfl, hb1⟩; have HB1 := Keep.mk hb1; clear hb1)
    | (go_at_call 9
       go_loud (refine (new_wl tick w1).mono ?_; rintro e w2 ⟨rfl, h2, b2⟩)
       rw [HN0.out.2.2] at h2
       have H2 := Keep.mk h2
       have B2 := Keep.mk b2
       clear h2 b2)
    | (go_at_call 15
       go_loud (refine (rnew_any tick w2).mono ?_; rintro e w3 ⟨rfl, h3, b3⟩)
       rw [HN0.out.2.2] at h3
       have T3 := Keep.mk (Act2.made (w := w) H2.out h3 b3 (HB1.out.trans (B2.out.mono HB1.out.size)) HB1.out.size B2.out.size (Nat.le_refl _) rfl B2.out.size)
       clear h3 b3)
    | fail)
  obtain ⟨b, hb⟩ : ∃ b, w1.heap.size + 1 = b := ⟨_, rfl⟩
  obtain ⟨m, hm⟩ : ∃ m, w1.heap.size = m := ⟨_, rfl⟩
  obtain ⟨rb, hrb⟩ : ∃ rb, w2.heap.size = rb := ⟨_, rfl⟩
  rw [hb, hm, hrb] at T3
  rw [hb, hrb]
  clear hb hm hrb HB1 H2 B2
  go_loopg [28] (l.length) (fun gg i wr => ∃ (k nb : Nat) (S : Nat → Value) (v : Value) (n : Int) (L : List Due), k ≤ l.length ∧ l.length - k ≤ gg ∧ i = .int .i64 k ∧ Keep (0 ≤ n ∧ n ≤ 1099511627776 + 10000 * (k : Int)) ∧ nb ≤ k ∧ Keep (Act2 w wr m b m nb rb S v n L n L) ∧ Keep (Few k L))
  case atStart => exact ⟨0, 0, _, _, n0, [], by omega, by omega, rfl, ⟨HN0.out.1, by have := HN0.out.2.1; omega⟩, by omega, T3, ⟨by simp, by simp⟩⟩
  case round =>
    obtain ⟨k, nb, S, v, n, L, hk, hgg, rfl, HNN, hnb, HT, HFW⟩ := hrel
    by_cases hlt : k < l.length
    · obtain ⟨wo, hwo⟩ : ∃ wo : World, wo = wr := ⟨_, rfl⟩
      subst hwo
      obtain ⟨ga, oa, hA, hgl, hcs⟩ := HA.out.rd (List.ne_nil_of_length_pos (by omega))
      obtain ⟨⟨ak, ah, an⟩, hx⟩ : ∃ x, l[k] = x := ⟨_, rfl⟩
      have hlx : l[k]? = some (ak, ah, an) := by rw [List.getElem?_eq_getElem hlt, hx]
      have hwf := HL.out _ (List.mem_of_getElem? hlx)
      have p0 : wo.cell? ⟨ga, oa + k * 3, none⟩ = some (.int .i64 ak) := (HT.out.below.cell (p := ⟨ga, _, none⟩) hgl).trans (hcs k _ hlx 0 _ rfl)
      have p1 : wo.cell? ⟨ga, oa + k * 3 + 1, none⟩ = some (.int .i64 ah) := (HT.out.below.cell (p := ⟨ga, _, none⟩) hgl).trans (hcs k _ hlx 1 _ rfl)
      have p2 : wo.cell? ⟨ga, oa + k * 3 + 2, none⟩ = some (.int .i64 an) := (HT.out.below.cell (p := ⟨ga, _, none⟩) hgl).trans (hcs k _ hlx 2 _ rfl)
      subst hA
      have hki : ((k : Nat) : Int) < (l.length : Int) := by omega
      have HWF := Keep.mk hwf
      have HKL := Keep.mk hlt
      obtain ⟨hh, hhh⟩ : ∃ hh, min (max ah (-1125899906842624)) 1125899906842624 = hh := ⟨_, rfl⟩
      obtain ⟨nn, hnn⟩ : ∃ nn, min (max an (-1125899906842624)) 1125899906842624 = nn := ⟨_, rfl⟩
      have HHB : Keep (-1125899906842624 ≤ hh ∧ hh ≤ 1125899906842624) := ⟨by omega, by omega⟩
      have HNB : Keep (-1125899906842624 ≤ nn ∧ nn ≤ 1125899906842624) := ⟨by omega, by omega⟩
      have NH : Keep (∀ w, Calls Try.prog 16 #[.int .i64 ah] w fun e w' => e = .returned (.int .i64 hh) ∧ w' = w) := ⟨fun w => hhh ▸ near_any ah w⟩
      have NNR : Keep (∀ w, Calls Try.prog 16 #[.int .i64 an] w fun e w' => e = .returned (.int .i64 nn) ∧ w' = w) := ⟨fun w => hnn ▸ near_any an w⟩
      obtain ⟨W, hW⟩ : ∃ W, wo.alloc (.cells #[.int .i64 ak, .int .i64 ah, .int .i64 an] 44) = W := ⟨_, rfl⟩
      have hWb : Below wo.heap.size wo W := hW ▸ (Below.refl _ wo).alloc (Nat.le_refl _) _
      have e0 : W.cell? ⟨wo.heap.size, 0, none⟩ = some (.int .i64 ak) := by rw [← hW, World.cell?_alloc_new]; rfl
      have e1 : W.cell? ⟨wo.heap.size, 1, none⟩ = some (.int .i64 ah) := by rw [← hW, World.cell?_alloc_new]; rfl
      have e2 : W.cell? ⟨wo.heap.size, 2, none⟩ = some (.int .i64 an) := by rw [← hW, World.cell?_alloc_new]; rfl
      have HSZ : Keep (wo.heap.size < W.heap.size) := ⟨by rw [← hW]; simp⟩
      have HTW := Keep.mk (HT.out.quiet hWb)
      have HGN : Keep (¬ Owns b m S wo.heap.size) := ⟨fun ho => by have := HT.out.h.lt ho; omega⟩
      have HGR : Keep (wo.heap.size ≠ rb) := ⟨by have := HT.out.r.lt; omega⟩
      clear hcs hgl hx hlx hwf hhh hnn hWb
      go_upto_block 2 with (first
        | (go_at_call 16
           go_loud (refine (NH.out _).mono ?_; rintro e X ⟨rfl, hX⟩)
           rw [hX]
           clear hX)
        | fail)
      try rw [hW]
      clear hW p0 p1 p2 e0 e1
      have WH : Keep (wfI hh) := ⟨wfI_of (by have := HHB.out; omega) (by have := HHB.out; omega)⟩
      have H80 : Keep (k < 80 ∧ nb < 80) := ⟨by have := HKL.out; omega, by have := HKL.out; omega⟩
      have HNN2 : Keep (0 ≤ n ∧ n < 2305843009213693952) := ⟨HNN.out.1, by have := HNN.out.2; have := H80.out; omega⟩
      have HNB2 := Keep.mk hnb
      have T0 : Keep (Act2 w W.drew m b m nb rb S v n L n L) := ⟨HTW.out.drew 1⟩
      have ca : W.drew.cell? ⟨wo.heap.size, 2, none⟩ = some (.int .i64 an) := e2
      have cr : W.drew.cell? ⟨rb, 0, none⟩ = some (.int .i64 n) := T0.out.r.tickC
      have NW := Keep.mk (now_wl T0.out.h)
      have qn : IntKind.i64.wrap (n + nn) = n + nn := IntWalk.i64_in _ (by have := HNN2.out; have := HNB.out; omega)
      have HRB : Keep (rb < W.drew.heap.size) := ⟨T0.out.r.lt⟩
      go_cut [] from 37 to 105 (fun wx => ∃ (nb6 : Nat) (S6 : Nat → Value) (v6 : Value) (n6 : Int) (L6 : List Due), nb6 ≤ k + 1 ∧ Keep (0 ≤ n6 ∧ n6 ≤ 1099511627776 + 10000 * ((k + 1 : Nat) : Int)) ∧ Keep (Act2 w wx m b m nb6 rb S6 v6 n6 L6 n6 L6) ∧ Keep (Few (k + 1) L6))
      case first =>
        by_cases k0 : ak = 0
        · subst k0
          by_cases hok : n < n + nn ∧ n + nn ≤ n + 4096
          · have AW := Keep.mk (arm_wl T0.out.h T0.out.hs (x := hh) (t := n + nn) WH.out HNN2.out.1 HNN2.out.2 hok.1 hok.2 (by have := HFW.out.len; have := H80.out; omega) (by have := H80.out; omega))
            have HOK := Keep.mk hok
            clear hok
            go_upto_region 12 with fail
            go_region_held3 (fun X => X.cell? ⟨wo.heap.size, 2, none⟩ = some (.int .i64 an) ∧ X.cell? ⟨rb, 0, none⟩ = some (.int .i64 n))
              (first | exact ⟨ca, cr⟩ | exact K5.out | exact K6.out)
              (first
                | (go_at_call 17
                   refine RA.out.mono ?_
                   rintro e w6 ⟨rfl, v6, r6, f6⟩
                   have T6 := Keep.mk (T5.out.ref r6 f6)
                   have K6 : Keep (w6.cell? ⟨wo.heap.size, 2, none⟩ = some (.int .i64 an) ∧ w6.cell? ⟨rb, 0, none⟩ = some (.int .i64 n)) := ⟨(World.cell?_of_block (f6.block _ Z5.out HGR.out)).trans K5.out.1, T6.out.r.tickC⟩
                   clear r6 f6)
                | (go_at_call 10
                   refine AW.out.mono ?_
                   rintro e w5 ⟨rfl, S5, h5, f5⟩
                   have T5 := Keep.mk (T0.out.wheel h5 f5)
                   have Z5 : Keep (wo.heap.size < w5.heap.size) := ⟨Nat.lt_of_lt_of_le HSZ.out f5.size⟩
                   have K5 : Keep (w5.cell? ⟨wo.heap.size, 2, none⟩ = some (.int .i64 an) ∧ w5.cell? ⟨rb, 0, none⟩ = some (.int .i64 n)) := ⟨(World.cell?_of_block (f5.other HSZ.out HGN.out)).trans ca, T5.out.r.tickC⟩
                   have RA := Keep.mk (rarm_yes m rb v n L hh (n + nn) w5 T5.out.r T5.out.hs (by have := HFW.out.len; have := H80.out; omega) HNN2.out.1 HNN2.out.2 HOK.out.1 HOK.out.2)
                   clear h5 f5)
                | (go_at_call 14
                   refine NW.out.mono ?_
                   rintro e X ⟨rfl, hX⟩
                   rw [hX]
                   clear hX)
                | (go_at_call 16
                   refine (NNR.out _).mono ?_
                   rintro e X ⟨rfl, hX⟩
                   rw [hX]
                   clear hX)
                | fail)
            go_wp2_with fail
            go_meet
            exact ⟨nb + 1, S5, v6, n, _, by have := HNB2.out; omega, ⟨by have := HNN.out; omega, by have := HNN.out; omega⟩, T6, ⟨HFW.out.arm HHB.out.1 HHB.out.2⟩⟩
          · have AW := Keep.mk (armNo_wl T0.out.h hh (n + nn) HNN2.out.1 HNN2.out.2 (by omega))
            have RA := Keep.mk (rarm_no m rb v n L hh (n + nn) _ T0.out.r HNN2.out.1 HNN2.out.2 (by omega))
            clear hok
            go_upto_region 12 with fail
            go_region_held3 (fun X => X.cell? ⟨wo.heap.size, 2, none⟩ = some (.int .i64 an) ∧ X.cell? ⟨rb, 0, none⟩ = some (.int .i64 n))
              (first | exact ⟨ca, cr⟩)
              (first
                | (go_at_call 17
                   refine RA.out.mono ?_
                   rintro e X ⟨rfl, hX⟩
                   rw [hX]
                   clear hX)
                | (go_at_call 10
                   refine AW.out.mono ?_
                   rintro e X ⟨rfl, hX⟩
                   rw [hX]
                   clear hX)
                | (go_at_call 14
                   refine NW.out.mono ?_
                   rintro e X ⟨rfl, hX⟩
                   rw [hX]
                   clear hX)
                | (go_at_call 16
                   refine (NNR.out _).mono ?_
                   rintro e X ⟨rfl, hX⟩
                   rw [hX]
                   clear hX)
                | fail)
            go_wp2_with fail
            go_meet
            exact ⟨nb, S, v, n, L, by have := HNB2.out; omega, ⟨by have := HNN.out; omega, by have := HNN.out; omega⟩, T0, ⟨HFW.out.up⟩⟩
        have b0 : (ak == 0) = false := by simp [k0]
        by_cases k1 : ak = 1
        · subst k1
          have T1 := Keep.mk (HTW.out.quiet ((Below.refl _ W).alloc (Nat.le_refl _) (.cells #[.int .i64 hh] 3)))
          have C1 := (cancel_wl T1.out.h T1.out.hs (g := W.heap.size) (c := 1) (x := hh) (by simp) (by rw [World.cell?_alloc_new]; rfl) WH.out HNN2.out.1 HNN2.out.2 (by have := HFW.out.len; have := H80.out; omega))
          cases ht : tk L hh with
          | none =>
            rw [ht] at C1
            have C1 := Keep.mk C1
            have HTK := Keep.mk ht
            clear ht
            go_wp2_with (first
              | (go_at_call 11
                 go_loud (refine C1.out.mono ?_; rintro e w5 ⟨rfl, S5, h5, f5⟩)
                 rw [show one none = 0 from rfl]
                 have T5 := Keep.mk (T1.out.wheel h5 f5)
                 have RC := rcancel_any m rb v n L hh w5 T5.out.r T5.out.hs (by have := HFW.out.len; have := H80.out; omega)
                 rw [show (tk L hh).isSome = false by rw [HTK.out]; rfl] at RC
                 have RC := Keep.mk RC
                 clear h5 f5)
              | (go_at_call 18
                 go_loud (refine RC.out.mono ?_; rintro e w6 ⟨rfl, v6, r6, f6, n6⟩)
                 have T6 := Keep.mk (T5.out.ref r6 f6)
                 clear r6 f6 n6)
              | fail)
            go_meet
            exact ⟨nb, S5, v6, n, _, by have := HNB2.out; omega, ⟨by have := HNN.out; omega, by have := HNN.out; omega⟩, T6, ⟨HFW.out.filter _⟩⟩
          | some tt =>
            rw [ht] at C1
            have C1 := Keep.mk C1
            have HTK := Keep.mk ht
            clear ht
            go_wp2_with (first
              | (go_at_call 11
                 go_loud (refine C1.out.mono ?_; rintro e w5 ⟨rfl, S5, h5, f5⟩)
                 rw [show one (some tt) = 1 from rfl]
                 have T5 := Keep.mk (T1.out.wheel h5 f5)
                 have RC := rcancel_any m rb v n L hh w5 T5.out.r T5.out.hs (by have := HFW.out.len; have := H80.out; omega)
                 rw [show (tk L hh).isSome = true by rw [HTK.out]; rfl] at RC
                 have RC := Keep.mk RC
                 clear h5 f5)
              | (go_at_call 18
                 go_loud (refine RC.out.mono ?_; rintro e w6 ⟨rfl, v6, r6, f6, n6⟩)
                 have T6 := Keep.mk (T5.out.ref r6 f6)
                 clear r6 f6 n6)
              | fail)
            go_meet
            exact ⟨nb, S5, v6, n, _, by have := HNB2.out; omega, ⟨by have := HNN.out; omega, by have := HNN.out; omega⟩, T6, ⟨HFW.out.filter _⟩⟩
        have b1 : (ak == 1) = false := by simp [k1]
        by_cases k2 : ak = 2
        · subst k2
          have HND := Keep.mk T0.out.h.nodup
          have AD := Keep.mk (advance_wl T0.out.h T0.out.hs (n + nn) HNN2.out.1 (by have := HNN.out.2; have := H80.out; omega) (by have := HFW.out.len; have := H80.out; omega) HFW.out.wfI)
          go_upto_region 18 with fail
          refine wp_region_noPanic ?_
          refine wp_region_held_drew (S := fun X => X.cell? ⟨wo.heap.size, 2, none⟩ = some (.int .i64 an)) (by kernel_rfl) ca (fun hHeld => ?_)
          refine wpAnyH_take (i := 0) (v := ?_) rfl (by kernel_rfl) (by kernel_rfl) (by kernel_rfl) (fun _ _ _ h => h) (Or.inl ⟨by rfl, ?_⟩) (by assumption) ?_
          rotate_left
          · intro w hSw; go_simp; (try with_reducible rfl)
          try simp only [Act.put, List.setIfInBounds_toArray, List.set_cons_zero, List.set_cons_succ, List.getElem_toArray, List.getElem_cons_zero, List.getElem_cons_succ]
          refine wpAnyH_take (i := 1) (v := ?_) rfl (by kernel_rfl) (by kernel_rfl) (by kernel_rfl) (fun _ _ _ h => h) (Or.inl ⟨by rfl, ?_⟩) (by assumption) ?_
          rotate_left
          · intro w hSw; go_simp; (try with_reducible rfl)
          try simp only [Act.put, List.setIfInBounds_toArray, List.set_cons_zero, List.set_cons_succ, List.getElem_toArray, List.getElem_cons_zero, List.getElem_cons_succ]
          refine wpAnyH_take (i := 3) (v := ?_) rfl (by kernel_rfl) (by kernel_rfl) (by kernel_rfl) (fun _ _ _ h => h) (Or.inl ⟨by rfl, ?_⟩) (by assumption) ?_
          rotate_left
          · intro w hSw; go_simp; (try with_reducible rfl)
          try simp only [Act.put, List.setIfInBounds_toArray, List.set_cons_zero, List.set_cons_succ, List.getElem_toArray, List.getElem_cons_zero, List.getElem_cons_succ]
          refine wpAnyH_take (i := 4) (v := ?_) rfl (by kernel_rfl) (by kernel_rfl) (by kernel_rfl) (fun _ _ _ h => h) (Or.inl ⟨by rfl, ?_⟩) (by assumption) ?_
          rotate_left
          · intro w hSw; go_simp; (try with_reducible rfl)
          try simp only [Act.put, List.setIfInBounds_toArray, List.set_cons_zero, List.set_cons_succ, List.getElem_toArray, List.getElem_cons_zero, List.getElem_cons_succ]
          refine wpAnyH_take (i := 8) (v := ?_) rfl (by kernel_rfl) (by kernel_rfl) (by kernel_rfl) (fun _ _ _ h => h) (Or.inl ⟨by rfl, ?_⟩) (by assumption) ?_
          rotate_left
          · intro w hSw; go_simp; (try with_reducible rfl)
          try simp only [Act.put, List.setIfInBounds_toArray, List.set_cons_zero, List.set_cons_succ, List.getElem_toArray, List.getElem_cons_zero, List.getElem_cons_succ]
          refine wpAnyH_take (i := 9) (v := ?_) rfl (by kernel_rfl) (by kernel_rfl) (by kernel_rfl) (fun _ _ _ h => h) (Or.inl ⟨by rfl, ?_⟩) (by assumption) ?_
          rotate_left
          · intro w hSw; go_simp; (try with_reducible rfl)
          try simp only [Act.put, List.setIfInBounds_toArray, List.set_cons_zero, List.set_cons_succ, List.getElem_toArray, List.getElem_cons_zero, List.getElem_cons_succ]
          refine wpAnyH_take (i := 10) (v := ?_) rfl (by kernel_rfl) (by kernel_rfl) (by kernel_rfl) (fun _ _ _ h => h) (Or.inl ⟨by rfl, ?_⟩) (by assumption) ?_
          rotate_left
          · intro w hSw; go_simp; (try with_reducible rfl)
          try simp only [Act.put, List.setIfInBounds_toArray, List.set_cons_zero, List.set_cons_succ, List.getElem_toArray, List.getElem_cons_zero, List.getElem_cons_succ]
          refine wpAnyH_take (i := 11) (v := ?_) rfl (by kernel_rfl) (by kernel_rfl) (by kernel_rfl) (fun _ _ _ h => h) (Or.inl ⟨by rfl, ?_⟩) (by assumption) ?_
          rotate_left
          · intro w hSw; go_simp; (try with_reducible rfl)
          try simp only [Act.put, List.setIfInBounds_toArray, List.set_cons_zero, List.set_cons_succ, List.getElem_toArray, List.getElem_cons_zero, List.getElem_cons_succ]
          refine wpAnyH_take (i := 13) (v := ?_) rfl (by kernel_rfl) (by kernel_rfl) (by kernel_rfl) (fun _ _ _ h => h) (Or.inl ⟨by rfl, ?_⟩) (by assumption) ?_
          rotate_left
          · intro w hSw; go_simp; (try with_reducible rfl)
          try simp only [Act.put, List.setIfInBounds_toArray, List.set_cons_zero, List.set_cons_succ, List.getElem_toArray, List.getElem_cons_zero, List.getElem_cons_succ]
          refine wpAnyH_take (i := 14) (v := ?_) rfl (by kernel_rfl) (by kernel_rfl) (by kernel_rfl) (fun _ _ _ h => h) (Or.inl ⟨by rfl, ?_⟩) (by assumption) ?_
          rotate_left
          · intro w hSw; go_simp; (try with_reducible rfl)
          try simp only [Act.put, List.setIfInBounds_toArray, List.set_cons_zero, List.set_cons_succ, List.getElem_toArray, List.getElem_cons_zero, List.getElem_cons_succ]
          refine wpAnyH_ready (rs := [2, 12]) (by kernel_rfl) (by simp) ?_
          refine AllReadyH.cons rfl (fun K hK => ?_) (AllReadyH.cons rfl (fun K hK => ?_) AllReadyH.nil)
          · go_simp
            refine NW.out.mono ?_
            rintro e X ⟨rfl, hX⟩
            rw [hX]
            clear hX X
            refine hK.out _ _ ?_ (fun hHeld => ?_)
            · exact ca
            clear hK K
            try simp only [Act.put, List.setIfInBounds_toArray, List.set_cons_zero, List.set_cons_succ, List.getElem_toArray, List.getElem_cons_zero, List.getElem_cons_succ]
            refine wpAnyH_ready (rs := [5, 12]) (by kernel_rfl) (by simp) ?_
            refine AllReadyH.cons rfl (fun K hK => ?_) (AllReadyH.cons rfl (fun K hK => ?_) AllReadyH.nil)
            · go_simp
              refine (NNR.out _).mono ?_
              rintro e X ⟨rfl, hX⟩
              rw [hX]
              clear hX X
              refine hK.out _ _ ?_ (fun hHeld => ?_)
              · exact ca
              clear hK K
              try simp only [Act.put, List.setIfInBounds_toArray, List.set_cons_zero, List.set_cons_succ, List.getElem_toArray, List.getElem_cons_zero, List.getElem_cons_succ]
              refine wpAnyH_take (i := 6) (v := ?_) rfl (by kernel_rfl) (by kernel_rfl) (by kernel_rfl) (fun _ _ _ h => h) (Or.inl ⟨by rfl, ?_⟩) (by assumption) ?_
              rotate_left
              · intro w hSw; go_simp; (try with_reducible rfl)
              try simp only [Act.put, List.setIfInBounds_toArray, List.set_cons_zero, List.set_cons_succ, List.getElem_toArray, List.getElem_cons_zero, List.getElem_cons_succ]
              refine wpAnyH_ready (rs := [7, 12]) (by kernel_rfl) (by simp) ?_
              refine AllReadyH.cons rfl (fun K hK => ?_) (AllReadyH.cons rfl (fun K hK => ?_) AllReadyH.nil)
              · go_simp
                refine AD.out.mono ?_
                rintro e w5 ⟨v5, S5, L5, O5, rfl, h5, hb5, hn5, f5, ha5⟩
                obtain ⟨A5, c5, rfl, -⟩ := own_slice hb5.own
                have T5 := Keep.mk (T0.out.wheel h5 f5)
                have Z5 : Keep (wo.heap.size < w5.heap.size) := ⟨Nat.lt_of_lt_of_le HSZ.out f5.size⟩
                have K5 : w5.cell? ⟨wo.heap.size, 2, none⟩ = some (.int .i64 an) := (World.cell?_of_block (f5.other HSZ.out HGN.out)).trans ca
                have c5r := T5.out.r.tickC
                have HA5 := Keep.mk ha5
                have HB5 := Keep.mk hb5.own
                have HN5 := Keep.mk hn5
                have RA := Keep.mk (radvance_any m rb v n L (n + nn) w5 T5.out.r T5.out.hs (by have := HFW.out.len; have := H80.out; omega) HNN2.out.1 (by have := HNN.out.2; have := H80.out; omega) (by have := HNN.out; have := HNB.out; omega) (by have := HNN.out; have := HNB.out; have := H80.out; omega) HND.out (fun d hd => (T0.out.h.rng d hd).1))
                clear h5 hb5 hn5 f5 ha5
                refine hK.out _ _ ?_ (fun hHeld => ?_)
                · exact K5
                clear hK K
                try simp only [Act.put, List.setIfInBounds_toArray, List.set_cons_zero, List.set_cons_succ, List.getElem_toArray, List.getElem_cons_zero, List.getElem_cons_succ]
                refine wpAnyH_ready (rs := [12, 15]) (by kernel_rfl) (by simp) ?_
                refine AllReadyH.cons rfl (fun K hK => ?_) (AllReadyH.cons rfl (fun K hK => ?_) AllReadyH.nil)
                · go_simp
                  refine hK.out _ _ ?_ (fun hHeld => ?_)
                  · exact K5
                  clear hK K
                  try simp only [Act.put, List.setIfInBounds_toArray, List.set_cons_zero, List.set_cons_succ, List.getElem_toArray, List.getElem_cons_zero, List.getElem_cons_succ]
                  refine wpAnyH_ready (rs := [15]) (by kernel_rfl) (by simp) ?_
                  refine AllReadyH.cons rfl (fun K hK => ?_) AllReadyH.nil
                  go_simp
                  refine (NNR.out _).mono ?_
                  rintro e X ⟨rfl, hX⟩
                  rw [hX]
                  clear hX X
                  refine hK.out _ _ ?_ (fun hHeld => ?_)
                  · exact K5
                  clear hK K
                  try simp only [Act.put, List.setIfInBounds_toArray, List.set_cons_zero, List.set_cons_succ, List.getElem_toArray, List.getElem_cons_zero, List.getElem_cons_succ]
                  refine wpAnyH_take (i := 16) (v := ?_) rfl (by kernel_rfl) (by kernel_rfl) (by kernel_rfl) (fun _ _ _ h => h) (Or.inl ⟨by rfl, ?_⟩) (by assumption) ?_
                  rotate_left
                  · intro w hSw; go_simp; (try with_reducible rfl)
                  try simp only [Act.put, List.setIfInBounds_toArray, List.set_cons_zero, List.set_cons_succ, List.getElem_toArray, List.getElem_cons_zero, List.getElem_cons_succ]
                  refine wpAnyH_ready (rs := [17]) (by kernel_rfl) (by simp) ?_
                  refine AllReadyH.cons rfl (fun K hK => ?_) AllReadyH.nil
                  go_simp
                  refine RA.out.mono ?_
                  rintro e w6 ⟨vo, v6, L6, O6, rfl, r6, ow6, f6, a6⟩
                  obtain ⟨rfl, rfl⟩ := adv_eq HND.out HA5.out a6
                  have T6 := Keep.mk (T5.out.ref r6 f6)
                  obtain ⟨Ao, co, rfl, -⟩ := own_slice ow6
                  have ow5 := own_block2 HB5.out (fun k e => f6.block k (HB5.out.lt k e).2 (fun e2 => by have := HN5.out k e; have := HRB.out; omega))
                  have hO5 : O5.length ≤ 100000 := by
                    rw [HA5.out.perm.length_eq]
                    have := List.length_filter_le (fun d : Due => decide (d.2 ≤ max n (min (n + nn) (n + 10000)))) L
                    have := HFW.out.len
                    have := H80.out
                    omega
                  have SD := Keep.mk (samedue_any A5 c5 Ao co O5 w6 (Rd.of_own dueC_length (by decide) ow5) (Rd.of_own dueC_length (by decide) ow6) hO5)
                  have Z6 : Keep (wo.heap.size < w6.heap.size) := ⟨Nat.lt_of_lt_of_le Z5.out f6.size⟩
                  have K6 : w6.cell? ⟨wo.heap.size, 2, none⟩ = some (.int .i64 an) := (World.cell?_of_block (f6.block _ Z5.out HGR.out)).trans K5
                  clear r6 f6 ow6 ow5 a6 hO5
                  refine hK.out _ _ ?_ (fun hHeld => ?_)
                  · exact K6
                  clear hK K
                  try simp only [Act.put, List.setIfInBounds_toArray, List.set_cons_zero, List.set_cons_succ, List.getElem_toArray, List.getElem_cons_zero, List.getElem_cons_succ]
                  refine wpAnyH_ready (rs := [18]) (by kernel_rfl) (by simp) ?_
                  refine AllReadyH.cons rfl (fun K hK => ?_) AllReadyH.nil
                  go_simp
                  refine SD.out.mono ?_
                  rintro e w7 ⟨rfl, b7⟩
                  have T7 := Keep.mk (T6.out.quiet b7)
                  have K7 : w7.cell? ⟨wo.heap.size, 2, none⟩ = some (.int .i64 an) := (World.cell?_of_block (b7.block _ Z6.out)).trans K6
                  clear b7
                  refine hK.out _ _ ?_ (fun hHeld => ?_)
                  · exact K7
                  clear hK K
                  try simp only [Act.put, List.setIfInBounds_toArray, List.set_cons_zero, List.set_cons_succ, List.getElem_toArray, List.getElem_cons_zero, List.getElem_cons_succ]
                  refine wpAnyH_take (i := 19) (v := ?_) rfl (by kernel_rfl) (by kernel_rfl) (by kernel_rfl) (fun _ _ _ h => h) (Or.inl ⟨by rfl, ?_⟩) (by assumption) ?_
                  rotate_left
                  · intro w hSw; go_simp; (try with_reducible rfl)
                  try simp only [Act.put, List.setIfInBounds_toArray, List.set_cons_zero, List.set_cons_succ, List.getElem_toArray, List.getElem_cons_zero, List.getElem_cons_succ]
                  refine wpAnyH_done (by kernel_rfl) ?_ _
                  refine NoPanic.normal ?_
                  go_wp2_with fail
                  go_meet
                  exact ⟨nb, S5, v6, _, _, by have := HNB2.out; omega, ⟨by have := HNN.out; omega, by have := HNN.out; omega⟩, T7, ⟨by rw [HA5.out.rest]; exact HFW.out.filter _⟩⟩
                · go_simp
                  refine (NNR.out _).mono ?_
                  rintro e X ⟨rfl, hX⟩
                  rw [hX]
                  clear hX X
                  refine hK.out _ _ ?_ (fun hHeld => ?_)
                  · exact K5
                  clear hK K
                  try simp only [Act.put, List.setIfInBounds_toArray, List.set_cons_zero, List.set_cons_succ, List.getElem_toArray, List.getElem_cons_zero, List.getElem_cons_succ]
                  refine wpAnyH_ready (rs := [12]) (by kernel_rfl) (by simp) ?_
                  refine AllReadyH.cons rfl (fun K hK => ?_) AllReadyH.nil
                  go_simp
                  refine hK.out _ _ ?_ (fun hHeld => ?_)
                  · exact K5
                  clear hK K
                  try simp only [Act.put, List.setIfInBounds_toArray, List.set_cons_zero, List.set_cons_succ, List.getElem_toArray, List.getElem_cons_zero, List.getElem_cons_succ]
                  refine wpAnyH_take (i := 16) (v := ?_) rfl (by kernel_rfl) (by kernel_rfl) (by kernel_rfl) (fun _ _ _ h => h) (Or.inl ⟨by rfl, ?_⟩) (by assumption) ?_
                  rotate_left
                  · intro w hSw; go_simp; (try with_reducible rfl)
                  try simp only [Act.put, List.setIfInBounds_toArray, List.set_cons_zero, List.set_cons_succ, List.getElem_toArray, List.getElem_cons_zero, List.getElem_cons_succ]
                  refine wpAnyH_ready (rs := [17]) (by kernel_rfl) (by simp) ?_
                  refine AllReadyH.cons rfl (fun K hK => ?_) AllReadyH.nil
                  go_simp
                  refine RA.out.mono ?_
                  rintro e w6 ⟨vo, v6, L6, O6, rfl, r6, ow6, f6, a6⟩
                  obtain ⟨rfl, rfl⟩ := adv_eq HND.out HA5.out a6
                  have T6 := Keep.mk (T5.out.ref r6 f6)
                  obtain ⟨Ao, co, rfl, -⟩ := own_slice ow6
                  have ow5 := own_block2 HB5.out (fun k e => f6.block k (HB5.out.lt k e).2 (fun e2 => by have := HN5.out k e; have := HRB.out; omega))
                  have hO5 : O5.length ≤ 100000 := by
                    rw [HA5.out.perm.length_eq]
                    have := List.length_filter_le (fun d : Due => decide (d.2 ≤ max n (min (n + nn) (n + 10000)))) L
                    have := HFW.out.len
                    have := H80.out
                    omega
                  have SD := Keep.mk (samedue_any A5 c5 Ao co O5 w6 (Rd.of_own dueC_length (by decide) ow5) (Rd.of_own dueC_length (by decide) ow6) hO5)
                  have Z6 : Keep (wo.heap.size < w6.heap.size) := ⟨Nat.lt_of_lt_of_le Z5.out f6.size⟩
                  have K6 : w6.cell? ⟨wo.heap.size, 2, none⟩ = some (.int .i64 an) := (World.cell?_of_block (f6.block _ Z5.out HGR.out)).trans K5
                  clear r6 f6 ow6 ow5 a6 hO5
                  refine hK.out _ _ ?_ (fun hHeld => ?_)
                  · exact K6
                  clear hK K
                  try simp only [Act.put, List.setIfInBounds_toArray, List.set_cons_zero, List.set_cons_succ, List.getElem_toArray, List.getElem_cons_zero, List.getElem_cons_succ]
                  refine wpAnyH_ready (rs := [18]) (by kernel_rfl) (by simp) ?_
                  refine AllReadyH.cons rfl (fun K hK => ?_) AllReadyH.nil
                  go_simp
                  refine SD.out.mono ?_
                  rintro e w7 ⟨rfl, b7⟩
                  have T7 := Keep.mk (T6.out.quiet b7)
                  have K7 : w7.cell? ⟨wo.heap.size, 2, none⟩ = some (.int .i64 an) := (World.cell?_of_block (b7.block _ Z6.out)).trans K6
                  clear b7
                  refine hK.out _ _ ?_ (fun hHeld => ?_)
                  · exact K7
                  clear hK K
                  try simp only [Act.put, List.setIfInBounds_toArray, List.set_cons_zero, List.set_cons_succ, List.getElem_toArray, List.getElem_cons_zero, List.getElem_cons_succ]
                  refine wpAnyH_take (i := 19) (v := ?_) rfl (by kernel_rfl) (by kernel_rfl) (by kernel_rfl) (fun _ _ _ h => h) (Or.inl ⟨by rfl, ?_⟩) (by assumption) ?_
                  rotate_left
                  · intro w hSw; go_simp; (try with_reducible rfl)
                  try simp only [Act.put, List.setIfInBounds_toArray, List.set_cons_zero, List.set_cons_succ, List.getElem_toArray, List.getElem_cons_zero, List.getElem_cons_succ]
                  refine wpAnyH_done (by kernel_rfl) ?_ _
                  refine NoPanic.normal ?_
                  go_wp2_with fail
                  go_meet
                  exact ⟨nb, S5, v6, _, _, by have := HNB2.out; omega, ⟨by have := HNN.out; omega, by have := HNN.out; omega⟩, T7, ⟨by rw [HA5.out.rest]; exact HFW.out.filter _⟩⟩
              · go_simp
                refine hK.out _ _ ?_ (fun hHeld => ?_)
                · exact ca
                clear hK K
                try simp only [Act.put, List.setIfInBounds_toArray, List.set_cons_zero, List.set_cons_succ, List.getElem_toArray, List.getElem_cons_zero, List.getElem_cons_succ]
                refine wpAnyH_ready (rs := [7]) (by kernel_rfl) (by simp) ?_
                refine AllReadyH.cons rfl (fun K hK => ?_) AllReadyH.nil
                go_simp
                refine AD.out.mono ?_
                rintro e w5 ⟨v5, S5, L5, O5, rfl, h5, hb5, hn5, f5, ha5⟩
                obtain ⟨A5, c5, rfl, -⟩ := own_slice hb5.own
                have T5 := Keep.mk (T0.out.wheel h5 f5)
                have Z5 : Keep (wo.heap.size < w5.heap.size) := ⟨Nat.lt_of_lt_of_le HSZ.out f5.size⟩
                have K5 : w5.cell? ⟨wo.heap.size, 2, none⟩ = some (.int .i64 an) := (World.cell?_of_block (f5.other HSZ.out HGN.out)).trans ca
                have c5r := T5.out.r.tickC
                have HA5 := Keep.mk ha5
                have HB5 := Keep.mk hb5.own
                have HN5 := Keep.mk hn5
                have RA := Keep.mk (radvance_any m rb v n L (n + nn) w5 T5.out.r T5.out.hs (by have := HFW.out.len; have := H80.out; omega) HNN2.out.1 (by have := HNN.out.2; have := H80.out; omega) (by have := HNN.out; have := HNB.out; omega) (by have := HNN.out; have := HNB.out; have := H80.out; omega) HND.out (fun d hd => (T0.out.h.rng d hd).1))
                clear h5 hb5 hn5 f5 ha5
                refine hK.out _ _ ?_ (fun hHeld => ?_)
                · exact K5
                clear hK K
                try simp only [Act.put, List.setIfInBounds_toArray, List.set_cons_zero, List.set_cons_succ, List.getElem_toArray, List.getElem_cons_zero, List.getElem_cons_succ]
                refine wpAnyH_ready (rs := [15]) (by kernel_rfl) (by simp) ?_
                refine AllReadyH.cons rfl (fun K hK => ?_) AllReadyH.nil
                go_simp
                refine (NNR.out _).mono ?_
                rintro e X ⟨rfl, hX⟩
                rw [hX]
                clear hX X
                refine hK.out _ _ ?_ (fun hHeld => ?_)
                · exact K5
                clear hK K
                try simp only [Act.put, List.setIfInBounds_toArray, List.set_cons_zero, List.set_cons_succ, List.getElem_toArray, List.getElem_cons_zero, List.getElem_cons_succ]
                refine wpAnyH_take (i := 16) (v := ?_) rfl (by kernel_rfl) (by kernel_rfl) (by kernel_rfl) (fun _ _ _ h => h) (Or.inl ⟨by rfl, ?_⟩) (by assumption) ?_
                rotate_left
                · intro w hSw; go_simp; (try with_reducible rfl)
                try simp only [Act.put, List.setIfInBounds_toArray, List.set_cons_zero, List.set_cons_succ, List.getElem_toArray, List.getElem_cons_zero, List.getElem_cons_succ]
                refine wpAnyH_ready (rs := [17]) (by kernel_rfl) (by simp) ?_
                refine AllReadyH.cons rfl (fun K hK => ?_) AllReadyH.nil
                go_simp
                refine RA.out.mono ?_
                rintro e w6 ⟨vo, v6, L6, O6, rfl, r6, ow6, f6, a6⟩
                obtain ⟨rfl, rfl⟩ := adv_eq HND.out HA5.out a6
                have T6 := Keep.mk (T5.out.ref r6 f6)
                obtain ⟨Ao, co, rfl, -⟩ := own_slice ow6
                have ow5 := own_block2 HB5.out (fun k e => f6.block k (HB5.out.lt k e).2 (fun e2 => by have := HN5.out k e; have := HRB.out; omega))
                have hO5 : O5.length ≤ 100000 := by
                  rw [HA5.out.perm.length_eq]
                  have := List.length_filter_le (fun d : Due => decide (d.2 ≤ max n (min (n + nn) (n + 10000)))) L
                  have := HFW.out.len
                  have := H80.out
                  omega
                have SD := Keep.mk (samedue_any A5 c5 Ao co O5 w6 (Rd.of_own dueC_length (by decide) ow5) (Rd.of_own dueC_length (by decide) ow6) hO5)
                have Z6 : Keep (wo.heap.size < w6.heap.size) := ⟨Nat.lt_of_lt_of_le Z5.out f6.size⟩
                have K6 : w6.cell? ⟨wo.heap.size, 2, none⟩ = some (.int .i64 an) := (World.cell?_of_block (f6.block _ Z5.out HGR.out)).trans K5
                clear r6 f6 ow6 ow5 a6 hO5
                refine hK.out _ _ ?_ (fun hHeld => ?_)
                · exact K6
                clear hK K
                try simp only [Act.put, List.setIfInBounds_toArray, List.set_cons_zero, List.set_cons_succ, List.getElem_toArray, List.getElem_cons_zero, List.getElem_cons_succ]
                refine wpAnyH_ready (rs := [18]) (by kernel_rfl) (by simp) ?_
                refine AllReadyH.cons rfl (fun K hK => ?_) AllReadyH.nil
                go_simp
                refine SD.out.mono ?_
                rintro e w7 ⟨rfl, b7⟩
                have T7 := Keep.mk (T6.out.quiet b7)
                have K7 : w7.cell? ⟨wo.heap.size, 2, none⟩ = some (.int .i64 an) := (World.cell?_of_block (b7.block _ Z6.out)).trans K6
                clear b7
                refine hK.out _ _ ?_ (fun hHeld => ?_)
                · exact K7
                clear hK K
                try simp only [Act.put, List.setIfInBounds_toArray, List.set_cons_zero, List.set_cons_succ, List.getElem_toArray, List.getElem_cons_zero, List.getElem_cons_succ]
                refine wpAnyH_take (i := 19) (v := ?_) rfl (by kernel_rfl) (by kernel_rfl) (by kernel_rfl) (fun _ _ _ h => h) (Or.inl ⟨by rfl, ?_⟩) (by assumption) ?_
                rotate_left
                · intro w hSw; go_simp; (try with_reducible rfl)
                try simp only [Act.put, List.setIfInBounds_toArray, List.set_cons_zero, List.set_cons_succ, List.getElem_toArray, List.getElem_cons_zero, List.getElem_cons_succ]
                refine wpAnyH_done (by kernel_rfl) ?_ _
                refine NoPanic.normal ?_
                go_wp2_with fail
                go_meet
                exact ⟨nb, S5, v6, _, _, by have := HNB2.out; omega, ⟨by have := HNN.out; omega, by have := HNN.out; omega⟩, T7, ⟨by rw [HA5.out.rest]; exact HFW.out.filter _⟩⟩
            · go_simp
              refine hK.out _ _ ?_ (fun hHeld => ?_)
              · exact ca
              clear hK K
              try simp only [Act.put, List.setIfInBounds_toArray, List.set_cons_zero, List.set_cons_succ, List.getElem_toArray, List.getElem_cons_zero, List.getElem_cons_succ]
              refine wpAnyH_ready (rs := [5]) (by kernel_rfl) (by simp) ?_
              refine AllReadyH.cons rfl (fun K hK => ?_) AllReadyH.nil
              go_simp
              refine (NNR.out _).mono ?_
              rintro e X ⟨rfl, hX⟩
              rw [hX]
              clear hX X
              refine hK.out _ _ ?_ (fun hHeld => ?_)
              · exact ca
              clear hK K
              try simp only [Act.put, List.setIfInBounds_toArray, List.set_cons_zero, List.set_cons_succ, List.getElem_toArray, List.getElem_cons_zero, List.getElem_cons_succ]
              refine wpAnyH_take (i := 6) (v := ?_) rfl (by kernel_rfl) (by kernel_rfl) (by kernel_rfl) (fun _ _ _ h => h) (Or.inl ⟨by rfl, ?_⟩) (by assumption) ?_
              rotate_left
              · intro w hSw; go_simp; (try with_reducible rfl)
              try simp only [Act.put, List.setIfInBounds_toArray, List.set_cons_zero, List.set_cons_succ, List.getElem_toArray, List.getElem_cons_zero, List.getElem_cons_succ]
              refine wpAnyH_ready (rs := [7]) (by kernel_rfl) (by simp) ?_
              refine AllReadyH.cons rfl (fun K hK => ?_) AllReadyH.nil
              go_simp
              refine AD.out.mono ?_
              rintro e w5 ⟨v5, S5, L5, O5, rfl, h5, hb5, hn5, f5, ha5⟩
              obtain ⟨A5, c5, rfl, -⟩ := own_slice hb5.own
              have T5 := Keep.mk (T0.out.wheel h5 f5)
              have Z5 : Keep (wo.heap.size < w5.heap.size) := ⟨Nat.lt_of_lt_of_le HSZ.out f5.size⟩
              have K5 : w5.cell? ⟨wo.heap.size, 2, none⟩ = some (.int .i64 an) := (World.cell?_of_block (f5.other HSZ.out HGN.out)).trans ca
              have c5r := T5.out.r.tickC
              have HA5 := Keep.mk ha5
              have HB5 := Keep.mk hb5.own
              have HN5 := Keep.mk hn5
              have RA := Keep.mk (radvance_any m rb v n L (n + nn) w5 T5.out.r T5.out.hs (by have := HFW.out.len; have := H80.out; omega) HNN2.out.1 (by have := HNN.out.2; have := H80.out; omega) (by have := HNN.out; have := HNB.out; omega) (by have := HNN.out; have := HNB.out; have := H80.out; omega) HND.out (fun d hd => (T0.out.h.rng d hd).1))
              clear h5 hb5 hn5 f5 ha5
              refine hK.out _ _ ?_ (fun hHeld => ?_)
              · exact K5
              clear hK K
              try simp only [Act.put, List.setIfInBounds_toArray, List.set_cons_zero, List.set_cons_succ, List.getElem_toArray, List.getElem_cons_zero, List.getElem_cons_succ]
              refine wpAnyH_ready (rs := [15]) (by kernel_rfl) (by simp) ?_
              refine AllReadyH.cons rfl (fun K hK => ?_) AllReadyH.nil
              go_simp
              refine (NNR.out _).mono ?_
              rintro e X ⟨rfl, hX⟩
              rw [hX]
              clear hX X
              refine hK.out _ _ ?_ (fun hHeld => ?_)
              · exact K5
              clear hK K
              try simp only [Act.put, List.setIfInBounds_toArray, List.set_cons_zero, List.set_cons_succ, List.getElem_toArray, List.getElem_cons_zero, List.getElem_cons_succ]
              refine wpAnyH_take (i := 16) (v := ?_) rfl (by kernel_rfl) (by kernel_rfl) (by kernel_rfl) (fun _ _ _ h => h) (Or.inl ⟨by rfl, ?_⟩) (by assumption) ?_
              rotate_left
              · intro w hSw; go_simp; (try with_reducible rfl)
              try simp only [Act.put, List.setIfInBounds_toArray, List.set_cons_zero, List.set_cons_succ, List.getElem_toArray, List.getElem_cons_zero, List.getElem_cons_succ]
              refine wpAnyH_ready (rs := [17]) (by kernel_rfl) (by simp) ?_
              refine AllReadyH.cons rfl (fun K hK => ?_) AllReadyH.nil
              go_simp
              refine RA.out.mono ?_
              rintro e w6 ⟨vo, v6, L6, O6, rfl, r6, ow6, f6, a6⟩
              obtain ⟨rfl, rfl⟩ := adv_eq HND.out HA5.out a6
              have T6 := Keep.mk (T5.out.ref r6 f6)
              obtain ⟨Ao, co, rfl, -⟩ := own_slice ow6
              have ow5 := own_block2 HB5.out (fun k e => f6.block k (HB5.out.lt k e).2 (fun e2 => by have := HN5.out k e; have := HRB.out; omega))
              have hO5 : O5.length ≤ 100000 := by
                rw [HA5.out.perm.length_eq]
                have := List.length_filter_le (fun d : Due => decide (d.2 ≤ max n (min (n + nn) (n + 10000)))) L
                have := HFW.out.len
                have := H80.out
                omega
              have SD := Keep.mk (samedue_any A5 c5 Ao co O5 w6 (Rd.of_own dueC_length (by decide) ow5) (Rd.of_own dueC_length (by decide) ow6) hO5)
              have Z6 : Keep (wo.heap.size < w6.heap.size) := ⟨Nat.lt_of_lt_of_le Z5.out f6.size⟩
              have K6 : w6.cell? ⟨wo.heap.size, 2, none⟩ = some (.int .i64 an) := (World.cell?_of_block (f6.block _ Z5.out HGR.out)).trans K5
              clear r6 f6 ow6 ow5 a6 hO5
              refine hK.out _ _ ?_ (fun hHeld => ?_)
              · exact K6
              clear hK K
              try simp only [Act.put, List.setIfInBounds_toArray, List.set_cons_zero, List.set_cons_succ, List.getElem_toArray, List.getElem_cons_zero, List.getElem_cons_succ]
              refine wpAnyH_ready (rs := [18]) (by kernel_rfl) (by simp) ?_
              refine AllReadyH.cons rfl (fun K hK => ?_) AllReadyH.nil
              go_simp
              refine SD.out.mono ?_
              rintro e w7 ⟨rfl, b7⟩
              have T7 := Keep.mk (T6.out.quiet b7)
              have K7 : w7.cell? ⟨wo.heap.size, 2, none⟩ = some (.int .i64 an) := (World.cell?_of_block (b7.block _ Z6.out)).trans K6
              clear b7
              refine hK.out _ _ ?_ (fun hHeld => ?_)
              · exact K7
              clear hK K
              try simp only [Act.put, List.setIfInBounds_toArray, List.set_cons_zero, List.set_cons_succ, List.getElem_toArray, List.getElem_cons_zero, List.getElem_cons_succ]
              refine wpAnyH_take (i := 19) (v := ?_) rfl (by kernel_rfl) (by kernel_rfl) (by kernel_rfl) (fun _ _ _ h => h) (Or.inl ⟨by rfl, ?_⟩) (by assumption) ?_
              rotate_left
              · intro w hSw; go_simp; (try with_reducible rfl)
              try simp only [Act.put, List.setIfInBounds_toArray, List.set_cons_zero, List.set_cons_succ, List.getElem_toArray, List.getElem_cons_zero, List.getElem_cons_succ]
              refine wpAnyH_done (by kernel_rfl) ?_ _
              refine NoPanic.normal ?_
              go_wp2_with fail
              go_meet
              exact ⟨nb, S5, v6, _, _, by have := HNB2.out; omega, ⟨by have := HNN.out; omega, by have := HNN.out; omega⟩, T7, ⟨by rw [HA5.out.rest]; exact HFW.out.filter _⟩⟩
          · go_simp
            refine hK.out _ _ ?_ (fun hHeld => ?_)
            · exact ca
            clear hK K
            try simp only [Act.put, List.setIfInBounds_toArray, List.set_cons_zero, List.set_cons_succ, List.getElem_toArray, List.getElem_cons_zero, List.getElem_cons_succ]
            refine wpAnyH_ready (rs := [2]) (by kernel_rfl) (by simp) ?_
            refine AllReadyH.cons rfl (fun K hK => ?_) AllReadyH.nil
            go_simp
            refine NW.out.mono ?_
            rintro e X ⟨rfl, hX⟩
            rw [hX]
            clear hX X
            refine hK.out _ _ ?_ (fun hHeld => ?_)
            · exact ca
            clear hK K
            try simp only [Act.put, List.setIfInBounds_toArray, List.set_cons_zero, List.set_cons_succ, List.getElem_toArray, List.getElem_cons_zero, List.getElem_cons_succ]
            refine wpAnyH_ready (rs := [5]) (by kernel_rfl) (by simp) ?_
            refine AllReadyH.cons rfl (fun K hK => ?_) AllReadyH.nil
            go_simp
            refine (NNR.out _).mono ?_
            rintro e X ⟨rfl, hX⟩
            rw [hX]
            clear hX X
            refine hK.out _ _ ?_ (fun hHeld => ?_)
            · exact ca
            clear hK K
            try simp only [Act.put, List.setIfInBounds_toArray, List.set_cons_zero, List.set_cons_succ, List.getElem_toArray, List.getElem_cons_zero, List.getElem_cons_succ]
            refine wpAnyH_take (i := 6) (v := ?_) rfl (by kernel_rfl) (by kernel_rfl) (by kernel_rfl) (fun _ _ _ h => h) (Or.inl ⟨by rfl, ?_⟩) (by assumption) ?_
            rotate_left
            · intro w hSw; go_simp; (try with_reducible rfl)
            try simp only [Act.put, List.setIfInBounds_toArray, List.set_cons_zero, List.set_cons_succ, List.getElem_toArray, List.getElem_cons_zero, List.getElem_cons_succ]
            refine wpAnyH_ready (rs := [7]) (by kernel_rfl) (by simp) ?_
            refine AllReadyH.cons rfl (fun K hK => ?_) AllReadyH.nil
            go_simp
            refine AD.out.mono ?_
            rintro e w5 ⟨v5, S5, L5, O5, rfl, h5, hb5, hn5, f5, ha5⟩
            obtain ⟨A5, c5, rfl, -⟩ := own_slice hb5.own
            have T5 := Keep.mk (T0.out.wheel h5 f5)
            have Z5 : Keep (wo.heap.size < w5.heap.size) := ⟨Nat.lt_of_lt_of_le HSZ.out f5.size⟩
            have K5 : w5.cell? ⟨wo.heap.size, 2, none⟩ = some (.int .i64 an) := (World.cell?_of_block (f5.other HSZ.out HGN.out)).trans ca
            have c5r := T5.out.r.tickC
            have HA5 := Keep.mk ha5
            have HB5 := Keep.mk hb5.own
            have HN5 := Keep.mk hn5
            have RA := Keep.mk (radvance_any m rb v n L (n + nn) w5 T5.out.r T5.out.hs (by have := HFW.out.len; have := H80.out; omega) HNN2.out.1 (by have := HNN.out.2; have := H80.out; omega) (by have := HNN.out; have := HNB.out; omega) (by have := HNN.out; have := HNB.out; have := H80.out; omega) HND.out (fun d hd => (T0.out.h.rng d hd).1))
            clear h5 hb5 hn5 f5 ha5
            refine hK.out _ _ ?_ (fun hHeld => ?_)
            · exact K5
            clear hK K
            try simp only [Act.put, List.setIfInBounds_toArray, List.set_cons_zero, List.set_cons_succ, List.getElem_toArray, List.getElem_cons_zero, List.getElem_cons_succ]
            refine wpAnyH_ready (rs := [15]) (by kernel_rfl) (by simp) ?_
            refine AllReadyH.cons rfl (fun K hK => ?_) AllReadyH.nil
            go_simp
            refine (NNR.out _).mono ?_
            rintro e X ⟨rfl, hX⟩
            rw [hX]
            clear hX X
            refine hK.out _ _ ?_ (fun hHeld => ?_)
            · exact K5
            clear hK K
            try simp only [Act.put, List.setIfInBounds_toArray, List.set_cons_zero, List.set_cons_succ, List.getElem_toArray, List.getElem_cons_zero, List.getElem_cons_succ]
            refine wpAnyH_take (i := 16) (v := ?_) rfl (by kernel_rfl) (by kernel_rfl) (by kernel_rfl) (fun _ _ _ h => h) (Or.inl ⟨by rfl, ?_⟩) (by assumption) ?_
            rotate_left
            · intro w hSw; go_simp; (try with_reducible rfl)
            try simp only [Act.put, List.setIfInBounds_toArray, List.set_cons_zero, List.set_cons_succ, List.getElem_toArray, List.getElem_cons_zero, List.getElem_cons_succ]
            refine wpAnyH_ready (rs := [17]) (by kernel_rfl) (by simp) ?_
            refine AllReadyH.cons rfl (fun K hK => ?_) AllReadyH.nil
            go_simp
            refine RA.out.mono ?_
            rintro e w6 ⟨vo, v6, L6, O6, rfl, r6, ow6, f6, a6⟩
            obtain ⟨rfl, rfl⟩ := adv_eq HND.out HA5.out a6
            have T6 := Keep.mk (T5.out.ref r6 f6)
            obtain ⟨Ao, co, rfl, -⟩ := own_slice ow6
            have ow5 := own_block2 HB5.out (fun k e => f6.block k (HB5.out.lt k e).2 (fun e2 => by have := HN5.out k e; have := HRB.out; omega))
            have hO5 : O5.length ≤ 100000 := by
              rw [HA5.out.perm.length_eq]
              have := List.length_filter_le (fun d : Due => decide (d.2 ≤ max n (min (n + nn) (n + 10000)))) L
              have := HFW.out.len
              have := H80.out
              omega
            have SD := Keep.mk (samedue_any A5 c5 Ao co O5 w6 (Rd.of_own dueC_length (by decide) ow5) (Rd.of_own dueC_length (by decide) ow6) hO5)
            have Z6 : Keep (wo.heap.size < w6.heap.size) := ⟨Nat.lt_of_lt_of_le Z5.out f6.size⟩
            have K6 : w6.cell? ⟨wo.heap.size, 2, none⟩ = some (.int .i64 an) := (World.cell?_of_block (f6.block _ Z5.out HGR.out)).trans K5
            clear r6 f6 ow6 ow5 a6 hO5
            refine hK.out _ _ ?_ (fun hHeld => ?_)
            · exact K6
            clear hK K
            try simp only [Act.put, List.setIfInBounds_toArray, List.set_cons_zero, List.set_cons_succ, List.getElem_toArray, List.getElem_cons_zero, List.getElem_cons_succ]
            refine wpAnyH_ready (rs := [18]) (by kernel_rfl) (by simp) ?_
            refine AllReadyH.cons rfl (fun K hK => ?_) AllReadyH.nil
            go_simp
            refine SD.out.mono ?_
            rintro e w7 ⟨rfl, b7⟩
            have T7 := Keep.mk (T6.out.quiet b7)
            have K7 : w7.cell? ⟨wo.heap.size, 2, none⟩ = some (.int .i64 an) := (World.cell?_of_block (b7.block _ Z6.out)).trans K6
            clear b7
            refine hK.out _ _ ?_ (fun hHeld => ?_)
            · exact K7
            clear hK K
            try simp only [Act.put, List.setIfInBounds_toArray, List.set_cons_zero, List.set_cons_succ, List.getElem_toArray, List.getElem_cons_zero, List.getElem_cons_succ]
            refine wpAnyH_take (i := 19) (v := ?_) rfl (by kernel_rfl) (by kernel_rfl) (by kernel_rfl) (fun _ _ _ h => h) (Or.inl ⟨by rfl, ?_⟩) (by assumption) ?_
            rotate_left
            · intro w hSw; go_simp; (try with_reducible rfl)
            try simp only [Act.put, List.setIfInBounds_toArray, List.set_cons_zero, List.set_cons_succ, List.getElem_toArray, List.getElem_cons_zero, List.getElem_cons_succ]
            refine wpAnyH_done (by kernel_rfl) ?_ _
            refine NoPanic.normal ?_
            go_wp2_with fail
            go_meet
            exact ⟨nb, S5, v6, _, _, by have := HNB2.out; omega, ⟨by have := HNN.out; omega, by have := HNN.out; omega⟩, T7, ⟨by rw [HA5.out.rest]; exact HFW.out.filter _⟩⟩
        have b2 : (ak == 2) = false := by simp [k2]
        by_cases k3 : ak = 3
        · subst k3
          by_cases hok : n < an ∧ an ≤ n + 4096
          · have AW := Keep.mk (arm_wl T0.out.h T0.out.hs (x := hh) (t := an) WH.out HNN2.out.1 HNN2.out.2 hok.1 hok.2 (by have := HFW.out.len; have := H80.out; omega) (by have := H80.out; omega))
            have HOK := Keep.mk hok
            clear hok
            go_upto_region 21 with fail
            go_region_held3 (fun X => X.cell? ⟨wo.heap.size, 2, none⟩ = some (.int .i64 an))
              (first | exact ca | exact K5.out | exact K6.out)
              (first
                | (go_at_call 17
                   refine RA.out.mono ?_
                   rintro e w6 ⟨rfl, v6, r6, f6⟩
                   have T6 := Keep.mk (T5.out.ref r6 f6)
                   have K6 : Keep (w6.cell? ⟨wo.heap.size, 2, none⟩ = some (.int .i64 an)) := ⟨(World.cell?_of_block (f6.block _ Z5.out HGR.out)).trans K5.out⟩
                   clear r6 f6)
                | (go_at_call 10
                   refine AW.out.mono ?_
                   rintro e w5 ⟨rfl, S5, h5, f5⟩
                   have T5 := Keep.mk (T0.out.wheel h5 f5)
                   have Z5 : Keep (wo.heap.size < w5.heap.size) := ⟨Nat.lt_of_lt_of_le HSZ.out f5.size⟩
                   have K5 : Keep (w5.cell? ⟨wo.heap.size, 2, none⟩ = some (.int .i64 an)) := ⟨(World.cell?_of_block (f5.other HSZ.out HGN.out)).trans ca⟩
                   have RA := Keep.mk (rarm_yes m rb v n L hh (an) w5 T5.out.r T5.out.hs (by have := HFW.out.len; have := H80.out; omega) HNN2.out.1 HNN2.out.2 HOK.out.1 HOK.out.2)
                   clear h5 f5)
                | fail)
            go_wp2_with fail
            go_meet
            exact ⟨nb + 1, S5, v6, n, _, by have := HNB2.out; omega, ⟨by have := HNN.out; omega, by have := HNN.out; omega⟩, T6, ⟨HFW.out.arm HHB.out.1 HHB.out.2⟩⟩
          · have AW := Keep.mk (armNo_wl T0.out.h hh (an) HNN2.out.1 HNN2.out.2 (by omega))
            have RA := Keep.mk (rarm_no m rb v n L hh (an) _ T0.out.r HNN2.out.1 HNN2.out.2 (by omega))
            clear hok
            go_upto_region 21 with fail
            go_region_held3 (fun X => X.cell? ⟨wo.heap.size, 2, none⟩ = some (.int .i64 an))
              (first | exact ca)
              (first
                | (go_at_call 17
                   refine RA.out.mono ?_
                   rintro e X ⟨rfl, hX⟩
                   rw [hX]
                   clear hX)
                | (go_at_call 10
                   refine AW.out.mono ?_
                   rintro e X ⟨rfl, hX⟩
                   rw [hX]
                   clear hX)
                | fail)
            go_wp2_with fail
            go_meet
            exact ⟨nb, S, v, n, L, by have := HNB2.out; omega, ⟨by have := HNN.out; omega, by have := HNN.out; omega⟩, T0, ⟨HFW.out.up⟩⟩
        have b3 : (ak == 3) = false := by simp [k3]
        go_wp2_with fail
        go_meet
        exact ⟨nb, S, v, n, L, by have := HNB2.out; omega, ⟨by have := HNN.out; omega, by have := HNN.out; omega⟩, HTW, ⟨HFW.out.up⟩⟩
      case rest =>
        obtain ⟨nb6, S6, v6, n6, L6, hnb6, HN6, T6, HFW6⟩ := hcut
        have HNB6 := Keep.mk hnb6
        have HN62 : Keep (0 ≤ n6) := ⟨HN6.out.1⟩
        have NX := Keep.mk (next_wl T6.out.h HN62.out)
        have H806 : Keep (L6.length ≤ 80) := ⟨by have := HFW6.out.len; have := H80.out; omega⟩
        clear hnb6 ca cr e2 qn
        go_wp2_with (first
          | (go_at_call 21
             go_loud (refine NX.out.mono ?_; rintro e w7 ⟨c7, is7, rfl, hn7, hc7, b7⟩)
             have T7 := Keep.mk (T6.out.quiet b7)
             have HN7 := Keep.mk hn7
             have HC7 := Keep.mk hc7
             have RF := Keep.mk (rfirst_any m rb v6 n6 L6 w7 T7.out.r (by have := H806.out; omega))
             clear b7 hn7 hc7)
          | (go_at_call 22
             go_loud (refine RF.out.mono ?_; rintro e w8 ⟨i8, rfl, hi8, q8, hq8⟩)
             have HI8 := Keep.mk hi8
             have T8 : Keep (Act2 w w8 m b m nb6 rb S6 v6 n6 L6 n6 L6) := ⟨hq8 ▸ T7.out.drew q8⟩
             clear hi8 hq8)
          | fail)
        obtain ⟨A6, c6, hv6, -⟩ := own_slice T8.out.r.own
        subst hv6
        have cn := T8.out.r.tickC
        have cl := T8.out.r.listC
        have NW8 : Keep (∀ q, Calls Try.prog 14 #[.pointer (some ⟨b, 0, none⟩)] (w8.drewN q) fun e w' => e = .returned (.int .i64 n6) ∧ w' = w8.drewN q) := ⟨fun q => now_wl (T8.out.drew q).h⟩
        have LN8 : Keep (∀ q, Calls Try.prog 13 #[.pointer (some ⟨b, 0, none⟩)] (w8.drewN q) fun e w' => e = .returned (.int .i64 L6.length) ∧ w' = w8.drewN q) := ⟨fun q => len_wl (T8.out.drew q).h⟩
        go_cut [150] from 113 to 149 (fun r wx => r = .bool false ∧ ∃ q, wx = w8.drewN q)
        case first =>
          rcases HI8.out with ⟨hL, rfl⟩ | ⟨k8, ⟨d1, d2⟩, rfl, hk8, hLd, hall⟩
          · have his : is7 = false := HN7.out hL
            subst his
            clear hL
            go_big_quiet (first
              | (go_at_call 14; exact Calls.quiet_of_same (NW8.out _))
              | (go_at_call 13; exact Calls.quiet_of_same (LN8.out _))
              | fail)
            go_wp2_with fail
            go_meet
            exact ⟨rfl, nq, rfl⟩
          · obtain ⟨his, e8, he8, hec, hall2⟩ := HC7.out (List.ne_nil_of_length_pos (by omega))
            subst his
            obtain ⟨g, off, hA, hg, hc⟩ := Rd.of_own dueC_length (by decide) T8.out.r.own (List.ne_nil_of_length_pos (by omega))
            have p1 : w8.cell? ⟨g, off + k8 * 2 + 1, none⟩ = some (.int .i64 d2) := hc k8 _ hLd 1 _ rfl
            subst hA
            have hcd : c7 = d2 := by
              have x1 := hall2 _ (List.mem_of_getElem? hLd)
              have x2 := hall _ he8
              unfold lexle at x2
              simp only at x1 x2
              omega
            subst hcd
            have hk8i : ((k8 : Nat) : Int) < (L6.length : Int) := by omega
            have hk8d : decide ((0 : Int) ≤ ((k8 : Nat) : Int)) = true := decide_eq_true (by omega)
            clear hc hg hall hall2 he8 hec hLd
            go_big_quiet (first
              | (go_at_call 14; exact Calls.quiet_of_same (NW8.out _))
              | (go_at_call 13; exact Calls.quiet_of_same (LN8.out _))
              | fail)
            go_wp2_with fail
            go_meet
            exact ⟨rfl, nq, rfl⟩
        case rest =>
          obtain ⟨rfl, q9, hq9⟩ := hcut
          have T9 : Keep (Act2 w wc m b m nb6 rb S6 (.slice A6 L6.length c6) n6 L6 n6 L6) := ⟨hq9 ▸ T8.out.drew q9⟩
          have cl9 := T9.out.r.listC
          clear hq9 cn cl
          go_wp2
          obtain ⟨wi, hwi⟩ : ∃ wi : World, wi = wc := ⟨_, rfl⟩
          subst hwi
          go_loopg [156] (L6.length) (fun gi i wr => ∃ j : Nat, j ≤ L6.length ∧ L6.length - j ≤ gi ∧ i = .int .i64 j ∧ Keep (Below wi.heap.size wi wr))
          case atStart => exact ⟨0, by omega, by omega, rfl, ⟨Below.refl _ _⟩⟩
          case round =>
            obtain ⟨j, hj, hgi, rfl, HBL⟩ := hrel
            by_cases hjl : j < L6.length
            · obtain ⟨⟨d1, d2⟩, hd⟩ : ∃ d, L6[j] = d := ⟨_, rfl⟩
              have hLd : L6[j]? = some (d1, d2) := by rw [List.getElem?_eq_getElem hjl, hd]
              obtain ⟨g, off, hA, hg, hc⟩ := Rd.of_own dueC_length (by decide) T9.out.r.own (List.ne_nil_of_length_pos (by omega))
              have p0 : wr.cell? ⟨g, off + j * 2, none⟩ = some (.int .i64 d1) := (HBL.out.cell (p := ⟨g, _, none⟩) hg).trans (hc j _ hLd 0 _ rfl)
              have p1 : wr.cell? ⟨g, off + j * 2 + 1, none⟩ = some (.int .i64 d2) := (HBL.out.cell (p := ⟨g, _, none⟩) hg).trans (hc j _ hLd 1 _ rfl)
              subst hA
              have hji : ((j : Nat) : Int) < (L6.length : Int) := by omega
              have h806 := H806.out
              have hwd : wfI d1 := HFW6.out.wfI _ (List.mem_of_getElem? hLd)
              have htk : tk L6 d1 = some d2 := tk_mem T9.out.h.nodup (List.mem_of_getElem? hLd)
              obtain ⟨Z, hZ⟩ : ∃ Z, wr.alloc (.cells #[.int .i64 d1, .int .i64 d2] 55) = Z := ⟨_, rfl⟩
              have hZb : Below wi.heap.size wi Z := hZ ▸ HBL.out.alloc HBL.out.size _
              have e0 : Z.cell? ⟨wr.heap.size, 0, none⟩ = some (.int .i64 d1) := by rw [← hZ, World.cell?_alloc_new]; rfl
              have e1 : Z.cell? ⟨wr.heap.size, 1, none⟩ = some (.int .i64 d2) := by rw [← hZ, World.cell?_alloc_new]; rfl
              have AT := at_wl (T9.out.h.below hZb) hwd
              rw [htk] at AT
              have AT := Keep.mk AT
              have HZB := Keep.mk hZb
              clear hc hg hd hLd hwd htk hZb
              go_wp2_with (first
                | (go_at_call 23
                   go_loud (refine AT.out.mono ?_; rintro e X ⟨cX, rfl, hcX, hX⟩)
                   rw [hX]
                   clear hX
                   obtain rfl := hcX _ rfl
                   clear hcX)
                | fail)
              go_roundg (L6.length - (j + 1))
              case measure => omega
              case rel => exact ⟨j + 1, by omega, Nat.le_refl _, by go_num, HZB⟩
            · have hje : j = L6.length := by omega
              subst hje
              have T10 := Keep.mk (T9.out.quiet HBL.out)
              go_wp2_with fail
              go_roundg (l.length - (k + 1))
              case measure => have := HKL.out; omega
              case rel => exact ⟨k + 1, nb6, S6, _, n6, L6, by have := HKL.out; omega, Nat.le_refl _, by go_num, HN6, HNB6.out, T10, HFW6⟩
    · have hke : k = l.length := by omega
      subst hke
      have HBE := Keep.mk HT.out.below
      clear hk
      go_wp2
      go_ret
      exact ⟨rfl, HBE.out⟩
end Go.Proofs.Ytmjmiadogniopaa
