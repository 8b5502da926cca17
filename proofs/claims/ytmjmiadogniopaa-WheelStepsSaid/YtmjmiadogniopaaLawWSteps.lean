/-
  The walk of the law WheelSteps.
-/
import Derived.Deep.RegionHeld3
import Derived.Test.YtmjmiadogniopaaWhTwo
namespace Go.Proofs.Ytmjmiadogniopaa
open Go.RowKit

theorem adv_nil {w : World} {base b m nb : Nat} {S : Nat → Value} {n : Int} {L : List Due} (h : Wl w base b m nb S n L) : Adv n L L [] := Adv.start fun d hd => (h.rng d hd).1

set_option maxRecDepth 100000 in
set_option maxHeartbeats 1600000 in
theorem wheelSteps_walk (A : Option Addr) (nA cA : Nat) (l : List Int) (B : Option Addr) (nB cB : Nat) (s : List Int) (w : World) (ha : Arg w 1 (encI .u16) A nA cA l) (hl : ∀ z ∈ l, (Lit.int .u16 z).wf = true) (hb : Arg w 1 (encI .u8) B nB cB s) (hs : ∀ z ∈ s, (Lit.int .u8 z).wf = true) :
    Calls Try.prog 5 #[.slice A nA cA, .slice B nB cB] w fun e w' => e = .returned (.bool true) ∧ Below w.heap.size w w' := by
  have HA := Lib.hid ha
  have HB := Lib.hid hb
  have HL := Lib.hid hl
  have HS := Lib.hid hs
  have hla := ha.hlen
  have hlb := hb.hlen
  have hca := ha.hcap
  have hcb := hb.hcap
  clear ha hb hl hs
  subst hla
  subst hlb
  by_cases h50 : 50 < l.length
  · have h50' : (50 : Int) < (l.length : Int) := by omega
    go_enter Try.func5, Try.ntmps5
    go_wp2_with (first
      | (go_at_call 8; refine (wakes_any _).mono ?_; rintro e w1 ⟨rfl, hb1⟩; have HB1 := Keep.mk hb1; clear hb1)
      | fail)
    go_ret
    exact ⟨rfl, HB1.out⟩
  by_cases h60 : 60 < s.length
  · have h60' : (60 : Int) < (s.length : Int) := by omega
    have h50' : ¬ (50 : Int) < (l.length : Int) := by omega
    go_enter Try.func5, Try.ntmps5
    go_wp2_with (first
      | (go_at_call 8; refine (wakes_any _).mono ?_; rintro e w1 ⟨rfl, hb1⟩; have HB1 := Keep.mk hb1; clear hb1)
      | fail)
    go_ret
    exact ⟨rfl, HB1.out⟩
  have h50' : ¬ (50 : Int) < (l.length : Int) := by omega
  have h60' : ¬ (60 : Int) < (s.length : Int) := by omega
  go_enter Try.func5, Try.ntmps5
  go_wp2_with (first
    | (go_at_call 8; refine (wakes_any _).mono ?_; rintro e w1 ⟨rfl, hb1⟩; have HB1 := Keep.mk hb1; clear hb1)
    | (go_at_call 9
       go_loud (refine (new_wl 7 w2).mono ?_; rintro e w3 ⟨rfl, h3, b3⟩)
       have hz : w1.heap.size ≤ w2.heap.size := B2.out.size
       have T3 := Keep.mk (show Two w w3 w1.heap.size (w1.heap.size + 1) w1.heap.size (w2.heap.size + 1) w2.heap.size 0 (fun _ => .slice none 0 0) (fun _ => .slice none 0 0) 7 7 [] [] from {
         h1 := H2.out.below b3
         h2 := h3.rebase hz
         ap := fun k h1 h2 => by
           have a1 := H2.out.lt h1
           have a2 := h3.low h2
           omega
         below := HB1.out.trans ((B2.out.trans (b3.mono hz)).mono HB1.out.size)
         hb := HB1.out.size
         hs := Nat.le_trans hz b3.size })
       clear h3 b3 hz)
    | (go_at_call 9
       go_loud (refine (new_wl 7 w1).mono ?_; rintro e w2 ⟨rfl, h2, b2⟩)
       have H2 := Lib.hid h2
       have B2 := Keep.mk b2
       clear h2 b2)
    | fail)
  obtain ⟨b1, hb1⟩ : ∃ b1, w1.heap.size + 1 = b1 := ⟨_, rfl⟩
  obtain ⟨m1, hm1⟩ : ∃ m1, w1.heap.size = m1 := ⟨_, rfl⟩
  obtain ⟨b2, hb2⟩ : ∃ b2, w2.heap.size + 1 = b2 := ⟨_, rfl⟩
  obtain ⟨m2, hm2⟩ : ∃ m2, w2.heap.size = m2 := ⟨_, rfl⟩
  rw [hb1, hb2, hm1, hm2] at T3
  rw [hb1, hb2]
  clear hb1 hm1 hb2 hm2 H2 B2 HB1
  go_loopw [28] (fun i wr => ∃ (k : Nat) (S1 S2 : Nat → Value) (L : List Due), k ≤ l.length ∧ i = .int .i64 k ∧ Keep (Two w wr m1 b1 m1 b2 m2 (2 * k) S1 S2 7 7 L L) ∧ Keep (L.length = k ∧ ∀ d ∈ L, 0 ≤ d.1 ∧ d.1 < (k : Int) ∧ d.2 ≤ 4103)) (fun i _ => l.length - (intOf i).toNat)
  case atStart => exact ⟨0, _, _, [], by omega, rfl, T3, ⟨rfl, by simp⟩⟩
  case round =>
    obtain ⟨k, S1, S2, L, hk, rfl, HT, HLL⟩ := hrel
    by_cases hlt : k < l.length
    · obtain ⟨g, off, hA, hgl, hcs⟩ := HA.out.rd (List.ne_nil_of_length_pos (by omega))
      obtain ⟨x, hx⟩ : ∃ x, l[k] = x := ⟨_, rfl⟩
      have hlx : l[k]? = some x := by rw [List.getElem?_eq_getElem hlt, hx]
      have hbd := bounds_u16 (HL.out x (List.mem_of_getElem? hlx))
      have c0 : wr.cell? ⟨g, off + k, none⟩ = some (.int .u16 x) := by
        have := (HT.out.below.cell (p := ⟨g, off + k * 1 + 0, none⟩) hgl).trans (hcs k x hlx 0 _ rfl)
        rwa [Nat.mul_one, Nat.add_zero] at this
      obtain ⟨y, hy⟩ : ∃ y, x % 4096 = y := ⟨_, rfl⟩
      have q1 : IntKind.i64.wrap x = x := IntWalk.i64_in _ (by omega)
      have t1 : x.tmod 4096 = y := by rw [← hy]; exact Int.tmod_eq_emod_of_nonneg (by omega)
      have q2 : IntKind.i64.wrap (8 + y) = 8 + y := IntWalk.i64_in _ (by omega)
      have hy2 : 0 ≤ y ∧ y < 4096 := by omega
      have hd : dropH (k : Int) L = L := dropH_all fun d hd => by have := (HLL.out.2 d hd).2.1; omega
      have hLk := HLL.out.1
      have A1 := Keep.mk (arm_wl HT.out.h1 HT.out.hs (x := (k : Int)) (t := 8 + y) (wfI_of (by omega) (by omega)) (by omega) (by omega) (by omega) (by omega) (by omega) (by omega))
      have A2 : Keep (∀ w2 S1' nb', 2 * k ≤ nb' → nb' < 10000 → Two w w2 m1 b1 m1 b2 m2 nb' S1' S2 7 7 (L ++ [((k : Int), 8 + y)]) L → Calls Try.prog 10 #[.pointer (some ⟨b2, 0, none⟩), .int .i64 k, .int .i64 (8 + y)] w2 fun e w' => e = .returned (.int .i64 0) ∧
          ∃ S2', Wl w' m1 b2 m2 (nb' + 1) S2' 7 (L ++ [((k : Int), 8 + y)]) ∧ Fm w2 w' b2 m2 S2 S2') := ⟨fun w2 S1' nb' _ hnb h => by
        have := arm_wl h.h2 h.hs (x := (k : Int)) (t := 8 + y) (wfI_of (by omega) (by omega)) (by omega) (by omega) (by omega) (by omega) (by omega) hnb
        rwa [hd] at this⟩
      have HD := Keep.mk hd
      have HY := Keep.mk hy2
      subst hA
      have hlti : ((k : Nat) : Int) < (l.length : Int) := by omega
      clear hcs hgl hx hlx hbd hy hy2 hd hLk
      go_wp2_with (first
        | (go_at_call 10
           go_loud (refine (A2.out w2 S1' (2 * k + 1) (by omega) (by have := HLL.out.1; omega) T2.out).mono ?_; rintro e w3 ⟨rfl, S2', h3, f3⟩)
           have T3 := Keep.mk (T2.out.turn2 h3 f3 (by omega))
           clear h3 f3)
        | (go_at_call 10
           go_loud (refine A1.out.mono ?_; rintro e w2 ⟨rfl, S1', h2, f2⟩)
           rw [HD.out] at h2
           have T2 := Keep.mk (HT.out.turn1 h2 f2 (by omega))
           clear h2 f2)
        | fail)
      go_roundw
      case rel => exact ⟨k + 1, S1', S2', L ++ [((k : Int), 8 + y)], by omega, by go_num, ⟨show Two w w3 m1 b1 m1 b2 m2 (2 * k + 1 + 1) S1' S2' 7 7 _ _ from T3.out⟩, ⟨by rw [List.length_append, HLL.out.1]; rfl, fun d hd => by
        rcases List.mem_append.1 hd with h | h
        · have := HLL.out.2 d h; omega
        · obtain rfl : d = ((k : Int), 8 + y) := by simpa using h
          have := HY.out
          exact ⟨by omega, by show (k : Int) < ((k + 1 : Nat) : Int); omega, by show 8 + y ≤ 4103; omega⟩⟩⟩
      case measure => simp [intOf] <;> omega
    · have hke : k = l.length := by omega
      subst hke
      have HAD : Keep (Adv 7 L L []) := ⟨adv_nil HT.out.h1⟩
      clear hk
      go_wp2
      go_loopw [9, 54] (fun v i wr' => ∃ (j : Nat) (n : Int) (S1' : Nat → Value) (L1 O : List Due), j ≤ s.length ∧ i = .int .i64 j ∧ 7 ≤ n ∧ n ≤ 7 + 255 * (j : Int) ∧ Keep (Two w wr' m1 b1 m1 b2 m2 (2 * l.length) S1' S2 n 7 L1 L) ∧ Keep (Adv n L L1 O) ∧
        Keep (wr'.ownsRow m1 35 2 v O.length (O.flatMap dueC) ∧ Off b1 m1 S1' v ∧ Off b2 m2 S2 v)) (fun _ i _ => s.length - (intOf i).toNat)
      case atStart => exact ⟨0, 7, S1, L, [], by omega, rfl, by omega, by omega, HT, HAD, ⟨World.ownsRow_nil _ _ _ _, Off.nil _ _ _, Off.nil _ _ _⟩⟩
      case round =>
        obtain ⟨j, n, S1', L1, O, hj, rfl, hn1, hn2, HT2, HAD2, HOW⟩ := hrel
        by_cases hjl : j < s.length
        · obtain ⟨g, off, hB, hgl, hcs⟩ := HB.out.rd (List.ne_nil_of_length_pos (by omega))
          obtain ⟨x, hx⟩ : ∃ x, s[j] = x := ⟨_, rfl⟩
          have hsx : s[j]? = some x := by rw [List.getElem?_eq_getElem hjl, hx]
          have hbd := bounds_u8 (HS.out x (List.mem_of_getElem? hsx))
          have c0 : wr.cell? ⟨g, off + j, none⟩ = some (.int .u8 x) := by
            have := (HT2.out.below.cell (p := ⟨g, off + j * 1 + 0, none⟩) hgl).trans (hcs j x hsx 0 _ rfl)
            rwa [Nat.mul_one, Nat.add_zero] at this
          have q1 : IntKind.i64.wrap x = x := IntWalk.i64_in _ (by omega)
          have q2 : IntKind.i64.wrap (n + x) = n + x := IntWalk.i64_in _ (by omega)
          have hL1 : L1.length ≤ 50 := by rw [HAD2.out.rest]; have := List.length_filter_le (fun d : Due => decide (n < d.2)) L; have := HLL.out.1; omega
          have hwf : ∀ d ∈ L1, wfI d.1 := fun d hd => by
            rw [HAD2.out.rest] at hd
            have := HLL.out.2 d (List.mem_filter.1 hd).1
            exact wfI_of (by omega) (by omega)
          have NW := Keep.mk (now_wl HT2.out.h1)
          have AD := Keep.mk (advance_wl HT2.out.h1 HT2.out.hs (n + x) (by omega) (by omega) (by omega) hwf)
          have HBD := Keep.mk hbd
          have HN1 := Keep.mk hn1
          have hOl : O.length ≤ 50 := by rw [HAD2.out.perm.length_eq]; have := List.length_filter_le (fun d : Due => decide (d.2 ≤ n)) L; have := HLL.out.1; omega
          have HOl := Keep.mk hOl
          have HL1 := Keep.mk hL1
          subst hB
          have hji : ((j : Nat) : Int) < (s.length : Int) := by omega
          obtain ⟨i0, hi, hz0, hz1, hz2⟩ := info_parts infoD
          have HI0 : Keep (Try.prog.info? 35 = some i0 ∧ i0.zero = some (.agg #[.int .i64 0, .int .i64 0]) ∧ i0.size = 2 ∧ i0.bytes = 16) := ⟨hi, hz0, hz1, hz2⟩
          clear hcs hgl hsx hx hbd hOl hL1 hwf hn1 hi hz0 hz1 hz2
          go_wp2_with (first
            | (go_at_call 14
               go_loud (refine NW.out.mono ?_; rintro e wr ⟨rfl, rfl⟩))
            | (go_at_call 12
               go_loud (refine AD.out.mono ?_; rintro e w2 ⟨v2, S3, L3, O3, rfl, h3, hb3, hn3, f3, ha3⟩)
               have hbd := HBD.out
               have hn1 := HN1.out
               have hne : max n (min (n + x) (n + 10000)) = n + x := by omega
               rw [hne] at h3 ha3
               obtain ⟨A3, c3, rfl, -⟩ := own_slice hb3.own
               have T3 := Keep.mk (HT2.out.turn1 h3 f3 (Nat.le_refl _))
               have O3w := Keep.mk (own_off HOW.out.1 f3 HOW.out.2.1)
               have F31 := Keep.mk (HOW.out.2.1.fm f3 (fun k e => (HOW.out.1.lt k e).2))
               have F32 := Keep.mk (off_new HT2.out.h2 hn3)
               have HB3 := Keep.mk hb3
               have HA3 := Keep.mk ha3
               clear h3 hb3 hn3 f3 ha3 hbd hn1 hne)
            | (go_loud (refine wpList_append_rd rfl (.tmp 58) (.tmp 65) 32 rfl m1 35 i0 _ 2 16 Try.underlying32 HI0.out.1 HI0.out.2.1 HI0.out.2.2.1 HI0.out.2.2.2 rfl (by decide) u9 _ _ rfl O3w.out A3 O3.length c3 _ dueC O3 rfl (own_nilcap HB3.out.own) rfl dueC_length (Rd.of_own dueC_length (by decide) HB3.out.own) dueOne ?_ ?_ T3.out.hs ?_)
               · have := HOl.out
                 have : O3.length ≤ 50 := by rw [HA3.out.perm.length_eq]; have := List.length_filter_le (fun d : Due => decide (d.2 ≤ n + x)) L1; have := HL1.out; omega
                 unfold maxLen; omega
               · have := HOl.out
                 have : O3.length ≤ 50 := by rw [HA3.out.perm.length_eq]; have := List.length_filter_le (fun d : Due => decide (d.2 ≤ n + x)) L1; have := HL1.out; omega
                 omega
               intro v4 w4 hown4 hg4 hat4
               have T4 := Keep.mk (T3.out.row hg4 F31.out HOW.out.2.2 (fun k e => (O3w.out.lt k e).1))
               have F41 : Keep (Off b1 m1 S3 v4) := ⟨fun k e ho => by
                 rcases hat4 with e2 | e2
                 · exact F31.out k (e2 ▸ e) ho
                 · have := T3.out.h1.lt ho; rw [e2] at e; cases e; omega⟩
               have F42 : Keep (Off b2 m2 S2 v4) := ⟨fun k e ho => by
                 rcases hat4 with e2 | e2
                 · exact HOW.out.2.2 k (e2 ▸ e) ho
                 · have := T3.out.h2.lt ho; rw [e2] at e; cases e; omega⟩
               have HO4 := Lib.hid hown4
               clear hown4 hg4 hat4)
            | fail)
          go_roundw
          case rel =>
            have hbd := HBD.out
            have hn1 := HN1.out
            refine ⟨j + 1, n + x, S3, L3, O ++ O3, by omega, by go_num, by omega, by omega, T4, ⟨HAD2.out.trans HA3.out (by omega)⟩, ⟨?_, F41.out, F42.out⟩⟩
            rw [List.length_append, List.flatMap_append]
            exact HO4.out
          case measure => simp [intOf] <;> omega
        · have hje : j = s.length := by omega
          subst hje
          have hL : L.length ≤ 50 := by have := HLL.out.1; omega
          have hwf : ∀ d ∈ L, wfI d.1 := fun d hd => by
            have := HLL.out.2 d hd
            exact wfI_of (by omega) (by omega)
          have NW := Keep.mk (now_wl HT2.out.h1)
          have AD := Keep.mk (advance_wl HT2.out.h2 HT2.out.hs n (by omega) (by omega) (by omega) hwf)
          have HN1 := Keep.mk hn1
          have HN2 := Keep.mk hn2
          have HS60 := Keep.mk h60
          clear hL hwf hn1 hn2 hj
          go_wp2_with (first
            | (go_at_call 14
               go_loud (refine NW.out.mono ?_; rintro e wr ⟨rfl, rfl⟩))
            | (go_at_call 12
               go_loud (refine AD.out.mono ?_; rintro e w5 ⟨v5, S5, L5, O5, rfl, h5, hb5, hn5, f5, ha5⟩)
               have T5 := Keep.mk (HT2.out.turn2 h5 f5 (Nat.le_refl _))
               have hone := adv_one HT2.out.h2.nodup HAD2.out ha5 (fun d hd => by
                 have h1 := (HLL.out.2 d hd).2.2
                 have h2 := HN1.out
                 have h3 := HN2.out
                 have h4 := HS60.out
                 omega)
               obtain ⟨rfl, rfl⟩ := hone
               obtain ⟨A5, c5, rfl, -⟩ := own_slice hb5.own
               have O9 := own_off HOW.out.1 f5 HOW.out.2.2
               obtain ⟨A9, c9, hv9, -⟩ := own_slice O9
               have HO9 := Lib.hid O9
               have HV9 := Keep.mk hv9
               have HB5 := Lib.hid hb5.own
               have LA := Keep.mk (len_wl T5.out.h1)
               have LB := Keep.mk (len_wl T5.out.h2)
               subst hv9
               clear h5 hb5 hn5 f5 ha5 O9)
            | (go_at_call_of 13 (Value.pointer (some ⟨b1, 0, none⟩))
               go_loud (refine LA.out.mono ?_; rintro e w5 ⟨rfl, rfl⟩))
            | (go_at_call_of 13 (Value.pointer (some ⟨b2, 0, none⟩))
               go_loud (refine LB.out.mono ?_; rintro e w5 ⟨rfl, rfl⟩))
            | fail)
          have hO50 : O.length ≤ 50 := by rw [HAD2.out.perm.length_eq]; have := List.length_filter_le (fun d : Due => decide (d.2 ≤ n)) L; have := HLL.out.1; omega
          obtain ⟨wo, hwo⟩ : ∃ wo : World, wo = w5 := ⟨_, rfl⟩
          subst hwo
          go_loopw [86] (fun i wr => ∃ k : Nat, k ≤ O.length ∧ i = .int .i64 k ∧ Below wo.heap.size wo wr) (fun i _ => O.length - (intOf i).toNat)
          case atStart => exact ⟨0, by omega, rfl, Below.refl _ _⟩
          case round =>
            obtain ⟨k, hk, rfl, hbl⟩ := hrel
            by_cases hkl : k < O.length
            · obtain ⟨d, hd⟩ : ∃ d, O[k] = d := ⟨_, rfl⟩
              have hOd : O[k]? = some d := by rw [List.getElem?_eq_getElem hkl, hd]
              obtain ⟨g9, o9, e9, hg9, hc9⟩ := Rd.of_own dueC_length (by decide) HO9.out (List.ne_nil_of_length_pos (by omega))
              obtain ⟨g5, o5, e5, hg5, hc5⟩ := Rd.of_own dueC_length (by decide) HB5.out (List.ne_nil_of_length_pos (by omega))
              have p0 : wr.drew.cell? ⟨g9, o9 + k * 2, none⟩ = some (.int .i64 d.1) := (hbl.cell (p := ⟨g9, _, none⟩) hg9).trans (hc9 k d hOd 0 _ rfl)
              have p1 : wr.drew.cell? ⟨g9, o9 + k * 2 + 1, none⟩ = some (.int .i64 d.2) := (hbl.cell (p := ⟨g9, _, none⟩) hg9).trans (hc9 k d hOd 1 _ rfl)
              have p2 : wr.drew.cell? ⟨g5, o5 + k * 2, none⟩ = some (.int .i64 d.1) := (hbl.cell (p := ⟨g5, _, none⟩) hg5).trans (hc5 k d hOd 0 _ rfl)
              have p3 : wr.drew.cell? ⟨g5, o5 + k * 2 + 1, none⟩ = some (.int .i64 d.2) := (hbl.cell (p := ⟨g5, _, none⟩) hg5).trans (hc5 k d hOd 1 _ rfl)
              have HBL := Keep.mk hbl
              subst e9
              subst e5
              have hki : ((k : Nat) : Int) < (O.length : Int) := by omega
              clear hc9 hc5 hg9 hg5 hd hOd hbl
              go_wp2
              go_region_held3 (fun W => W.cell? ⟨g9, o9 + k * 2, none⟩ = some (.int .i64 d.1) ∧ W.cell? ⟨g9, o9 + k * 2 + 1, none⟩ = some (.int .i64 d.2) ∧ W.cell? ⟨g5, o5 + k * 2, none⟩ = some (.int .i64 d.1) ∧ W.cell? ⟨g5, o5 + k * 2 + 1, none⟩ = some (.int .i64 d.2))
                (exact ⟨p0, p1, p2, p3⟩)
                (fail)
              go_wp2_with fail
              go_roundw
              case rel => exact ⟨k + 1, by omega, by go_num, HBL.out.drew⟩
              case measure => simp [intOf] <;> omega
            · have hke : k = O.length := by omega
              subst hke
              have HBL := Keep.mk hbl
              clear hbl
              go_wp2
              go_ret
              exact ⟨rfl, T5.out.below.trans (HBL.out.mono T5.out.below.size)⟩
end Go.Proofs.Ytmjmiadogniopaa
