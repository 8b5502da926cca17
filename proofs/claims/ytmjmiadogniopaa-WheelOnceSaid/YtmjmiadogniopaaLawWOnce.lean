/-
  The walk of the law WheelOnce.
-/
import Derived.BigQuiet
import Derived.Deep.RegionHeld3
import Derived.Test.YtmjmiadogniopaaWhOn
import Derived.Test.YtmjmiadogniopaaLawWAgain
namespace Go.Proofs.Ytmjmiadogniopaa
open Go.RowKit

/-- Each timer is that of one of the ticks. -/
def Lies (l : List Int) (n : Int) (k : Nat) (d : Due) : Prop := ∃ (j : Nat) (x : Int), d.1 = (j : Int) ∧ j < k ∧ l[j]? = some x ∧ d.2 = n + 1 + x % 4096
theorem Lies.up {l : List Int} {n : Int} {k k' : Nat} {d : Due} (h : Lies l n k d) (hk : k ≤ k') : Lies l n k' d := by
  obtain ⟨j, x, h1, h2, h3⟩ := h
  exact ⟨j, x, h1, by omega, h3⟩
theorem Lies.lt {l : List Int} {n : Int} {k : Nat} {d : Due} (h : Lies l n k d) : 0 ≤ d.1 ∧ d.1 < (k : Int) ∧ n < d.2 ∧ d.2 ≤ n + 4096 := by
  obtain ⟨j, x, h1, h2, h3, h4⟩ := h
  omega
structure Armed (l : List Int) (n : Int) (k : Nat) (L : List Due) : Prop where
  len : L.length = k
  lies : ∀ d ∈ L, Lies l n k d
structure Gone (l : List Int) (n : Int) (L : List Due) (G : Int → Bool) (c : Nat) : Prop where
  len : L.length + c = l.length
  lies : ∀ d ∈ L, Lies l n l.length d
  free : ∀ d ∈ L, G d.1 = false
theorem Gone.drop {l : List Int} {n : Int} {L : List Due} {G : Int → Bool} {c : Nat} (h : Gone l n L G c) (hn : (L.map (·.1)).Nodup) {x t : Int} (ht : tk L x = some t) : Gone l n (dropH x L) (setB G x) (c + 1) where
  len := by
    have h1 := drop_len hn x
    rw [ht] at h1
    have h2 : 0 < L.length := List.length_pos_of_mem (tk_some ht)
    have := h.len
    have h3 : one (some t) = 1 := rfl
    omega
  lies := fun d hd => h.lies d (List.mem_filter.1 hd).1
  free := fun d hd => by
    obtain ⟨h1, h2⟩ := List.mem_filter.1 hd
    rw [setB_other G (of_decide_eq_true h2)]
    exact h.free d h1

set_option maxRecDepth 100000 in
set_option maxHeartbeats 1600000 in
theorem wheelOnce_walk (n : Int) (A : Option Addr) (nA cA : Nat) (l : List Int) (B : Option Addr) (nB cB : Nat) (s : List Int) (w : World) (n1 : 0 ≤ n) (n2 : n ≤ 65535) (ha : Arg w 1 (encI .u16) A nA cA l) (hl : ∀ z ∈ l, (Lit.int .u16 z).wf = true) (hb : Arg w 1 (encI .u8) B nB cB s) (hs : ∀ z ∈ s, (Lit.int .u8 z).wf = true) :
    Calls Try.prog 3 #[.int .u16 n, .slice A nA cA, .slice B nB cB] w fun e w' => e = .returned (.bool true) ∧ Below w.heap.size w w' := by
  have HA := Lib.hid ha
  have HB := Lib.hid hb
  have HL := Lib.hid hl
  have HS := Lib.hid hs
  have hla := ha.hlen
  have hlb := hb.hlen
  have hca := ha.hcap
  have hcb := hb.hcap
  clear ha hb hl hs
  subst hla
  subst hlb
  by_cases h50 : 50 < l.length
  · have h50' : (50 : Int) < (l.length : Int) := by omega
    go_enter Try.func3, Try.ntmps3
    go_wp2_with (first
      | (go_at_call 8; refine (wakes_any _).mono ?_; rintro e w1 ⟨rfl, hb1⟩; have HB1 := Keep.mk hb1; clear hb1)
      | fail)
    go_ret
    exact ⟨rfl, HB1.out⟩
  by_cases h60 : 50 < s.length
  · have h60' : (50 : Int) < (s.length : Int) := by omega
    have h50' : ¬ (50 : Int) < (l.length : Int) := by omega
    go_enter Try.func3, Try.ntmps3
    go_wp2_with (first
      | (go_at_call 8; refine (wakes_any _).mono ?_; rintro e w1 ⟨rfl, hb1⟩; have HB1 := Keep.mk hb1; clear hb1)
      | fail)
    go_ret
    exact ⟨rfl, HB1.out⟩
  have h50' : ¬ (50 : Int) < (l.length : Int) := by omega
  have h60' : ¬ (50 : Int) < (s.length : Int) := by omega
  have q1 : IntKind.i64.wrap n = n := IntWalk.i64_in _ (by omega)
  have q2 : IntKind.i64.wrap (n + 1) = n + 1 := IntWalk.i64_in _ (by omega)
  have q3 : IntKind.i64.wrap (n + 5000) = n + 5000 := IntWalk.i64_in _ (by omega)
  have NN : Keep (0 ≤ n ∧ n ≤ 65535) := ⟨n1, n2⟩
  have MK : Keep (∀ w : World, (Instr.makeMap 28 none).run Try.prog w = .ok (.map (some w.heap.size)) (w.alloc (.map #[] 0))) := ⟨fun _ => rfl⟩
  clear n1 n2
  go_enter Try.func3, Try.ntmps3
  go_wp2_with (first
    | (go_at_call 8; refine (wakes_any _).mono ?_; rintro e w1 ⟨rfl, hb1⟩; have HB1 := Keep.mk hb1; clear hb1)
    | (go_at_call 9
       go_loud (refine (new_wl n w1).mono ?_; rintro e w2 ⟨rfl, h2, b2⟩)
       have h2 := wl_now h2 (show min (max n 0) 1099511627776 = n by have := NN.out; omega)
       have hmk := MK.out w2
       have T2 := Keep.mk (One.made h2 (HB1.out.trans (b2.mono HB1.out.size)) HB1.out.size b2.size)
       clear h2 b2)
    | fail)
  obtain ⟨b, hb⟩ : ∃ b, w1.heap.size + 1 = b := ⟨_, rfl⟩
  obtain ⟨m, hm⟩ : ∃ m, w1.heap.size = m := ⟨_, rfl⟩
  obtain ⟨g, hg⟩ : ∃ g, w2.heap.size = g := ⟨_, rfl⟩
  rw [hb, hm, hg] at T2
  rw [hb, hg]
  clear hb hm hg HB1 hmk
  go_loopw [33] (fun i wr => ∃ (k : Nat) (S : Nat → Value) (L : List Due), k ≤ l.length ∧ i = .int .i64 k ∧ Keep (One w wr m b m k g S n L (fun _ => false) 0) ∧ Keep (Armed l n k L)) (fun i _ => l.length - (intOf i).toNat)
  case atStart => exact ⟨0, _, [], by omega, rfl, T2, ⟨rfl, by simp⟩⟩
  case round =>
    obtain ⟨k, S, L, hk, rfl, HT, HLL⟩ := hrel
    by_cases hlt : k < l.length
    · obtain ⟨ga, off, hA, hgl, hcs⟩ := HA.out.rd (List.ne_nil_of_length_pos (by omega))
      obtain ⟨x, hx⟩ : ∃ x, l[k] = x := ⟨_, rfl⟩
      have hlx : l[k]? = some x := by rw [List.getElem?_eq_getElem hlt, hx]
      have hbd := bounds_u16 (HL.out x (List.mem_of_getElem? hlx))
      have c0 : wr.cell? ⟨ga, off + k, none⟩ = some (.int .u16 x) := by
        have := (HT.out.below.cell (p := ⟨ga, off + k * 1 + 0, none⟩) hgl).trans (hcs k x hlx 0 _ rfl)
        rwa [Nat.mul_one, Nat.add_zero] at this
      obtain ⟨y, hy⟩ : ∃ y, x % 4096 = y := ⟨_, rfl⟩
      have qx : IntKind.i64.wrap x = x := IntWalk.i64_in _ (by omega)
      have t1 : x.tmod 4096 = y := by rw [← hy]; exact Int.tmod_eq_emod_of_nonneg (by omega)
      have hn := NN.out
      have q4 : IntKind.i64.wrap (n + 1 + y) = n + 1 + y := IntWalk.i64_in _ (by omega)
      have hd : dropH (k : Int) L = L := dropH_all fun d hd => by have := (HLL.out.lies d hd).lt; omega
      have hLk := HLL.out.len
      have A1 := Keep.mk (arm_wl HT.out.h HT.out.hs (x := (k : Int)) (t := n + 1 + y) (wfI_of (by omega) (by omega)) (by omega) (by omega) (by omega) (by omega) (by omega) (by omega))
      have HD := Keep.mk hd
      have HLI : Keep (Lies l n (k + 1) ((k : Int), n + 1 + y)) := ⟨k, x, rfl, by omega, hlx, by show n + 1 + y = n + 1 + x % 4096; omega⟩
      subst hA
      have hlti : ((k : Nat) : Int) < (l.length : Int) := by omega
      clear hcs hgl hx hlx hbd hy hn hd hLk
      go_wp2_with (first
        | (go_at_call 10
           go_loud (refine A1.out.mono ?_; rintro e w3 ⟨rfl, S3, h3, f3⟩)
           rw [HD.out] at h3
           have T3 := Keep.mk (HT.out.turn h3 f3)
           clear h3 f3)
        | fail)
      go_roundw
      case rel => exact ⟨k + 1, S3, L ++ [((k : Int), n + 1 + y)], by omega, by go_num, T3, ⟨⟨by rw [List.length_append, HLL.out.len]; rfl, fun d hd => by
        rcases List.mem_append.1 hd with h | h
        · exact (HLL.out.lies d h).up (by omega)
        · obtain rfl : d = ((k : Int), n + 1 + y) := by simpa using h
          exact HLI.out⟩⟩⟩
      case measure => simp [intOf] <;> omega
    · have hke : k = l.length := by omega
      subst hke
      have GN : Keep (Gone l n L (fun _ => false) 0) := ⟨⟨by have := HLL.out.len; omega, HLL.out.lies, fun _ _ => rfl⟩⟩
      clear hk HLL T2
      go_wp2
      go_loopw [51] (fun i wr' => ∃ (j : Nat) (S : Nat → Value) (L : List Due) (G : Int → Bool) (c : Nat), j ≤ s.length ∧ i = .int .i64 j ∧ Keep (One w wr' m b m l.length g S n L G c) ∧ Keep (Gone l n L G c)) (fun i _ => s.length - (intOf i).toNat)
      case atStart => exact ⟨0, S, L, _, 0, by omega, rfl, HT, GN⟩
      case round =>
        clear GN HT
        obtain ⟨j, S, L, G, c, hj, rfl, HT, GN⟩ := hrel
        by_cases hjl : j < s.length
        · obtain ⟨gb, off, hB, hgl, hcs⟩ := HB.out.rd (List.ne_nil_of_length_pos (by omega))
          obtain ⟨x, hx⟩ : ∃ x, s[j] = x := ⟨_, rfl⟩
          have hsx : s[j]? = some x := by rw [List.getElem?_eq_getElem hjl, hx]
          have hbd := bounds_u8 (HS.out x (List.mem_of_getElem? hsx))
          have c0 : wr.cell? ⟨gb, off + j, none⟩ = some (.int .u8 x) := by
            have := (HT.out.below.cell (p := ⟨gb, off + j * 1 + 0, none⟩) hgl).trans (hcs j x hsx 0 _ rfl)
            rwa [Nat.mul_one, Nat.add_zero] at this
          have qx : IntKind.i64.wrap x = x := IntWalk.i64_in _ (by omega)
          have hL1 : L.length ≤ 50 := by have := GN.out.len; omega
          have hwx : wfI x := wfI_of (by omega) (by omega)
          have WX := Keep.mk hwx
          have hT1 := HT.out.quiet ((Below.refl _ wr).alloc (Nat.le_refl _) (.cells #[.int .i64 x] 3))
          have hn := NN.out
          have C1 := (cancel_wl hT1.h hT1.hs (g := wr.heap.size) (c := 1) (x := x) (by simp) (by rw [World.cell?_alloc_new]; rfl) hwx (by omega) (by omega) (by omega))
          have HT1 := Keep.mk hT1
          subst hB
          have hji : ((j : Nat) : Int) < (s.length : Int) := by omega
          cases ht : tk L x with
          | none =>
            rw [ht, show dropH x L = L from dropH_all (tk_none.1 ht)] at C1
            have C1 := Keep.mk C1
            clear hcs hgl hsx hx hbd hL1 hT1 hn ht hwx
            go_wp2_with (first
              | (go_at_call 11
                 go_loud (refine C1.out.mono ?_; rintro e w3 ⟨rfl, S3, h3, f3⟩)
                 rw [show one none = 0 from rfl]
                 have T3 := Keep.mk (HT1.out.turn h3 f3)
                 clear h3 f3)
              | fail)
            go_roundw
            case rel => exact ⟨j + 1, S3, L, G, c, by omega, by go_num, T3, GN⟩
            case measure => simp [intOf] <;> omega
          | some t =>
            rw [ht] at C1
            have C1 := Keep.mk C1
            have GN2 := Keep.mk (GN.out.drop HT.out.h.nodup ht)
            have hG : G x = false := GN.out.free _ (tk_some ht)
            have HG := Keep.mk hG
            have HC : Keep (c < maxLen) := ⟨by have := GN.out.len; unfold maxLen; omega⟩
            clear hcs hgl hsx hx hbd hL1 hT1 hn ht hwx hG
            go_wp2_with (first
              | (go_at_call 11
                 go_loud (refine C1.out.mono ?_; rintro e w3 ⟨rfl, S3, h3, f3⟩)
                 rw [show one (some t) = 1 from rfl]
                 obtain ⟨w4, hput, h4⟩ := (HT1.out.turn h3 f3).put HC.out WX.out HG.out
                 have T4 := Keep.mk h4
                 clear h3 f3 h4)
              | fail)
            go_roundw
            case rel => exact ⟨j + 1, S3, dropH x L, setB G x, c + 1, by omega, by go_num, T4, GN2⟩
            case measure => simp [intOf] <;> omega
        · have hje : j = s.length := by omega
          subst hje
          have hL : L.length ≤ 50 := by have := GN.out.len; omega
          have hwf : ∀ d ∈ L, wfI d.1 := fun d hd => by
            have := (GN.out.lies d hd).lt
            exact wfI_of (by omega) (by omega)
          have hn := NN.out
          have AD := Keep.mk (advance_wl HT.out.h HT.out.hs (n + 5000) (by omega) (by omega) (by omega) hwf)
          clear hL hwf hn hj
          go_wp2_with (first
            | (go_at_call 12
               go_loud (refine AD.out.mono ?_; rintro e w5 ⟨v5, S5, L5, O, rfl, h5, hb5, hn5, f5, ha5⟩)
               have hmk := MK.out w5
               obtain ⟨rfl, hp⟩ := adv_all ha5 (fun d hd => by have := (GN.out.lies d hd).lt; have := NN.out; omega)
               have HP := Keep.mk hp
               have HND := Keep.mk HT.out.h.nodup
               have SO := Keep.mk ha5.sorted
               obtain ⟨A5, c5, rfl, -⟩ := own_slice hb5.own
               have T5 := Keep.mk (HT.out.turn h5 f5)
               have HO := Lib.hid hb5.own
               clear h5 hb5 hn5 f5 ha5 hp)
            | fail)
          obtain ⟨wo, hwo⟩ : ∃ wo : World, wo = w5 := ⟨_, rfl⟩
          subst hwo
          obtain ⟨me, hme⟩ : ∃ me, wo.heap.size = me := ⟨_, rfl⟩
          have BM : Keep (Bs (wo.alloc (.map #[] 0)) me 0 (fun _ => false) 0) := ⟨hme ▸ Bs.made wo⟩
          have BB : Keep (Below me wo (wo.alloc (.map #[] 0))) := ⟨(Below.refl _ wo).alloc (Nat.le_of_eq hme.symm) _⟩
          have HME := Keep.mk hme
          rw [hme]
          clear hme hmk
          go_loopw [73] (fun i wr => ∃ (k : Nat) (M : Int → Bool), k ≤ O.length ∧ i = .int .i64 k ∧ Keep (Below me wo wr) ∧ Keep (Bs wr me k M k) ∧ Keep (∀ x, M x = true → ∃ (j : Nat) (d : Due), j < k ∧ O[j]? = some d ∧ d.1 = x)) (fun i _ => O.length - (intOf i).toNat)
          case atStart => exact ⟨0, _, by omega, rfl, BB, BM, ⟨fun x (h : false = true) => (by cases h)⟩⟩
          case round =>
            clear BM BB
            obtain ⟨k, M, hk, rfl, HBL, HBM, HM⟩ := hrel
            by_cases hkl : k < O.length
            · obtain ⟨d, hd⟩ : ∃ d, O[k] = d := ⟨_, rfl⟩
              have hOd : O[k]? = some d := by rw [List.getElem?_eq_getElem hkl, hd]
              have hdm : d ∈ L := HP.out.mem_iff.1 (List.mem_of_getElem? hOd)
              obtain ⟨j, x, hj1, hj2, hj3, hj4⟩ := GN.out.lies d hdm
              obtain ⟨d1, d2⟩ := d
              obtain rfl : d1 = (j : Int) := hj1
              obtain ⟨y, hy⟩ : ∃ y, x % 4096 = y := ⟨_, rfl⟩
              obtain rfl : d2 = n + 1 + y := by rw [← hy]; exact hj4
              have hbd := bounds_u16 (HL.out x (List.mem_of_getElem? hj3))
              have hnn := NN.out
              have qx : IntKind.i64.wrap x = x := IntWalk.i64_in _ (by omega)
              have t1 : x.tmod 4096 = y := by rw [← hy]; exact Int.tmod_eq_emod_of_nonneg (by omega)
              have qy : IntKind.i64.wrap (n + 1 + y) = n + 1 + y := IntWalk.i64_in _ (by omega)
              have wj : wfI (j : Int) := wfI_of (by omega) (by omega)
              obtain ⟨g5, o5, e5, hg5, hc5⟩ := Rd.of_own dueC_length (by decide) HO.out (List.ne_nil_of_length_pos (by omega))
              obtain ⟨ga, oa, eA, hga, hca5⟩ := HA.out.rd (List.ne_nil_of_length_pos (by omega))
              have hbl : Below wo.heap.size wo wr := HME.out ▸ HBL.out
              have p0 : wr.cell? ⟨g5, o5 + k * 2, none⟩ = some (.int .i64 (j : Int)) := (hbl.cell (p := ⟨g5, _, none⟩) hg5).trans (hc5 k _ hOd 0 _ rfl)
              have p1 : wr.cell? ⟨g5, o5 + k * 2 + 1, none⟩ = some (.int .i64 (n + 1 + y)) := (hbl.cell (p := ⟨g5, _, none⟩) hg5).trans (hc5 k _ hOd 1 _ rfl)
              subst e5
              subst eA
              have hki : ((k : Nat) : Int) < (O.length : Int) := by omega
              have hji : ((j : Nat) : Int) < (l.length : Int) := by omega
              obtain ⟨W, hW⟩ : ∃ W, wr.alloc (.cells #[.int .i64 (j : Int), .int .i64 (n + 1 + y)] 35) = W := ⟨_, rfl⟩
              have hWb : Below wr.heap.size wr W := hW ▸ (Below.refl _ wr).alloc (Nat.le_refl _) _
              have e0 : W.cell? ⟨wr.heap.size, 0, none⟩ = some (.int .i64 (j : Int)) := by rw [← hW, World.cell?_alloc_new]; rfl
              have e1 : W.cell? ⟨wr.heap.size, 1, none⟩ = some (.int .i64 (n + 1 + y)) := by rw [← hW, World.cell?_alloc_new]; rfl
              have ct : W.cell? ⟨ga, oa + j, none⟩ = some (.int .u16 x) := by
                have h1 := (T5.out.below.cell (p := ⟨ga, oa + j * 1 + 0, none⟩) hga).trans (hca5 j x hj3 0 _ rfl)
                have h2 := (hbl.cell (p := ⟨ga, oa + j * 1 + 0, none⟩) (Nat.lt_of_lt_of_le hga T5.out.below.size)).trans h1
                have h3 := (hWb.cell (p := ⟨ga, oa + j * 1 + 0, none⟩) (Nat.lt_of_lt_of_le hga (Nat.le_trans T5.out.below.size hbl.size))).trans h2
                rwa [Nat.mul_one, Nat.add_zero] at h3
              have hM : M (j : Int) = false := by
                cases hc : M (j : Int) with
                | false => rfl
                | true =>
                  obtain ⟨j', d', h1, h2, h3⟩ := HM.out _ hc
                  have hnd : (O.map (·.1)).Nodup := (HP.out.map _).nodup_iff.2 HND.out
                  have h4 : (O.map (·.1))[j']? = (O.map (·.1))[k]? := by rw [List.getElem?_map, List.getElem?_map, h2, hOd]; exact congrArg some h3
                  have := (List.getElem?_inj (by rw [List.length_map]; omega) hnd).1 h4
                  omega
              have BW := HBM.out.same (hWb.block me HBM.out.lt)
              have l1 : ∀ q, (Instr.lookup 28 (.map (some me)) (.int .i64 (j : Int)) false).run Try.prog (W.drewN q) = .ok (.bool false) (W.drewN q) := fun q => by
                have := (BW.drew q).look wj
                rwa [hM] at this
              have l2 : ∀ q, (Instr.lookup 28 (.map (some g)) (.int .i64 (j : Int)) false).run Try.prog (W.drewN q) = .ok (.bool false) (W.drewN q) := fun q => by
                have := (((T5.out.gone.same (hbl.block g T5.out.gone.lt)).same (hWb.block g (Nat.lt_of_lt_of_le T5.out.gone.lt hbl.size))).drew q).look wj
                rwa [GN.out.free _ hdm] at this
              have hfin : ∀ q : Nat, ∃ w', (Instr.mapUpdate 28 (.map (some me)) (.int .i64 (j : Int)) (.bool true)).run Try.prog (W.drewN q) = .ok () w' ∧ Bs w' me (k + 1) (setB M (j : Int)) (k + 1) ∧ Below me wo w' := fun q => by
                have hO50 : O.length ≤ 50 := by rw [HP.out.length_eq]; have := GN.out.len; omega
                obtain ⟨w', h1, h2, h3⟩ := (BW.drew q).putBelow (x := (j : Int)) (z := me) (by unfold maxLen; omega) wj (Nat.le_refl _)
                rw [hM] at h2
                have h4 : Below me wo (W.drewN q) := HBL.out.trans (⟨hWb.os, hWb.tape, hWb.output, hWb.size, fun i hi => hWb.block i (Nat.lt_trans hi HBM.out.lt)⟩)
                exact ⟨w', h1, h2, h4.trans h3⟩
              have HF := Keep.mk hfin
              have HM2 : Keep (∀ x, setB M (j : Int) x = true → ∃ (j' : Nat) (d : Due), j' < k + 1 ∧ O[j']? = some d ∧ d.1 = x) := ⟨fun x hx => by
                by_cases e : x = (j : Int)
                · subst e; exact ⟨k, _, by omega, hOd, rfl⟩
                · rw [setB_other M e] at hx
                  obtain ⟨j', d', h1, h2, h3⟩ := HM.out _ hx
                  exact ⟨j', d', by omega, h2, h3⟩⟩
              have HBD : Keep (∀ k', k = k' + 1 → ∃ c : Due, lexle c ((j : Int), n + 1 + y) ∧ W.cell? ⟨g5, o5 + k' * 2, none⟩ = some (.int .i64 c.1) ∧ W.cell? ⟨g5, o5 + k' * 2 + 1, none⟩ = some (.int .i64 c.2)) := ⟨fun k' e => by
                obtain ⟨c, hc⟩ : ∃ c, O[k']? = some c := ⟨_, List.getElem?_eq_getElem (by omega)⟩
                refine ⟨c, ?_, ?_, ?_⟩
                · rw [List.getElem?_eq_getElem (by omega)] at hc hOd
                  injection hc with hc
                  injection hOd with hOd
                  rw [← hc, ← hOd]
                  exact List.pairwise_iff_getElem.1 SO.out _ _ _ _ (by omega)
                · exact (hWb.cell (p := ⟨g5, _, none⟩) (Nat.lt_of_lt_of_le hg5 hbl.size)).trans ((hbl.cell (p := ⟨g5, _, none⟩) hg5).trans (hc5 k' c hc 0 _ rfl))
                · exact (hWb.cell (p := ⟨g5, _, none⟩) (Nat.lt_of_lt_of_le hg5 hbl.size)).trans ((hbl.cell (p := ⟨g5, _, none⟩) hg5).trans (hc5 k' c hc 1 _ rfl))⟩
              have HKL := Keep.mk hkl
              have HO50 : Keep (O.length ≤ 50) := ⟨by rw [HP.out.length_eq]; have := GN.out.len; omega⟩
              clear hc5 hg5 hd hOd hdm hbl hca5 hga hj2 hj3 hj4 hbd hnn wj hM BW hfin hWb hy
              go_wp2
              try rw [hW]
              clear hW p0 p1
              cases k with
              | zero =>
                go_quiet (fail)
                obtain ⟨w7, hput, b7, bl7⟩ := HF.out nq
                have B7 := Keep.mk b7
                have BL7 := Keep.mk bl7
                have e0' : (W.drewN nq).cell? ⟨wr.heap.size, 0, none⟩ = some (.int .i64 (j : Int)) := e0
                clear b7 bl7 e0 e1 ct l1 l2
                go_wp2_with fail
                go_roundw
                case rel => exact ⟨0 + 1, _, by have := HKL.out; omega, by go_num, BL7, B7, HM2⟩
                case measure => have := HKL.out; simp [intOf] <;> omega
              | succ k =>
                obtain ⟨⟨c1, c2⟩, hle, p2, p3⟩ := HBD.out k rfl
                have hle : c2 < n + 1 + y ∨ (c2 = n + 1 + y ∧ c1 ≤ (j : Int)) := hle
                have hO50 := HO50.out
                have qk0 : IntKind.i64.wrap (k : Int) = (k : Int) := IntWalk.i64_in _ (by omega)
                have qk : IntKind.i64.wrap (((k + 1 : Nat) : Int) - 1) = (k : Int) := by rw [show (((k + 1 : Nat) : Int) - 1) = (k : Int) by omega]; exact qk0
                have hk1 : (k : Int) < (O.length : Int) := by omega
                have hk0 : (0 : Int) < ((k + 1 : Nat) : Int) := by omega
                rcases hle with h1 | ⟨rfl, h2⟩
                · have h3 : ¬ n + 1 + y < c2 := by omega
                  have h4 : ¬ c2 = n + 1 + y := by omega
                  clear h1
                  go_quiet (fail)
                  obtain ⟨w7, hput, b7, bl7⟩ := HF.out nq
                  have B7 := Keep.mk b7
                  have BL7 := Keep.mk bl7
                  have e0' : (W.drewN nq).cell? ⟨wr.heap.size, 0, none⟩ = some (.int .i64 (j : Int)) := e0
                  clear b7 bl7 e0 e1 ct l1 l2
                  go_wp2_with fail
                  go_roundw
                  case rel => exact ⟨k + 1 + 1, _, by have := HKL.out; omega, by go_num, BL7, B7, HM2⟩
                  case measure => have := HKL.out; simp [intOf] <;> omega
                · have h3 : ¬ (j : Int) < c1 := by omega
                  clear h2
                  go_quiet (fail)
                  obtain ⟨w7, hput, b7, bl7⟩ := HF.out nq
                  have B7 := Keep.mk b7
                  have BL7 := Keep.mk bl7
                  have e0' : (W.drewN nq).cell? ⟨wr.heap.size, 0, none⟩ = some (.int .i64 (j : Int)) := e0
                  clear b7 bl7 e0 e1 ct l1 l2
                  go_wp2_with fail
                  go_roundw
                  case rel => exact ⟨k + 1 + 1, _, by have := HKL.out; omega, by go_num, BL7, B7, HM2⟩
                  case measure => have := HKL.out; simp [intOf] <;> omega
            · have hke : k = O.length := by omega
              subst hke
              have hbl : Below wo.heap.size wo wr := HME.out ▸ HBL.out
              have hln : ∀ ty, (Builtin.len_ #[28] ty #[.map (some g)]).run Try.prog wr = .ok (.int .i64 c) wr := fun ty => (T5.out.gone.same (hbl.block g T5.out.gone.lt)).len ty
              have LN := Keep.mk (len_wl (T5.out.h.below hbl))
              have hsum : (O.length : Int) + (c : Int) = (l.length : Int) := by have := GN.out.len; have := HP.out.length_eq; omega
              have hw : IntKind.i64.wrap ((O.length : Int) + (c : Int)) = (l.length : Int) := by rw [hsum]; exact IntWalk.i64_in _ (by omega)
              have HBE : Keep (Below w.heap.size w wr) := ⟨T5.out.below.trans (hbl.mono T5.out.below.size)⟩
              clear hk hbl hsum
              go_wp2_with (first
                | (go_at_call 13
                   go_loud (refine LN.out.mono ?_; rintro e wr ⟨rfl, rfl⟩))
                | fail)
              go_ret
              exact ⟨rfl, HBE.out⟩
end Go.Proofs.Ytmjmiadogniopaa
