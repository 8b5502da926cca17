/-
  The walk of the law TokenOwners.
-/
import Derived.Test.YtdmmcgcglkblhaaDoorOpenBytes
import Derived.Test.YtdmmcgcglkblhaaDoorTkO
namespace Go.Proofs.YtdmmcgcglkblhaaDoor
open Go.RowKit Go.Maps

set_option maxRecDepth 100000 in
set_option maxHeartbeats 6400000 in
theorem tokenOwners_walk (A : Option Addr) (nA cA : Nat) (ks : List Int) (fr : Int) (w : World) (ha0 : Arg w 1 (encI .u64) A nA cA ks) (hks0 : ∀ z ∈ ks, (Lit.int .u64 z).wf = true) (f0 : 0 ≤ fr) (f1 : fr ≤ 255) :
    Calls Tryd.prog 4 #[.slice A nA cA, .int .u8 fr] w fun e w' => e = .returned (.bool true) ∧ Below w.heap.size w w' := by
  have ha : Arg w 1 encU A nA cA ks := ha0
  have HA := Lib.hid ha
  have HKS : Keep (∀ z ∈ ks, 0 ≤ z ∧ z < 18446744073709551616) := ⟨fun z hz => by have := bounds_u64 (hks0 z hz); omega⟩
  have hla := ha.hlen
  have hca := ha.hcap
  clear ha ha0 hks0
  subst hla
  by_cases h20 : 20 < ks.length
  · have h20' : (20 : Int) < (ks.length : Int) := by omega
    go_enter Tryd.func4, Tryd.ntmps4
    go_wp2_with (first
      | (go_at_call 8; refine (wakes_any _).mono ?_; rintro e w1 ⟨rfl, hb1⟩; have HB1 := Keep.mk hb1; clear hb1)
      | fail)
    go_ret
    exact ⟨rfl, HB1.out⟩
  have h20' : ¬ (20 : Int) < (ks.length : Int) := by omega
  have q1 : IntKind.i64.wrap fr = fr := IntWalk.i64_in _ (by omega)
  have HF : Keep (0 ≤ fr ∧ fr ≤ 255) := ⟨f0, f1⟩
  clear f0 f1
  have MK : Keep (∀ w : World, (Instr.makeMap 38 none).run Tryd.prog w = .ok (.map (some w.heap.size)) (w.alloc (.map #[] 0))) := ⟨fun _ => rfl⟩
  go_enter Tryd.func4, Tryd.ntmps4
  go_wp2_with (first
    | (go_at_call 8; refine (wakes_any _).mono ?_; rintro e w1 ⟨rfl, hb1⟩; have HB1 := Keep.mk hb1; clear hb1)
    | (go_at_call 9
       go_loud (refine (tnew_any 64 w1).mono ?_; rintro e w2 ⟨rfl, t2, b2⟩)
       rw [show min (max (64 : Int) 1) 64 = 64 by decide] at t2
       have hmk := MK.out w2
       have hsz : w1.heap.size + 1 < w2.heap.size := t2.lt
       have O2 : Keep (Oz w (w2.alloc (.map #[] 0)) (w1.heap.size + 1) w1.heap.size 0 w2.heap.size 0 (fun _ => none) (fun _ => none) 0 ks 0) := ⟨{
         tb := t2.below ((Below.refl _ w2).alloc (Nat.le_refl _) _)
         ow := Ow.made w2
         nm := by omega
         nb := by omega
         low := by omega
         eq := fun _ => rfl
         live := fun _ _ h => by cases h
         done := by simp
         below := (HB1.out.trans (b2.mono HB1.out.size)).alloc (HB1.out.trans (b2.mono HB1.out.size)).size _
         hm := HB1.out.size }⟩
       clear t2 b2 hsz)
    | fail)
  obtain ⟨b, hb⟩ : ∃ b, w1.heap.size + 1 = b := ⟨_, rfl⟩
  obtain ⟨m, hm⟩ : ∃ m, w1.heap.size = m := ⟨_, rfl⟩
  obtain ⟨mo, hmo⟩ : ∃ mo, w2.heap.size = mo := ⟨_, rfl⟩
  rw [hb, hm, hmo] at O2
  rw [hb, hmo]
  clear hb hm hmo HB1 hmk
  go_loopw [28] (fun i wr => ∃ (j nb nbo k : Nat) (M : Int → Option En) (OM : Int → Option Int), j ≤ ks.length ∧ i = .int .i64 j ∧ Keep (nb ≤ j ∧ nbo ≤ j ∧ k ≤ j) ∧ Keep (Oz w wr b m nb mo nbo M OM k ks j)) (fun i _ => ks.length - (intOf i).toNat)
  case atStart => exact ⟨0, 0, 0, 0, _, _, by omega, rfl, ⟨by omega, by omega, by omega⟩, O2⟩
  case round =>
    clear O2
    obtain ⟨j, nb, nbo, k, M, OM, hj, rfl, HN, HO⟩ := hrel
    by_cases hlt : j < ks.length
    · obtain ⟨ga, off, hA, hgl, hcs⟩ := HA.out.rd (List.ne_nil_of_length_pos (by omega))
      obtain ⟨x, hx⟩ : ∃ x, ks[j] = x := ⟨_, rfl⟩
      have hlx : ks[j]? = some x := by rw [List.getElem?_eq_getElem hlt, hx]
      have hbx := HKS.out x (List.mem_of_getElem? hlx)
      have c0 : wr.cell? ⟨ga, off + j, none⟩ = some (.int .u64 x) := by
        have := (HO.out.below.cell (p := ⟨ga, off + j * 1 + 0, none⟩) hgl).trans (hcs j x hlx 0 _ rfl)
        rwa [Nat.mul_one, Nat.add_zero] at this
      have qj : IntKind.i64.wrap ((j : Int) + 1) = (j : Int) + 1 := IntWalk.i64_in _ (by omega)
      obtain ⟨t, ht⟩ : ∃ t, tokN x = t := ⟨_, rfl⟩
      have TK : Keep (∀ W, Calls Tryd.prog 11 #[.int .u64 x] W fun e w' => e = .returned (.int .u32 t) ∧ Below W.heap.size W w') := ⟨fun W => ht ▸ token_any x W hbx.1 hbx.2⟩
      have WT : Keep (wfU t) := ⟨by have := tok_bd x; rw [ht] at this; exact wfU_of this.1 (by omega)⟩
      have OW := Keep.mk (HO.out.quiet ((Below.refl _ wr).alloc (Nat.le_refl _) (.cells #[.int .u64 x] 22)))
      have C3 := Keep.mk (tk_take _ _ _ _ _ _ _ ((j : Int) + 1) _ 1 1 [x] _ OW.out.tb (Arg.new' wr _ rfl 22 (0, 0) 1 encU encU_length [x] 1 rfl (by decide)) (by simp only [List.mem_singleton]; rintro z rfl; exact hbx) (by omega) (by have := HN.out; omega))
      subst hA
      have hji : ((j : Nat) : Int) < (ks.length : Int) := by omega
      have HJ := Keep.mk hlt
      have HLX := Keep.mk hlx
      have HTX := Keep.mk ht
      have HK64 : Keep ((k : Int) ≠ 64) := ⟨by have := HN.out; omega⟩
      have WJ : Keep (wfJ ((j : Int) + 1)) := ⟨wfJ_of (by omega) (by omega)⟩
      have HNB : Keep (nbo < maxLen) := ⟨by have := HN.out; unfold maxLen; omega⟩
      cases hM : M t with
      | none =>
        have HM := Keep.mk hM
        clear hcs hgl hx hlx hbx ht hM hlt hj
        go_wp2_with (first
          | (go_at_call 10
             go_loud (refine C3.out.mono ?_; rintro e w4 h4)
             obtain ⟨rfl, t4, f4⟩ := h4.first HK64.out (by rw [HTX.out]; exact HM.out)
             rw [HTX.out] at t4
             have T4 := Keep.mk t4
             have F4 := Keep.mk f4
             clear h4 t4 f4)
          | (go_at_call 11
             go_loud (refine (TK.out _).mono ?_; rintro e w5 ⟨rfl, hb5⟩)
             obtain ⟨w6, hput, os6⟩ := OW.out.took HM.out T4.out F4.out HNB.out WT.out WJ.out HLX.out HTX.out hb5
             have O6 := Keep.mk os6
             clear hb5 os6)
          | fail)
        go_roundw
        case rel => exact ⟨j + 1, nb + 1, nbo + 1, k + 1, _, _, by have := HJ.out; omega, by go_num, ⟨by have := HN.out; omega, by have := HN.out; omega, by have := HN.out; omega⟩, O6⟩
        case measure => have := HJ.out; simp [intOf] <;> omega
      | some en =>
        have HM : Keep ((M (tokN x)).isSome = true) := ⟨by rw [ht, hM]; rfl⟩
        clear hcs hgl hx hlx hbx ht hM hlt hj
        go_wp2_with (first
          | (go_at_call 10
             go_loud (refine C3.out.mono ?_; rintro e w4 h4)
             obtain ⟨rfl, t4, f4⟩ := h4.nobody HK64.out (by simp only [List.mem_singleton]; rintro z rfl; exact HM.out)
             have O4 := Keep.mk (OW.out.known t4 f4 HLX.out HM.out)
             clear h4 t4 f4)
          | fail)
        go_roundw
        case rel => exact ⟨j + 1, nb, nbo, k, M, OM, by have := HJ.out; omega, by go_num, ⟨by have := HN.out; omega, by have := HN.out; omega, by have := HN.out; omega⟩, O4⟩
        case measure => have := HJ.out; simp [intOf] <;> omega
    · have hje : j = ks.length := by omega
      subst hje
      have HDONE : Keep (∀ key ∈ ks, (M (tokN key)).isSome = true) := ⟨by have := HO.out.done; rwa [List.take_length] at this⟩
      obtain ⟨D, hown, o1, o2, o3⟩ := HO.out.ow
      have O1 := Lib.hid o1
      have O2 := Lib.hid o2
      have H20 : Keep (ks.length ≤ 20) := ⟨by omega⟩
      clear hj hlt o1 o2 o3
      go_wp2_with (first
        | (at_range; refine wpList_range_own _ rfl _ 38 rfl 30 3 keyedU Tryd.underlying38 _ mo _ _ rfl hown ?_; intro w0 hrg0 hg0 hs0)
        | fail)
      try go_frame
      obtain ⟨wi, hwi⟩ : ∃ wi : World, wi = wr := ⟨_, rfl⟩
      subst hwi
      have B0 : Keep (Below wi.heap.size wi w0) := ⟨hg0.os, hg0.tape, hg0.output, hg0.size, fun l hl => hg0.block l hl (by simp)⟩
      clear hg0 hs0 hown
      go_loopw [53] (fun _ wr => ∃ (left : Lit → Bool) (cnt : Nat), wr.ranges Tryd.prog 30 (plainElem Tryd.prog 3) mo wi.heap.size nbo D left cnt ∧ Keep (Below wi.heap.size wi wr)) (fun _ wr => wr.rangeLeft mo wi.heap.size)
      case atStart => exact ⟨_, _, hrg0, B0⟩
      case round =>
        clear hrg0 B0
        obtain ⟨left, cnt, hrg, HB⟩ := hrel
        go_wp2_with (first
          | (at_next; refine wpList_next_ranges_ii _ rfl _ rfl 30 3 .u32 .i64 keyedU Tryd.underlying30 Tryd.underlying3 mo wi.heap.size nbo _ _ _ rfl hrg ?_ ?_)
          | fail)
        · intro _ hl0
          clear hl0 hrg
          have O9 := Keep.mk (HO.out.quiet HB.out)
          by_cases hz : ks.length = 0
          · have hzb : ((ks.length : Int) == 0) = true := by rw [hz]; rfl
            have AL := Keep.mk (all_any _ _ _ _ _ _ _ wr O9.out.tb (by have := HN.out; have := H20.out; omega))
            have HZ := Keep.mk hz
            clear hz
            go_wp2_with (first
              | (go_at_call 15
                 go_loud (refine AL.out.mono ?_; rintro e w5 ⟨v5, ts, rfl, -, -, -, hln, ho5, hb5⟩)
                 have hl0 : ts.length = 0 := by have := HN.out; have := HZ.out; omega
                 rw [hl0] at ho5
                 obtain ⟨A5, c5, rfl, -⟩ := own_slice ho5
                 have B5 := Keep.mk (O9.out.below.trans (hb5.mono O9.out.below.size))
                 clear hln ho5 hb5 hl0)
              | fail)
            go_ret
            exact ⟨rfl, B5.out⟩
          · have hzb : ((ks.length : Int) == 0) = false := beq_eq_false_iff_ne.2 (by omega)
            obtain ⟨f, hf⟩ : ∃ f : Nat, (f : Int) = fr % (ks.length : Int) := ⟨(fr % (ks.length : Int)).toNat, Int.toNat_of_nonneg (Int.emod_nonneg _ (by omega))⟩
            have hfl : f < ks.length := by have := Int.emod_lt_of_pos fr (show (0 : Int) < (ks.length : Int) by omega); rw [← hf] at this; omega
            have t1 : fr.tmod (ks.length : Int) = (f : Int) := by rw [Int.tmod_eq_emod_of_nonneg HF.out.1, hf]
            have q2 : IntKind.i64.wrap (f : Int) = (f : Int) := IntWalk.i64_in _ (by have := H20.out; omega)
            obtain ⟨ga, off, hA, hgl, hcs⟩ := HA.out.rd (List.ne_nil_of_length_pos (by omega))
            obtain ⟨x, hx⟩ : ∃ x, ks[f] = x := ⟨_, rfl⟩
            have hlx : ks[f]? = some x := by rw [List.getElem?_eq_getElem hfl, hx]
            have hbx := HKS.out x (List.mem_of_getElem? hlx)
            have c0 : wr.cell? ⟨ga, off + f, none⟩ = some (.int .u64 x) := by
              have := (O9.out.below.cell (p := ⟨ga, off + f * 1 + 0, none⟩) hgl).trans (hcs f x hlx 0 _ rfl)
              rwa [Nat.mul_one, Nat.add_zero] at this
            obtain ⟨t, ht⟩ : ∃ t, tokN x = t := ⟨_, rfl⟩
            have TK : Keep (∀ W, Calls Tryd.prog 11 #[.int .u64 x] W fun e w' => e = .returned (.int .u32 t) ∧ Below W.heap.size W w') := ⟨fun W => ht ▸ token_any x W hbx.1 hbx.2⟩
            have WT : Keep (wfU t) := ⟨by have := tok_bd x; rw [ht] at this; exact wfU_of this.1 (by omega)⟩
            obtain ⟨⟨eo, el, eu⟩, hM⟩ := Option.isSome_iff_exists.1 (HDONE.out x (List.mem_of_getElem? hlx))
            rw [ht] at hM
            obtain rfl : el = true := HO.out.live _ _ hM
            subst hA
            have hfi : ((f : Nat) : Int) < (ks.length : Int) := by omega
            have hf0 : (0 : Int) ≤ ((f : Nat) : Int) := by omega
            have HM := Keep.mk hM
            clear hcs hgl hx hlx hbx ht hM hf hfl hz
            go_wp2_with (first
              | (go_at_call 11
                 go_loud (refine (TK.out _).mono ?_; rintro e w5 ⟨rfl, hb5⟩)
                 have O5 := Keep.mk (O9.out.quiet hb5)
                 have C5 := Keep.mk (free_yes _ _ _ _ _ _ _ t 3 eo eu w5 O5.out.tb WT.out HM.out (by have := HN.out; have := H20.out; omega) (by omega) (by omega))
                 clear hb5)
              | (go_at_call 12
                 go_loud (refine C5.out.mono ?_; rintro e w6 ⟨rfl, t6, f6⟩)
                 have B6 := Keep.mk (O5.out.below.trans (f6.below O5.out.hm O5.out.below.size))
                 have W6 := Keep.mk (O5.out.ow.same (f6.block mo O5.out.ow.lt O5.out.nm))
                 have C7 := find_any _ _ _ _ _ _ _ t w6 t6 WT.out
                 rw [show liveT (setT M t (some ⟨0, false, 3 + 10⟩)) t = false by unfold liveT; rw [setT_same], show ownT (setT M t (some ⟨0, false, 3 + 10⟩)) t = 0 by unfold ownT; rw [setT_same]] at C7
                 have D7 := Keep.mk C7
                 have T6 := Keep.mk t6
                 clear C7 t6 f6)
              | (go_at_call 13
                 go_loud (refine D7.out.mono ?_; rintro e w7 ⟨rfl, b7⟩)
                 have T7 := Keep.mk (T6.out.below b7)
                 have W7 := Keep.mk (W6.out.same (b7.block mo W6.out.lt))
                 have B7 := Keep.mk (B6.out.trans (b7.mono B6.out.size))
                 have AL := Keep.mk (all_any _ _ _ _ _ _ _ w7 T7.out (by have := HN.out; have := H20.out; omega))
                 clear b7)
              | (go_at_call 15
                 go_loud (refine AL.out.mono ?_; rintro e w8 ⟨v8, ts, rfl, hmem, hnd, -, -, ho8, hb8⟩)
                 have hln := T7.out.mp.count hnd hmem
                 rw [hln] at ho8
                 obtain ⟨A8, c8, rfl, -⟩ := own_slice ho8
                 have hl8 : ∀ ty, (Builtin.len_ #[38] ty #[.map (some mo)]).run Tryd.prog w8 = .ok (.int .i64 k) w8 := fun ty => (W7.out.same (hb8.block mo W7.out.lt)).len ty
                 have B8 := Keep.mk (B7.out.trans (hb8.mono B7.out.size))
                 clear hmem hnd ho8 hb8 hln)
              | fail)
            go_ret
            exact ⟨by simp, B8.out⟩
        · intro x c w1 cnt1 hwx hwc hlx hat hrg1 hlt hg1 hs1 hen
          have hOM : OM x = some c := by
            have hh := has_true_of_atKey hat
            rw [O1.out] at hh
            obtain ⟨c1, e1⟩ := Option.isSome_iff_exists.1 hh
            have a := hat (.lit (.int .i64 0))
            rw [O2.out x c1 e1] at a
            injection a with a
            injection a with _ a
            rw [e1, a]
          have hfd : ownT M x = c ∧ liveT M x = true := by
            have := HO.out.eq x
            rw [hOM] at this
            cases hm : M x with
            | none => rw [hm] at this; cases this
            | some en =>
              rw [hm] at this
              refine ⟨?_, ?_⟩
              · unfold ownT; rw [hm]; injection this with this; exact this.symm
              · unfold liveT; rw [hm]; exact HO.out.live _ _ hm
          have B1 : Keep (Below wi.heap.size wi w1) := ⟨HB.out.trans ⟨hg1.os, hg1.tape, hg1.output, hg1.size, fun l hl => hg1.block l (by have := HB.out.size; omega) (by simp; omega)⟩⟩
          have FD := find_any _ _ _ _ _ _ _ x w1 (HO.out.tb.below B1.out) hwx
          rw [hfd.1, hfd.2] at FD
          have FE := Keep.mk FD
          have HLE := Keep.mk hlt
          have HRO := Keep.mk hrg
          have HR1 := Keep.mk hrg1
          clear FD hOM hfd hat hlx hwx hwc hlt hrg hrg1 hg1 hs1
          go_wp2_with (first
            | (go_at_call 13
               go_loud (refine FE.out.mono ?_; rintro e w2 ⟨rfl, b2⟩)
               have HR2 := Keep.mk (HR1.out.kept (grown_of_below b2 none) (by simp) (by simp))
               have B2 := Keep.mk (B1.out.trans (b2.mono B1.out.size))
               clear b2)
            | fail)
          go_roundw
          case rel => exact ⟨_, cnt1, HR2.out, B2⟩
          case measure => rw [HR2.out.left_eq, HRO.out.left_eq]; exact HLE.out
end Go.Proofs.YtdmmcgcglkblhaaDoor
