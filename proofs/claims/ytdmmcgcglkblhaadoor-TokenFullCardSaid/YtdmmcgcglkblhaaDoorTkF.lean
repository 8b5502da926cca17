/-
  The walk of the law TokenFull.
-/
import Derived.Test.YtdmmcgcglkblhaaDoorTkV
namespace Go.Proofs.YtdmmcgcglkblhaaDoor
open Go.RowKit Go.Maps

def tks : List Int := [2941612277, 3441844757, 3439633525, 3580398162, 2147872813, 1575898582, 346838908, 2750123448]
theorem tok_one : tokN 1 = 3441844757 := by
  rw [tokN, digB_eq _ (beB_byte 1 8)]
  decide +kernel
theorem tok_two : tokN 2 = 3439633525 := by
  rw [tokN, digB_eq _ (beB_byte 2 8)]
  decide +kernel
theorem tok_three : tokN 3 = 3580398162 := by
  rw [tokN, digB_eq _ (beB_byte 3 8)]
  decide +kernel
theorem tok_four : tokN 4 = 2147872813 := by
  rw [tokN, digB_eq _ (beB_byte 4 8)]
  decide +kernel
theorem tok_seven : tokN 7 = 2750123448 := by
  rw [tokN, digB_eq _ (beB_byte 7 8)]
  decide +kernel
theorem tok_hundred : tokN 100 = 1607180899 := by
  rw [tokN, digB_eq _ (beB_byte 100 8)]
  decide +kernel
theorem tok_at : ∀ i : Nat, i < 8 → tokN (i : Int) = tks.getD i 0
  | 0, _ => tok_zero
  | 1, _ => tok_one
  | 2, _ => tok_two
  | 3, _ => tok_three
  | 4, _ => tok_four
  | 5, _ => tok_five
  | 6, _ => tok_six
  | 7, _ => tok_seven
  | n + 8, h => by omega
theorem tks_ne : ∀ i : Fin 8, ∀ j : Fin 8, i ≠ j → tks.getD i 0 ≠ tks.getD j 0 := by decide
theorem tks_hundred : ∀ i : Fin 8, tks.getD i 0 ≠ 1607180899 := by decide
theorem tok_ne {i j : Nat} (hi : i < 8) (hj : j < 8) (h : i ≠ j) : tokN (i : Int) ≠ tokN (j : Int) := by
  rw [tok_at i hi, tok_at j hj]
  exact tks_ne ⟨i, hi⟩ ⟨j, hj⟩ (fun e => h (congrArg Fin.val e))
theorem tok_ne100 {i : Nat} (hi : i < 8) : tokN (i : Int) ≠ tokN 100 := by
  rw [tok_at i hi, tok_hundred]
  exact tks_hundred ⟨i, hi⟩

/-- The first n keys' tokens are live. -/
structure Fu (M : Int → Option En) (n : Nat) : Prop where
  mem : ∀ t, (M t).isSome = true ↔ ∃ i : Nat, i < n ∧ t = tokN (i : Int)
  live : ∀ t x, M t = some x → x.l = true
theorem Fu.none : Fu (fun _ => .none) 0 := ⟨fun t => by simp, fun t x h => by cases h⟩
theorem Fu.free {M : Int → Option En} {n : Nat} (h : Fu M n) (hn : n < 8) : M (tokN (n : Int)) = .none := by
  cases hm : M (tokN (n : Int)) with
  | none => rfl
  | some x =>
    obtain ⟨i, hi, e⟩ := (h.mem _).1 (by rw [hm]; rfl)
    exact absurd e.symm (tok_ne (by omega) hn (by omega))
theorem Fu.free100 {M : Int → Option En} {n : Nat} (h : Fu M n) (hn : n ≤ 8) : M (tokN 100) = .none := by
  cases hm : M (tokN 100) with
  | none => rfl
  | some x =>
    obtain ⟨i, hi, e⟩ := (h.mem _).1 (by rw [hm]; rfl)
    exact absurd e.symm (tok_ne100 (by omega))
theorem Fu.next {M : Int → Option En} {n : Nat} (h : Fu M n) (o : Int) : Fu (setT M (tokN (n : Int)) (some ⟨o, true, 0⟩)) (n + 1) where
  mem := fun t => by
    by_cases e : t = tokN (n : Int)
    · subst e
      rw [setT_same]
      exact ⟨fun _ => ⟨n, by omega, rfl⟩, fun _ => rfl⟩
    · rw [setT_other _ _ e, h.mem]
      refine ⟨fun ⟨i, hi, hh⟩ => ⟨i, by omega, hh⟩, fun ⟨i, hi, hh⟩ => ⟨i, ?_, hh⟩⟩
      rcases Nat.lt_or_ge i n with h1 | h1
      · exact h1
      · obtain rfl : i = n := by omega
        exact absurd hh e
  live := fun t x hx => by
    by_cases e : t = tokN (n : Int)
    · subst e; rw [setT_same] at hx; cases hx; rfl
    · rw [setT_other _ _ e] at hx; exact h.live t x hx

set_option maxRecDepth 100000 in
set_option maxHeartbeats 6400000 in
theorem tokenFull_walk (cap : Int) (w : World) (c0 : 0 ≤ cap) (c1 : cap ≤ 255) :
    Calls Tryd.prog 5 #[.int .u8 cap] w fun e w' => e = .returned (.bool true) ∧ Below w.heap.size w w' := by
  have q1 : IntKind.i64.wrap cap = cap := IntWalk.i64_in _ (by omega)
  obtain ⟨c, hc⟩ : ∃ c : Nat, (c : Int) = 1 + cap % 8 := ⟨(1 + cap % 8).toNat, by omega⟩
  have t1 : cap.tmod 8 = (c : Int) - 1 := by rw [Int.tmod_eq_emod_of_nonneg c0]; omega
  have q2 : IntKind.i64.wrap ((c : Int) - 1) = (c : Int) - 1 := IntWalk.i64_in _ (by omega)
  have q3 : IntKind.i64.wrap (1 + ((c : Int) - 1)) = (c : Int) := by rw [show 1 + ((c : Int) - 1) = (c : Int) by omega]; exact IntWalk.i64_in _ (by omega)
  have HC : Keep (1 ≤ c ∧ c ≤ 8) := ⟨by omega, by omega⟩
  have hmost : min (max (c : Int) 1) 64 = (c : Int) := by omega
  have HM := Keep.mk hmost
  clear hc c0 c1 hmost
  go_enter Tryd.func5, Tryd.ntmps5
  go_wp2_with (first
    | (go_at_call 8; refine (wakes_any _).mono ?_; rintro e w1 ⟨rfl, hb1⟩; have HB1 := Keep.mk hb1; clear hb1)
    | (go_at_call 9
       go_loud (refine (tnew_any (c : Int) w1).mono ?_; rintro e w2 ⟨rfl, t2, b2⟩)
       rw [HM.out] at t2
       have T2 := Keep.mk t2
       have B2 := Keep.mk (HB1.out.trans (b2.mono HB1.out.size))
       clear t2 b2)
    | fail)
  have BW : Keep (w.heap.size ≤ w1.heap.size) := ⟨HB1.out.size⟩
  obtain ⟨b, hb⟩ : ∃ b, w1.heap.size + 1 = b := ⟨_, rfl⟩
  obtain ⟨m, hm⟩ : ∃ m, w1.heap.size = m := ⟨_, rfl⟩
  rw [hb, hm] at T2
  rw [hm] at BW
  rw [hb]
  clear hb hm HB1
  go_loopw [5, 28] (fun g i wr => ∃ (j nb : Nat) (M : Int → Option En), j ≤ 20 ∧ i = .int .u64 (j : Int) ∧ g = .int .i64 ((min j c : Nat) : Int) ∧ nb ≤ j ∧ Keep (Tb wr m b m nb (c : Int) M (min j c)) ∧ Keep (Fu M (min j c)) ∧ Keep (Below w.heap.size w wr)) (fun _ i _ => 20 - (intOf i).toNat)
  case atStart => exact ⟨0, 0, _, by omega, rfl, by simp, by omega, ⟨by simpa using T2.out⟩, ⟨by simpa using Fu.none⟩, B2⟩
  case round =>
    clear T2 B2
    obtain ⟨j, nb, M, hj, rfl, rfl, hnb, HT, HF, HB⟩ := hrel
    by_cases hlt : j < 20
    · have hj20 : ((j : Nat) : Int) < 20 := by omega
      have qj : IntKind.u64.wrap ((j : Int) + 1) = (j : Int) + 1 := by rw [IntKind.wrap_u64]; omega
      have qi : IntKind.i64.wrap (j : Int) = (j : Int) := IntWalk.i64_in _ (by omega)
      have T3 := Keep.mk (HT.out.below ((Below.refl _ wr).alloc (Nat.le_refl _) (.cells #[.int .u64 (j : Int)] 22)))
      have B3 : Keep (Below w.heap.size w (wr.alloc (.cells #[.int .u64 (j : Int)] 22))) := ⟨HB.out.alloc HB.out.size _⟩
      have C3 := (tk_take _ _ _ _ _ _ _ (j : Int) _ 1 1 [(j : Int)] _ T3.out (Arg.new' wr _ rfl 22 (0, 0) 1 encU encU_length [(j : Int)] 1 rfl (by decide)) (by simp; omega) (by omega) (by omega))
      rcases Nat.lt_or_ge j c with hjc | hjc
      · have hmn : min j c = j := by omega
        rw [hmn] at HF C3
        have C3 := Keep.mk C3
        rw [hmn]
        have HJC := Keep.mk hjc
        have HJ := Keep.mk hlt
        have HNB := Keep.mk hnb
        clear hlt hnb hj hmn HT
        go_wp2_with (first
          | (go_at_call 10
             go_loud (refine C3.out.mono ?_; rintro e w4 h4)
             obtain ⟨rfl, t4, f4⟩ := h4.first (by have := HJC.out; omega) (HF.out.free (by have := HJC.out; have := HC.out; omega))
             have T4 := Keep.mk t4
             have B4 := Keep.mk (B3.out.trans (f4.below BW.out B3.out.size))
             clear h4 t4 f4)
          | fail)
        have hm2 : min (j + 1) c = j + 1 := by have := HJC.out; omega
        go_roundw
        case rel => exact ⟨j + 1, nb + 1, _, by have := HJ.out; omega, rfl, by rw [hm2]; rfl, by have := HNB.out; omega, ⟨by rw [hm2]; exact T4.out⟩, ⟨by rw [hm2]; exact HF.out.next (j : Int)⟩, B4⟩
        case measure => have := HJ.out; simp [intOf] <;> omega
      · have hmn : min j c = c := by omega
        rw [hmn] at HF C3 HT
        have C3 := Keep.mk C3
        rw [hmn]
        have HJC := Keep.mk hjc
        have HJ := Keep.mk hlt
        have HNB := Keep.mk hnb
        clear hlt hnb hj hmn hjc
        go_wp2_with (first
          | (go_at_call 10
             go_loud (refine C3.out.mono ?_; rintro e w4 h4)
             obtain ⟨rfl, t4, f4⟩ := h4.full rfl
             have T4 := Keep.mk t4
             have B4 := Keep.mk (B3.out.trans (f4.below BW.out B3.out.size))
             clear h4 t4 f4)
          | fail)
        have hm2 : min (j + 1) c = c := by have := HJC.out; omega
        go_roundw
        case rel => exact ⟨j + 1, nb, M, by have := HJ.out; omega, rfl, by rw [hm2], by have := HNB.out; omega, ⟨by rw [hm2]; exact T4.out⟩, ⟨by rw [hm2]; exact HF.out⟩, B4⟩
        case measure => have := HJ.out; simp [intOf] <;> omega
    · obtain rfl : j = 20 := by omega
      have hmn : min 20 c = c := by have := HC.out; omega
      rw [hmn] at HT HF
      rw [hmn]
      have HNB := Keep.mk hnb
      clear hmn hlt hj hnb
      have T3 := Keep.mk (HT.out.below ((Below.refl _ wr).alloc (Nat.le_refl _) (.cells #[.int .u64 100, .int .u64 101] 22)))
      have B3 : Keep (Below w.heap.size w (wr.alloc (.cells #[.int .u64 100, .int .u64 101] 22))) := ⟨HB.out.alloc HB.out.size _⟩
      have C3 := Keep.mk (tk_take _ _ _ _ _ _ _ 9 _ 2 2 [100, 101] _ T3.out (Arg.new' wr _ rfl 22 (0, 0) 1 encU encU_length [100, 101] 2 rfl (by decide)) (by simp) (by omega) (by have := HNB.out; omega))
      go_wp2_with (first
        | (go_at_call 10
           go_loud (refine C9.out.mono ?_; rintro e w9 h9)
           obtain ⟨rfl, t9, f9⟩ := h9.first (by have := HK8.out; omega) HM3.out
           have B9 := Keep.mk (B8.out.trans (f9.below BW.out B8.out.size))
           clear h9 t9 f9)
        | (go_at_call 10
           go_loud (refine C7.out.mono ?_; rintro e w7 h7)
           obtain ⟨rfl, t7, f7⟩ := h7.full rfl
           have B7 := Keep.mk (B6.out.trans (f7.below BW.out B6.out.size))
           have C8 := Keep.mk (tick_any _ _ _ _ _ _ _ 10 w7 t7)
           clear h7 t7 f7)
        | (go_at_call 10
           go_loud (refine C3.out.mono ?_; rintro e w4 h4)
           obtain ⟨rfl, t4, f4⟩ := h4.full rfl
           have T4 := Keep.mk t4
           have B4 := Keep.mk (B3.out.trans (f4.below BW.out B3.out.size))
           have AL := Keep.mk (all_any _ _ _ _ _ _ _ w4 t4 (by have := HC.out; omega))
           clear h4 t4 f4)
        | (go_at_call 15
           go_loud (refine AL.out.mono ?_; rintro e w5 ⟨v5, ts, rfl, hmem, -, -, -, ho5, hb5⟩)
           have T5 := T4.out.below hb5
           have B5 := B4.out.trans (hb5.mono B4.out.size)
           have hne : ts ≠ [] := List.ne_nil_of_mem ((hmem (tokN ((0 : Nat) : Int))).2 ((HF.out.mem _).2 ⟨0, by have := HC.out; omega, rfl⟩))
           obtain ⟨A5, c5, rfl, -⟩ := own_slice ho5
           obtain ⟨t0, ht0⟩ : ∃ t0, ts[0]? = some t0 := ⟨_, List.getElem?_eq_getElem (List.length_pos_iff.2 hne)⟩
           obtain ⟨g5, o5, rfl, -, hc5⟩ := Rd.of_own (encE_length _) (by decide) ho5 hne
           have ct0 : w5.cell? ⟨g5, o5, none⟩ = some (.int .u32 t0) := by simpa using hc5 0 t0 ht0 0 _ rfl
           have hl0 : (0 : Int) < (ts.length : Int) := by have := List.length_pos_iff.2 hne; omega
           have hM0 := (hmem t0).1 (List.mem_of_getElem? ht0)
           obtain ⟨⟨xo, xl, xu⟩, hx⟩ := Option.isSome_iff_exists.1 hM0
           obtain rfl : xl = true := HF.out.live _ _ hx
           have WT : wfU t0 := by
             obtain ⟨i, _, e⟩ := (HF.out.mem _).1 hM0
             have := tok_bd (i : Int)
             rw [e]
             exact wfU_of this.1 (by omega)
           have HX := Keep.mk hx
           have B5 := Keep.mk B5
           have hnt : tokN 100 ≠ t0 := fun e => by
             have := HF.out.free100 (by have := HC.out; omega)
             rw [e, hx] at this
             cases this
           have HNT := Keep.mk hnt
           have C6 := Keep.mk (free_yes _ _ _ _ _ _ _ t0 0 xo xu w5 T5 WT hx (by have := HNB.out; omega) (by omega) (by omega))
           clear hmem ho5 hb5 T5 hc5 hne ht0 hM0 hx WT hnt)
        | (go_at_call 12
           go_loud (refine C6.out.mono ?_; rintro e w6 ⟨rfl, t6, f6⟩)
           have b6 := B5.out.trans (f6.below BW.out B5.out.size)
           have T6 := Keep.mk (t6.below ((Below.refl _ w6).alloc (Nat.le_refl _) (.cells #[.int .u64 100, .int .u64 101] 22)))
           have B6 : Keep (Below w.heap.size w (w6.alloc (.cells #[.int .u64 100, .int .u64 101] 22))) := ⟨b6.alloc b6.size _⟩
           have C7 := Keep.mk (tk_take _ _ _ _ _ _ _ 9 _ 2 2 [100, 101] _ T6.out (Arg.new' w6 _ rfl 22 (0, 0) 1 encU encU_length [100, 101] 2 rfl (by decide)) (by simp) (by omega) (by have := HNB.out; omega))
           clear t6 f6 b6)
        | (go_at_call 14
           go_loud (refine C8.out.mono ?_; rintro e w8 ⟨r8, k8, rfl, hk8, hs8, t8, f8⟩)
           have HK8 : Keep (k8 < c) := ⟨hs8 t0 (by rw [setT_same]; rfl) (by rw [setT_same]; exact endT_gone rfl (by show (0 : Int) + 10 ≤ 10; omega))⟩
           have b8 := B7.out.trans (f8.below BW.out B7.out.size)
           have T8 := Keep.mk (t8.below ((Below.refl _ w8).alloc (Nat.le_refl _) (.cells #[.int .u64 100, .int .u64 101] 22)))
           have B8 : Keep (Below w.heap.size w (w8.alloc (.cells #[.int .u64 100, .int .u64 101] 22))) := ⟨b8.alloc b8.size _⟩
           have HM3 : Keep (endT 10 (setT M t0 (some ⟨0, false, 0 + 10⟩) (tokN 100)) = none) := ⟨by rw [setT_other _ _ HNT.out, HF.out.free100 (by have := HC.out; omega)]; rfl⟩
           have C9 := Keep.mk (tk_take _ _ _ _ _ _ _ 9 _ 2 2 [100, 101] _ T8.out (Arg.new' w8 _ rfl 22 (0, 0) 1 encU encU_length [100, 101] 2 rfl (by decide)) (by simp) (by omega) (by have := HNB.out; omega))
           clear hk8 hs8 t8 f8 b8)
        | fail)
      go_ret
      exact ⟨rfl, B9.out⟩
end Go.Proofs.YtdmmcgcglkblhaaDoor
