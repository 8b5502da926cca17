/-
  The contract of Tick; the walk of the law TokenWaits.
-/
import Derived.Test.YtdmmcgcglkblhaaDoorTkD
namespace Go.Proofs.YtdmmcgcglkblhaaDoor
open Go.RowKit Go.Maps

section
variable {w w' : World} {base b m nb k : Nat} {most : Int} {M : Int → Option En}
theorem Tb.grown {M' : Int → Option En} {nb' k' : Nat} (h : Tb w base b m nb most M k) (hg : w.grownBy w' (some m)) (hm : Mt w' m nb' M' k') : Tb w' base b m nb' most M' k' :=
  ⟨h.lowb, h.lowm, h.ne, (hg.block b h.lt (fun e => h.ne (by cases e; rfl))).trans h.blk, hm⟩
theorem Ft.grown (hg : w.grownBy w' (some m)) : Ft w w' m := ⟨hg.os, hg.tape, hg.output, hg.size, fun k hk hm => hg.block k hk (fun e => hm (by cases e; rfl))⟩
end

theorem endT_stay {tick : Int} {x : En} (h : x.l = true ∨ tick < x.u) : endT tick (some x) = some x := by
  have : (!x.l && decide (x.u ≤ tick)) = false := by
    rcases h with h | h
    · rw [h]; rfl
    · rw [decide_eq_false (by omega)]; simp
  simp only [endT]
  rw [this]
  rfl
theorem endT_gone {tick : Int} {x : En} (h1 : x.l = false) (h2 : x.u ≤ tick) : endT tick (some x) = none := by
  have : (!x.l && decide (x.u ≤ tick)) = true := by rw [h1, decide_eq_true h2]; rfl
  simp only [endT]
  rw [this]
  rfl
set_option maxRecDepth 100000 in
set_option maxHeartbeats 3200000 in
theorem tick_any (base b m nb : Nat) (most : Int) (M : Int → Option En) (k : Nat) (tick : Int) (w : World) (hT : Tb w base b m nb most M k) :
    Calls Tryd.prog 14 #[.pointer (some ⟨b, 0, none⟩), .int .i64 tick] w fun e w' => ∃ (r : Int) (k' : Nat), e = .returned (.int .i64 r) ∧ k' ≤ k ∧ (∀ h, (M h).isSome = true → endT tick (M h) = none → k' < k) ∧ Tb w' base b m nb most (fun t => endT tick (M t)) k' ∧ Ft w w' m := by
  have hB : Below w.heap.size w (w.alloc (.cells #[.int .i64 tick] 3)) := (Below.refl _ w).alloc (Nat.le_refl _) _
  have hT1 := hT.below hB
  have cm := hT1.mapC
  have hl : ∀ ty, (Builtin.len_ #[61] ty #[.map (some m)]).run Tryd.prog (w.alloc (.cells #[.int .i64 tick] 3)) = .ok (.int .i64 k) (w.alloc (.cells #[.int .i64 tick] 3)) := fun ty => hT1.mp.len ty
  have HD := Keep.mk (deleteT_any m nb k M tick w.heap.size _ hT1.mp (by rw [World.cell?_alloc_new]; rfl) (by have := hT.mp.lt; omega))
  have HB := Keep.mk hB
  have HT1 := Keep.mk hT1
  clear hT hT1 hB
  go_enter Tryd.func14, Tryd.ntmps14
  go_wp2_with (first
    | (go_at_call 24
       go_loud (refine HD.out.mono ?_; rintro e w2 ⟨rfl, ⟨k', hk', hs', hm2⟩, hg2⟩)
       have T2 := HT1.out.grown hg2 hm2
       have cm2 := T2.mapC
       have hl2 : ∀ ty, (Builtin.len_ #[61] ty #[.map (some m)]).run Tryd.prog w2 = .ok (.int .i64 k') w2 := fun ty => hm2.len ty
       have T2 := Keep.mk T2
       have F2 := Keep.mk ((Ft.quiet HB.out m).trans (Ft.grown hg2))
       have HK2 := Keep.mk hk'
       have HS2 := Keep.mk hs'
       clear hk' hs' hm2 hg2)
    | fail)
  go_ret
  exact ⟨_, k', rfl, HK2.out, HS2.out, T2.out, F2.out⟩

set_option maxRecDepth 100000 in
set_option maxHeartbeats 3200000 in
theorem tokenWaits_walk (k tick late : Int) (w : World) (k0 : 0 ≤ k) (k1 : k < 18446744073709551616) (t0 : 0 ≤ tick) (t1 : tick ≤ 65535) (l0 : 0 ≤ late) (l1 : late ≤ 255) :
    Calls Tryd.prog 3 #[.int .u64 k, .int .u16 tick, .int .u8 late] w fun e w' => e = .returned (.bool true) ∧ Below w.heap.size w w' := by
  have q1 : IntKind.i64.wrap tick = tick := IntWalk.i64_in _ (by omega)
  have q2 : IntKind.i64.wrap late = late := IntWalk.i64_in _ (by omega)
  have q3 : IntKind.i64.wrap (tick + late) = tick + late := IntWalk.i64_in _ (by omega)
  obtain ⟨n, hn⟩ : ∃ n, tokN k = n := ⟨_, rfl⟩
  have WN : Keep (wfU n) := ⟨by have := tok_bd k; rw [hn] at this; exact wfU_of this.1 (by omega)⟩
  have HN := Keep.mk hn
  have TK : Keep (∀ W, Calls Tryd.prog 11 #[.int .u64 k] W fun e w' => e = .returned (.int .u32 n) ∧ Below W.heap.size W w') := ⟨fun W => hn ▸ token_any k W k0 k1⟩
  have HK : Keep (∀ z ∈ [k], 0 ≤ z ∧ z < 18446744073709551616) := ⟨by simp; exact ⟨k0, k1⟩⟩
  have HTI : Keep (0 ≤ tick ∧ tick ≤ 65535) := ⟨t0, t1⟩
  clear hn k0 k1 t0 t1 l0 l1
  by_cases hlt : late < 10
  · have HLT := Keep.mk hlt
    go_enter Tryd.func3, Tryd.ntmps3
    go_wp2_with (first
      | (go_at_call 8; refine (wakes_any _).mono ?_; rintro e w1 ⟨rfl, hb1⟩; have HB1 := Keep.mk hb1; clear hb1)
      | (go_at_call 9
         go_loud (refine (tnew_any 2 w1).mono ?_; rintro e w2 ⟨rfl, t2, b2⟩)
         rw [show min (max (2 : Int) 1) 64 = 2 by decide] at t2
         have B2 := Keep.mk (HB1.out.trans (b2.mono HB1.out.size))
         have T3 := Keep.mk (t2.below ((Below.refl _ w2).alloc (Nat.le_refl _) (.cells #[.int .u64 k] 22)))
         have B3 : Keep (Below w.heap.size w (w2.alloc (.cells #[.int .u64 k] 22))) := ⟨B2.out.alloc B2.out.size _⟩
         have BW : Keep (w.heap.size ≤ w1.heap.size) := ⟨HB1.out.size⟩
         have C3 := Keep.mk (tk_take _ _ _ _ _ _ _ 1 _ 1 1 [k] _ T3.out (Arg.new' w2 _ rfl 22 (0, 0) 1 encU encU_length [k] 1 rfl (by decide)) HK.out (by omega) (by omega))
         clear t2 b2)
      | (go_at_call_of 10 (Value.int .i64 1)
         go_loud (refine C3.out.mono ?_; rintro e w4 h4)
         obtain ⟨rfl, t4, f4⟩ := h4.first (by decide) rfl
         rw [HN.out] at t4
         have T4 := Keep.mk t4
         have B4 := Keep.mk (B3.out.trans (f4.below BW.out B3.out.size))
         clear h4 t4 f4)
      | (go_at_call 11
         go_loud (refine (TK.out _).mono ?_; rintro e w5 ⟨rfl, hb5⟩)
         have T5 := Keep.mk (T4.out.below hb5)
         have B5 := Keep.mk (B4.out.trans (hb5.mono B4.out.size))
         have C5 := Keep.mk (free_yes _ _ _ _ _ _ _ n tick 1 0 w5 T5.out WN.out (setT_same _ _ _) (by omega) (by have := HTI.out; omega) (by have := HTI.out; omega))
         clear hb5)
      | (go_at_call 12
         go_loud (refine C6.out.mono ?_; rintro e X ⟨rfl, hX⟩)
         rw [hX]
         clear hX)
      | (go_at_call 12
         go_loud (refine C5.out.mono ?_; rintro e w6 ⟨rfl, t6, f6⟩)
         have T6 := Keep.mk t6
         have B6 := Keep.mk (B5.out.trans (f6.below BW.out B5.out.size))
         have C6 := Keep.mk (free_no _ _ _ _ _ _ _ n tick w6 T6.out WN.out (by unfold liveT; rw [setT_same]))
         have C7 := find_any _ _ _ _ _ _ _ n w6 T6.out WN.out
         rw [show liveT (setT (setT (fun _ => none) n (some ⟨1, true, 0⟩)) n (some ⟨0, false, tick + 10⟩)) n = false by unfold liveT; rw [setT_same], show ownT (setT (setT (fun _ => none) n (some ⟨1, true, 0⟩)) n (some ⟨0, false, tick + 10⟩)) n = 0 by unfold ownT; rw [setT_same]] at C7
         have C7 := Keep.mk C7
         clear t6 f6)
      | (go_at_call 13
         go_loud (refine C7.out.mono ?_; rintro e w7 ⟨rfl, b7⟩)
         have T7 := Keep.mk (T6.out.below b7)
         have B7 := Keep.mk (B6.out.trans (b7.mono B6.out.size))
         have C8 := Keep.mk (tick_any _ _ _ _ _ _ _ (tick + late) w7 T7.out)
         clear b7)
      | (go_at_call 14
         go_loud (refine C8.out.mono ?_; rintro e w8 ⟨r8, k8, rfl, hk8, -, t8, f8⟩)
         have B8 := B7.out.trans (f8.below BW.out B7.out.size)
         have B9 : Keep (Below w.heap.size w (w8.alloc (.cells #[.int .u64 k] 22))) := ⟨B8.alloc B8.size _⟩
         have T9 := Keep.mk (t8.below ((Below.refl _ w8).alloc (Nat.le_refl _) (.cells #[.int .u64 k] 22)))
         have C9 := Keep.mk (tk_take _ _ _ _ _ _ _ 2 _ 1 1 [k] _ T9.out (Arg.new' w8 _ rfl 22 (0, 0) 1 encU encU_length [k] 1 rfl (by decide)) HK.out (by omega) (by omega))
         have HK8 := Keep.mk hk8
         clear hk8 t8 f8 B8)
      | (go_at_call_of 10 (Value.int .i64 2)
         go_loud (refine C9.out.mono ?_; rintro e w10 h10)
         obtain ⟨rfl, f10⟩ : e = .returned (.tuple #[.int .u64 0, .int .i64 1, .int .i64 6]) ∧ Ft (w8.alloc (.cells #[.int .u64 k] 22)) w10 w1.heap.size := by
           have hs : endT (tick + late) (setT (setT (fun _ => none) n (some ⟨1, true, 0⟩)) n (some ⟨0, false, tick + 10⟩) n) = some ⟨0, false, tick + 10⟩ := by
             rw [setT_same]
             exact endT_stay (.inr (by have := HLT.out; show tick + late < tick + 10; omega))
           obtain ⟨a, _, c⟩ := h10.nobody (by have := HK8.out; omega) (by simp only [List.mem_singleton]; rintro x rfl; rw [HN.out, hs]; rfl)
           exact ⟨a, c⟩
         have B10 := Keep.mk (B9.out.trans (f10.below BW.out B9.out.size))
         clear h10 f10)
      | fail)
    go_ret
    exact ⟨rfl, B10.out⟩
  · have HLT := Keep.mk hlt
    go_enter Tryd.func3, Tryd.ntmps3
    go_wp2_with (first
      | (go_at_call 8; refine (wakes_any _).mono ?_; rintro e w1 ⟨rfl, hb1⟩; have HB1 := Keep.mk hb1; clear hb1)
      | (go_at_call 9
         go_loud (refine (tnew_any 2 w1).mono ?_; rintro e w2 ⟨rfl, t2, b2⟩)
         rw [show min (max (2 : Int) 1) 64 = 2 by decide] at t2
         have B2 := Keep.mk (HB1.out.trans (b2.mono HB1.out.size))
         have T3 := Keep.mk (t2.below ((Below.refl _ w2).alloc (Nat.le_refl _) (.cells #[.int .u64 k] 22)))
         have B3 : Keep (Below w.heap.size w (w2.alloc (.cells #[.int .u64 k] 22))) := ⟨B2.out.alloc B2.out.size _⟩
         have BW : Keep (w.heap.size ≤ w1.heap.size) := ⟨HB1.out.size⟩
         have C3 := Keep.mk (tk_take _ _ _ _ _ _ _ 1 _ 1 1 [k] _ T3.out (Arg.new' w2 _ rfl 22 (0, 0) 1 encU encU_length [k] 1 rfl (by decide)) HK.out (by omega) (by omega))
         clear t2 b2)
      | (go_at_call_of 10 (Value.int .i64 1)
         go_loud (refine C3.out.mono ?_; rintro e w4 h4)
         obtain ⟨rfl, t4, f4⟩ := h4.first (by decide) rfl
         rw [HN.out] at t4
         have T4 := Keep.mk t4
         have B4 := Keep.mk (B3.out.trans (f4.below BW.out B3.out.size))
         clear h4 t4 f4)
      | (go_at_call 11
         go_loud (refine (TK.out _).mono ?_; rintro e w5 ⟨rfl, hb5⟩)
         have T5 := Keep.mk (T4.out.below hb5)
         have B5 := Keep.mk (B4.out.trans (hb5.mono B4.out.size))
         have C5 := Keep.mk (free_yes _ _ _ _ _ _ _ n tick 1 0 w5 T5.out WN.out (setT_same _ _ _) (by omega) (by have := HTI.out; omega) (by have := HTI.out; omega))
         clear hb5)
      | (go_at_call 12
         go_loud (refine C6.out.mono ?_; rintro e X ⟨rfl, hX⟩)
         rw [hX]
         clear hX)
      | (go_at_call 12
         go_loud (refine C5.out.mono ?_; rintro e w6 ⟨rfl, t6, f6⟩)
         have T6 := Keep.mk t6
         have B6 := Keep.mk (B5.out.trans (f6.below BW.out B5.out.size))
         have C6 := Keep.mk (free_no _ _ _ _ _ _ _ n tick w6 T6.out WN.out (by unfold liveT; rw [setT_same]))
         have C7 := find_any _ _ _ _ _ _ _ n w6 T6.out WN.out
         rw [show liveT (setT (setT (fun _ => none) n (some ⟨1, true, 0⟩)) n (some ⟨0, false, tick + 10⟩)) n = false by unfold liveT; rw [setT_same], show ownT (setT (setT (fun _ => none) n (some ⟨1, true, 0⟩)) n (some ⟨0, false, tick + 10⟩)) n = 0 by unfold ownT; rw [setT_same]] at C7
         have C7 := Keep.mk C7
         clear t6 f6)
      | (go_at_call 13
         go_loud (refine C7.out.mono ?_; rintro e w7 ⟨rfl, b7⟩)
         have T7 := Keep.mk (T6.out.below b7)
         have B7 := Keep.mk (B6.out.trans (b7.mono B6.out.size))
         have C8 := Keep.mk (tick_any _ _ _ _ _ _ _ (tick + late) w7 T7.out)
         clear b7)
      | (go_at_call 14
         go_loud (refine C8.out.mono ?_; rintro e w8 ⟨r8, k8, rfl, hk8, -, t8, f8⟩)
         have B8 := B7.out.trans (f8.below BW.out B7.out.size)
         have B9 : Keep (Below w.heap.size w (w8.alloc (.cells #[.int .u64 k] 22))) := ⟨B8.alloc B8.size _⟩
         have T9 := Keep.mk (t8.below ((Below.refl _ w8).alloc (Nat.le_refl _) (.cells #[.int .u64 k] 22)))
         have C9 := Keep.mk (tk_take _ _ _ _ _ _ _ 2 _ 1 1 [k] _ T9.out (Arg.new' w8 _ rfl 22 (0, 0) 1 encU encU_length [k] 1 rfl (by decide)) HK.out (by omega) (by omega))
         have HK8 := Keep.mk hk8
         clear hk8 t8 f8 B8)
      | (go_at_call_of 10 (Value.int .i64 2)
         go_loud (refine C9.out.mono ?_; rintro e w10 h10)
         obtain ⟨rfl, f10⟩ : e = .returned (.tuple #[.int .u64 k, .int .i64 0, .int .i64 0]) ∧ Ft (w8.alloc (.cells #[.int .u64 k] 22)) w10 w1.heap.size := by
           have hs : endT (tick + late) (setT (setT (fun _ => none) n (some ⟨1, true, 0⟩)) n (some ⟨0, false, tick + 10⟩) n) = none := by
             rw [setT_same]
             exact endT_gone rfl (by have := HLT.out; show tick + 10 ≤ tick + late; omega)
           obtain ⟨a, _, c⟩ := h10.first (by have := HK8.out; omega) (by rw [HN.out]; exact hs)
           exact ⟨a, c⟩
         have B10 := Keep.mk (B9.out.trans (f10.below BW.out B9.out.size))
         clear h10 f10)
      | fail)
    go_ret
    exact ⟨rfl, B10.out⟩
end Go.Proofs.YtdmmcgcglkblhaaDoor
