/-
  The reference's Advance.
-/
import Derived.Deep.LoopGhost
import Derived.Test.YtmjmiadogniopaaRfC
namespace Go.Proofs.Ytmjmiadogniopaa
open Go.RowKit

theorem drop_lt {X : List Due} {d : Due} (h : d ∈ X) : (dropH d.1 X).length ≤ X.length - 1 := by
  have h1 : (dropH d.1 X).length < X.length := List.length_filter_lt_length_iff_exists.2 ⟨d, h, by simp⟩
  omega
/-- Where the reference's Advance stands. -/
structure Rz (w wr : World) (base rb : Nat) (v : Value) (n t : Int) (L X O : List Due) (v1 out : Value) : Prop where
  rf : Rf wr base rb v1 n X
  row : wr.ownsRow w.heap.size 55 2 out O.length (O.flatMap dueC)
  ne : out.ownBlock ≠ some rb
  ap : Apt out v1
  fg : Fg w wr rb v v1
  fall : Fall t L X O
  len : O.length + X.length ≤ L.length
section
variable {w wr w' : World} {base rb : Nat} {v v1 out : Value} {n t : Int} {L X O : List Due}
theorem Rz.quiet (h : Rz w wr base rb v n t L X O v1 out) (hB : Below wr.heap.size wr w') : Rz w w' base rb v n t L X O v1 out :=
  ⟨h.rf.below hB, own_block2 h.row fun k e => hB.block k (h.row.lt k e).2, h.ne, h.ap, h.fg.trans (Fg.quiet hB rb v1), h.fall, h.len⟩
/-- The first is told .. -/
theorem Rz.told (h : Rz w wr base rb v n t L X O v1 out) {d : Due} {v4 : Value} (hown : w'.ownsRow w.heap.size 55 2 v4 (O.length + 1) ((O ++ [d]).flatMap dueC)) (hg : wr.grownBy w' out.ownBlock) (hat : v4.ownBlock = out.ownBlock ∨ v4.ownBlock = some wr.heap.size) :
    Rf w' base rb v1 n X ∧ v4.ownBlock ≠ some rb ∧ Fg w w' rb v v1 ∧ (∀ k, v4.ownBlock = some k → k < w'.heap.size) := by
  refine ⟨h.rf.same fun k hk => hg.block k ?_ ?_, ?_, ?_, fun k e => (hown.lt k e).2⟩
  · rcases hk with rfl | e
    · exact h.rf.lt
    · exact (h.rf.own.lt k e).2
  · rcases hk with rfl | e
    · exact fun e => h.ne e.symm
    · intro e2
      rcases h.ap with ⟨x, _⟩ | x
      · rw [x] at e2; cases e2
      · exact x (e2.symm.trans e.symm)
  · rcases hat with e | e
    · rw [e]; exact h.ne
    · rw [e]; have := h.rf.lt; simp; omega
  · have f := h.fg
    refine ⟨hg.os.trans f.os, hg.tape.trans f.tape, hg.output.trans f.output, Nat.le_trans f.size hg.size, fun k hk hb => (hg.block k (Nat.lt_of_lt_of_le hk f.size) (fun e => ?_)).trans (f.block k hk hb), f.new⟩
    have := (h.row.lt k e.symm).1
    omega
/-- .. and cancelled. -/
theorem Rz.cut (h : Rz w wr base rb v n t L X O v1 out) {w4 : World} {d : Due} {v4 v2 : Value} (hown : w4.ownsRow w.heap.size 55 2 v4 (O.length + 1) ((O ++ [d]).flatMap dueC)) (hne : v4.ownBlock ≠ some rb) (hf4 : Fg w w4 rb v v1)
    (hR : Rf w' base rb v2 n (dropH d.1 X)) (hf : Fg w4 w' rb v1 v2) (hnw : ∀ k, v2.ownBlock = some k → w4.heap.size ≤ k) (hd : d ∈ X) (ht : d.2 ≤ t) (hx : ∀ x ∈ X, lexle d x) : Rz w w' base rb v n t L (dropH d.1 X) (O ++ [d]) v2 v4 where
  rf := hR
  row := by
    rw [List.length_append]
    exact own_block2 hown fun k e => hf.block k (hown.lt k e).2 (fun e2 => hne (e2 ▸ e))
  ne := hne
  ap := by
    cases h1 : v4.ownBlock with
    | none =>
      cases h2 : v2.ownBlock with
      | none => exact .inl ⟨h1, h2⟩
      | some k => exact .inr (by rw [h1, h2]; simp)
    | some k =>
      refine .inr fun e => ?_
      have a := (hown.lt k h1).2
      have b := hnw k (e ▸ h1)
      omega
  fg := hf4.trans hf
  fall := h.fall.step hd ht hx
  len := by
    have h1 := h.len
    have h2 := drop_lt hd
    have h3 : 0 < X.length := List.length_pos_of_mem hd
    rw [List.length_append, List.length_singleton]
    omega
end

set_option maxRecDepth 100000 in
set_option maxHeartbeats 3200000 in
theorem radvance_any (base rb : Nat) (v : Value) (n : Int) (L : List Due) (t : Int) (w : World) (hR : Rf w base rb v n L) (hbase : base ≤ w.heap.size) (hL : L.length ≤ 1000) (hn : 0 ≤ n) (hn2 : n < 1152921504606846976) (ht1 : -2305843009213693952 < t) (ht2 : t < 2305843009213693952)
    (hnd : (L.map (·.1)).Nodup) (hrng : ∀ d ∈ L, n < d.2) :
    Calls Try.prog 20 #[.pointer (some ⟨rb, 0, none⟩), .int .i64 t] w fun e w' => ∃ (vo v' : Value) (L' O : List Due), e = .returned vo ∧ Rf w' base rb v' (max n (min t (n + 10000))) L' ∧
      w'.ownsRow w.heap.size 55 2 vo O.length (O.flatMap dueC) ∧ Fg w w' rb v v' ∧ Adv (max n (min t (n + 10000))) L L' O := by
  have c0 := hR.tickC
  by_cases htn : t ≤ n
  · have HR := Lib.hid hR
    have HA : Keep (Adv n L L []) := ⟨Adv.start hrng⟩
    rw [show max n (min t (n + 10000)) = n by omega]
    clear hR hrng hnd
    go_enter Try.func20, Try.ntmps20
    go_wp2
    go_ret
    exact ⟨_, v, L, [], rfl, HR.out, World.ownsRow_nil _ _ _ _, Fg.quiet (Below.refl _ _) rb v, HA.out⟩
  obtain ⟨t', ht'⟩ : ∃ t', min t (n + 10000) = t' := ⟨_, rfl⟩
  have hmx : max n (min t (n + 10000)) = t' := by omega
  rw [hmx]
  have htn' : n < t' := by omega
  have qs : IntKind.i64.wrap (t - n) = t - n := IntWalk.i64_in _ (by omega)
  have qa : IntKind.i64.wrap (n + 10000) = n + 10000 := IntWalk.i64_in _ (by omega)
  have HZ0 : Keep (Rz w w base rb v n t' L L [] v (.slice none 0 0)) := ⟨{
    rf := hR
    row := World.ownsRow_nil _ _ _ _
    ne := by simp [Value.ownBlock]
    ap := (Apt.nil v).sym
    fg := Fg.quiet (Below.refl _ _) rb v
    fall := Fall.start t' L
    len := by simp }⟩
  have HF1 := Keep.mk (rfirst_any base rb v n L w hR (by omega))
  have HND := Keep.mk hnd
  have HTN := Keep.mk htn'
  have HLL := Keep.mk hL
  have HBS := Keep.mk hbase
  clear hR hrng hnd hmx
  by_cases hfar : 10000 < t - n
  · obtain rfl : t' = n + 10000 := by omega
    clear ht'
    go_enter Try.func20, Try.ntmps20
    go_wp2_with (first
      | (go_at_call 22
         go_loud (refine HF1.out.mono ?_; rintro e w1 ⟨i1, rfl, hi1, q1, rfl⟩)
         have HI1 := Keep.mk hi1
         clear hi1)
      | fail)
    go_loopg [5, 6] (L.length) (fun gg out i wr => ∃ (bi : Int) (X O : List Due) (v1 : Value), i = .int .i64 bi ∧ X.length ≤ gg ∧ Keep (IsFirst X bi) ∧ Keep (Rz w wr base rb v n (n + 10000) L X O v1 out))
    case atStart => exact ⟨i1, L, [], v, rfl, Nat.le_refl _, HI1, ⟨HZ0.out.quiet ⟨rfl, rfl, rfl, Nat.le_refl _, fun _ _ => rfl⟩⟩⟩
    case round =>
      obtain ⟨bi, X, O, v1, rfl, hgg, HI, HZ⟩ := hrel
      obtain ⟨A1, c1, hv1, -⟩ := own_slice HZ.out.rf.own
      subst hv1
      have cl := HZ.out.rf.listC
      have cn := HZ.out.rf.tickC
      have fz := HZ.out.rf.free 0
      have HOX : Keep (O.length + X.length ≤ 1000) := ⟨by have := HZ.out.len; have := HLL.out; omega⟩
      rcases HI.out with ⟨hX, rfl⟩ | ⟨k, ⟨d1, d2⟩, rfl, hk, hXd, hall⟩
      · have HD : Keep (Adv (n + 10000) L X O) := ⟨HZ.out.fall.done HND.out (by rw [hX]; simp)⟩
        clear hX
        go_wp2_with fail
        go_ret
        first | exact ⟨_, _, X, O, rfl, HZ.out.rf.setTick _, ownsRow_setCell_other HZ.out.row HZ.out.ne _, HZ.out.fg.trans (Fg.set (Below.refl _ _) rb 0 _ fun _ e => .inl e), HD.out⟩ | exact ⟨_, rfl, _, X, HZ.out.rf.setTick _, O, ownsRow_setCell_other HZ.out.row HZ.out.ne _, HZ.out.fg.trans (Fg.set (Below.refl _ _) rb 0 _ fun _ e => .inl e), HD.out⟩
      · obtain ⟨g, off, hA, hg, hc⟩ := Rd.of_own dueC_length (by decide) HZ.out.rf.own (List.ne_nil_of_length_pos (by omega))
        have p0 : wr.cell? ⟨g, off + k * 2, none⟩ = some (.int .i64 d1) := hc k _ hXd 0 _ rfl
        have p1 : wr.cell? ⟨g, off + k * 2 + 1, none⟩ = some (.int .i64 d2) := hc k _ hXd 1 _ rfl
        subst hA
        have hki : ((k : Nat) : Int) < (X.length : Int) := by omega
        have hk0 : (0 : Int) ≤ ((k : Nat) : Int) := by omega
        by_cases hdt : d2 ≤ n + 10000
        · have HZQ := Keep.mk (HZ.out.quiet ((Below.refl _ wr).alloc (Nat.le_refl _) (.cells #[.int .i64 d1, .int .i64 d2] 55)))
          have HXD := Keep.mk hXd
          have HALL := Keep.mk hall
          have HDT := Keep.mk hdt
          clear hc hXd hall hg
          go_wp2_with (first
            | (refine wpList_append_ref rfl (.tmp 44) (.tmp 52) 47 rfl Try.underlying47 w.heap.size u5 _ O rfl HZQ.out.row wr.heap.size (d1, d2) rfl _ (heap_alloc_new _ _) (by have := HOX.out; omega) ?_ ?_
               · have := HZ.out.fg.size; simp; omega
               intro v4 w4 hown4 hg4 hat4
               obtain ⟨r4, n4, f4, -⟩ := HZQ.out.told hown4 hg4 hat4
               obtain ⟨g4, o4, e4, hg4', hc4⟩ := Rd.of_own dueC_length (by decide) r4.own (List.ne_nil_of_length_pos (by omega))
               cases e4
               have cl4 := r4.listC
               have p04 : w4.cell? ⟨g, off + k * 2, none⟩ = some (.int .i64 d1) := hc4 k _ HXD.out 0 _ rfl
               have RC := (rcancel_any base rb _ n X d1 w4 r4 (Nat.le_trans HBS.out f4.size) (by have := HOX.out; omega))
               obtain ⟨bo, hbo⟩ : ∃ bo : Bool, (tk X d1).isSome = bo := ⟨_, rfl⟩
               rw [hbo] at RC
               have RC := Keep.mk RC
               have HO4 := Keep.mk hown4
               have HN4 := Keep.mk n4
               have HF4 := Keep.mk f4
               clear hown4 hg4 hat4 r4 n4 f4 hg4' hc4 hbo)
            | (go_at_call 18
               go_loud (refine RC.out.mono ?_; rintro e w5 ⟨rfl, v5, r5, f5, n5⟩)
               have HZ5 := Keep.mk (HZQ.out.cut HO4.out HN4.out HF4.out r5 f5 n5 (List.mem_of_getElem? HXD.out) HDT.out HALL.out)
               have RF := Keep.mk (rfirst_any base rb v5 n (dropH d1 X) w5 r5 (by have := HOX.out; have := List.length_filter_le (fun d : Due => decide (d.1 ≠ d1)) X; unfold dropH; omega))
               clear r5 f5 n5)
            | (go_at_call 22
               go_loud (refine RF.out.mono ?_; rintro e w6 ⟨i6, rfl, hi6, q6, rfl⟩)
               have HI6 := Keep.mk hi6
               clear hi6)
            | fail)
          go_roundg (X.length - 1)
          case measure => omega
          case rel => exact ⟨i6, dropH d1 X, O ++ [(d1, d2)], v5, rfl, drop_lt (List.mem_of_getElem? HXD.out), HI6, ⟨HZ5.out.quiet ⟨rfl, rfl, rfl, Nat.le_refl _, fun _ _ => rfl⟩⟩⟩
        · have HD : Keep (Adv (n + 10000) L X O) := ⟨HZ.out.fall.done HND.out fun x hx => by
            have := hall x hx
            unfold lexle at this
            simp only at this
            omega⟩
          clear hc hXd hall hg
          go_wp2_with fail
          go_ret
          first | exact ⟨_, _, X, O, rfl, HZ.out.rf.setTick _, ownsRow_setCell_other HZ.out.row HZ.out.ne _, HZ.out.fg.trans (Fg.set (Below.refl _ _) rb 0 _ fun _ e => .inl e), HD.out⟩ | exact ⟨_, rfl, _, X, HZ.out.rf.setTick _, O, ownsRow_setCell_other HZ.out.row HZ.out.ne _, HZ.out.fg.trans (Fg.set (Below.refl _ _) rb 0 _ fun _ e => .inl e), HD.out⟩
  · obtain rfl : t' = t := by omega
    clear ht'
    go_enter Try.func20, Try.ntmps20
    go_wp2_with (first
      | (go_at_call 22
         go_loud (refine HF1.out.mono ?_; rintro e w1 ⟨i1, rfl, hi1, q1, rfl⟩)
         have HI1 := Keep.mk hi1
         clear hi1)
      | fail)
    go_loopg [5, 6] (L.length) (fun gg out i wr => ∃ (bi : Int) (X O : List Due) (v1 : Value), i = .int .i64 bi ∧ X.length ≤ gg ∧ Keep (IsFirst X bi) ∧ Keep (Rz w wr base rb v n (t') L X O v1 out))
    case atStart => exact ⟨i1, L, [], v, rfl, Nat.le_refl _, HI1, ⟨HZ0.out.quiet ⟨rfl, rfl, rfl, Nat.le_refl _, fun _ _ => rfl⟩⟩⟩
    case round =>
      obtain ⟨bi, X, O, v1, rfl, hgg, HI, HZ⟩ := hrel
      obtain ⟨A1, c1, hv1, -⟩ := own_slice HZ.out.rf.own
      subst hv1
      have cl := HZ.out.rf.listC
      have cn := HZ.out.rf.tickC
      have fz := HZ.out.rf.free 0
      have HOX : Keep (O.length + X.length ≤ 1000) := ⟨by have := HZ.out.len; have := HLL.out; omega⟩
      rcases HI.out with ⟨hX, rfl⟩ | ⟨k, ⟨d1, d2⟩, rfl, hk, hXd, hall⟩
      · have HD : Keep (Adv (t') L X O) := ⟨HZ.out.fall.done HND.out (by rw [hX]; simp)⟩
        clear hX
        go_wp2_with fail
        go_ret
        first | exact ⟨_, _, X, O, rfl, HZ.out.rf.setTick _, ownsRow_setCell_other HZ.out.row HZ.out.ne _, HZ.out.fg.trans (Fg.set (Below.refl _ _) rb 0 _ fun _ e => .inl e), HD.out⟩ | exact ⟨_, rfl, _, X, HZ.out.rf.setTick _, O, ownsRow_setCell_other HZ.out.row HZ.out.ne _, HZ.out.fg.trans (Fg.set (Below.refl _ _) rb 0 _ fun _ e => .inl e), HD.out⟩
      · obtain ⟨g, off, hA, hg, hc⟩ := Rd.of_own dueC_length (by decide) HZ.out.rf.own (List.ne_nil_of_length_pos (by omega))
        have p0 : wr.cell? ⟨g, off + k * 2, none⟩ = some (.int .i64 d1) := hc k _ hXd 0 _ rfl
        have p1 : wr.cell? ⟨g, off + k * 2 + 1, none⟩ = some (.int .i64 d2) := hc k _ hXd 1 _ rfl
        subst hA
        have hki : ((k : Nat) : Int) < (X.length : Int) := by omega
        have hk0 : (0 : Int) ≤ ((k : Nat) : Int) := by omega
        by_cases hdt : d2 ≤ t'
        · have HZQ := Keep.mk (HZ.out.quiet ((Below.refl _ wr).alloc (Nat.le_refl _) (.cells #[.int .i64 d1, .int .i64 d2] 55)))
          have HXD := Keep.mk hXd
          have HALL := Keep.mk hall
          have HDT := Keep.mk hdt
          clear hc hXd hall hg
          go_wp2_with (first
            | (refine wpList_append_ref rfl (.tmp 44) (.tmp 52) 47 rfl Try.underlying47 w.heap.size u5 _ O rfl HZQ.out.row wr.heap.size (d1, d2) rfl _ (heap_alloc_new _ _) (by have := HOX.out; omega) ?_ ?_
               · have := HZ.out.fg.size; simp; omega
               intro v4 w4 hown4 hg4 hat4
               obtain ⟨r4, n4, f4, -⟩ := HZQ.out.told hown4 hg4 hat4
               obtain ⟨g4, o4, e4, hg4', hc4⟩ := Rd.of_own dueC_length (by decide) r4.own (List.ne_nil_of_length_pos (by omega))
               cases e4
               have cl4 := r4.listC
               have p04 : w4.cell? ⟨g, off + k * 2, none⟩ = some (.int .i64 d1) := hc4 k _ HXD.out 0 _ rfl
               have RC := (rcancel_any base rb _ n X d1 w4 r4 (Nat.le_trans HBS.out f4.size) (by have := HOX.out; omega))
               obtain ⟨bo, hbo⟩ : ∃ bo : Bool, (tk X d1).isSome = bo := ⟨_, rfl⟩
               rw [hbo] at RC
               have RC := Keep.mk RC
               have HO4 := Keep.mk hown4
               have HN4 := Keep.mk n4
               have HF4 := Keep.mk f4
               clear hown4 hg4 hat4 r4 n4 f4 hg4' hc4 hbo)
            | (go_at_call 18
               go_loud (refine RC.out.mono ?_; rintro e w5 ⟨rfl, v5, r5, f5, n5⟩)
               have HZ5 := Keep.mk (HZQ.out.cut HO4.out HN4.out HF4.out r5 f5 n5 (List.mem_of_getElem? HXD.out) HDT.out HALL.out)
               have RF := Keep.mk (rfirst_any base rb v5 n (dropH d1 X) w5 r5 (by have := HOX.out; have := List.length_filter_le (fun d : Due => decide (d.1 ≠ d1)) X; unfold dropH; omega))
               clear r5 f5 n5)
            | (go_at_call 22
               go_loud (refine RF.out.mono ?_; rintro e w6 ⟨i6, rfl, hi6, q6, rfl⟩)
               have HI6 := Keep.mk hi6
               clear hi6)
            | fail)
          go_roundg (X.length - 1)
          case measure => omega
          case rel => exact ⟨i6, dropH d1 X, O ++ [(d1, d2)], v5, rfl, drop_lt (List.mem_of_getElem? HXD.out), HI6, ⟨HZ5.out.quiet ⟨rfl, rfl, rfl, Nat.le_refl _, fun _ _ => rfl⟩⟩⟩
        · have HD : Keep (Adv (t') L X O) := ⟨HZ.out.fall.done HND.out fun x hx => by
            have := hall x hx
            unfold lexle at this
            simp only at this
            omega⟩
          clear hc hXd hall hg
          go_wp2_with fail
          go_ret
          first | exact ⟨_, _, X, O, rfl, HZ.out.rf.setTick _, ownsRow_setCell_other HZ.out.row HZ.out.ne _, HZ.out.fg.trans (Fg.set (Below.refl _ _) rb 0 _ fun _ e => .inl e), HD.out⟩ | exact ⟨_, rfl, _, X, HZ.out.rf.setTick _, O, ownsRow_setCell_other HZ.out.row HZ.out.ne _, HZ.out.fg.trans (Fg.set (Below.refl _ _) rb 0 _ fun _ e => .inl e), HD.out⟩
end Go.Proofs.Ytmjmiadogniopaa
