/-
  Tick's answer; a list and a map of the same entries; the two tables beside one another.
-/
import Derived.Test.YtdmmcgcglkblhaaDoorRtE
namespace Go.Proofs.YtdmmcgcglkblhaaDoor
open Go.RowKit Go.Maps

set_option maxRecDepth 100000 in
set_option maxHeartbeats 3200000 in
theorem ticks_any (base b m nb : Nat) (most : Int) (M : Int → Option En) (k : Nat) (tick : Int) (w : World) (hT : Tb w base b m nb most M k) (hk : k ≤ 100000) :
    Calls Tryd.prog 14 #[.pointer (some ⟨b, 0, none⟩), .int .i64 tick] w fun e w' => ∃ k' : Nat, e = .returned (.int .i64 ((k : Int) - (k' : Int))) ∧ Tb w' base b m nb most (fun t => endT tick (M t)) k' ∧ Ft w w' m := by
  have hB : Below w.heap.size w (w.alloc (.cells #[.int .i64 tick] 3)) := (Below.refl _ w).alloc (Nat.le_refl _) _
  have hT1 := hT.below hB
  have cm := hT1.mapC
  have hl : ∀ ty, (Builtin.len_ #[61] ty #[.map (some m)]).run Tryd.prog (w.alloc (.cells #[.int .i64 tick] 3)) = .ok (.int .i64 k) (w.alloc (.cells #[.int .i64 tick] 3)) := fun ty => hT1.mp.len ty
  have HD := Keep.mk (deleteT_any m nb k M tick w.heap.size _ hT1.mp (by rw [World.cell?_alloc_new]; rfl) (by have := hT.mp.lt; omega))
  have HB := Keep.mk hB
  have HT1 := Keep.mk hT1
  have HKK := Keep.mk hk
  clear hT hT1 hB hk
  go_enter Tryd.func14, Tryd.ntmps14
  go_wp2_with (first
    | (go_at_call 24
       go_loud (refine HD.out.mono ?_; rintro e w2 ⟨rfl, ⟨k', hk', hs', hm2⟩, hg2⟩)
       have T2 := HT1.out.grown hg2 hm2
       have cm2 := T2.mapC
       have hl2 : ∀ ty, (Builtin.len_ #[61] ty #[.map (some m)]).run Tryd.prog w2 = .ok (.int .i64 k') w2 := fun ty => hm2.len ty
       have q : IntKind.i64.wrap ((k : Int) - (k' : Int)) = (k : Int) - (k' : Int) := IntWalk.i64_in _ (by have := HKK.out; omega)
       have T2 := Keep.mk T2
       have F2 := Keep.mk ((Ft.quiet HB.out m).trans (Ft.grown hg2))
       clear hk' hs' hm2 hg2)
    | fail)
  go_ret
  exact ⟨k', rfl, T2.out, F2.out⟩

/-- The list and the map hold the same. -/
structure Lk (L : List Te) (M : Int → Option En) : Prop where
  nd : (L.map (·.1)).Nodup
  eq : ∀ t x, M t = some x ↔ (t, x) ∈ L
section
variable {L : List Te} {M : Int → Option En} {t : Int}
theorem Lk.mem (h : Lk L M) (t : Int) : t ∈ L.map (·.1) ↔ (M t).isSome = true := by
  rw [Option.isSome_iff_exists, List.mem_map]
  constructor
  · rintro ⟨⟨t', x⟩, hx, rfl⟩
    exact ⟨x, (h.eq _ _).2 hx⟩
  · rintro ⟨x, hx⟩
    exact ⟨(t, x), (h.eq _ _).1 hx, rfl⟩
theorem Lk.count (h : Lk L M) {w : World} {m nb k : Nat} (hm : Mt w m nb M k) : k = L.length := by
  have := hm.count h.nd h.mem
  rw [List.length_map] at this
  exact this.symm
theorem Lk.new : Lk [] (fun _ => none) := ⟨List.nodup_nil, fun t x => by simp⟩
theorem Lk.has (h : Lk L M) : (∃ y ∈ L, y.1 = t) ↔ (M t).isSome = true := by
  rw [← h.mem t, List.mem_map]
theorem Lk.lacks (h : Lk L M) : (∀ y ∈ L, y.1 ≠ t) ↔ M t = none := by
  rw [← Option.not_isSome_iff_eq_none, ← h.has]
  constructor
  · rintro h1 ⟨y, h2, h3⟩
    exact h1 y h2 h3
  · intro h1 y h2 h3
    exact h1 ⟨y, h2, h3⟩
theorem Lk.take (h : Lk L M) (hM : M t = none) (e : En) : Lk (L ++ [(t, e)]) (setT M t (some e)) where
  nd := by
    rw [List.map_append, List.nodup_append]
    refine ⟨h.nd, by simp, ?_⟩
    rintro a ha b hb rfl
    obtain rfl : a = t := by simpa using hb
    have := (h.mem a).1 ha
    rw [hM] at this
    cases this
  eq := fun t' x => by
    rw [List.mem_append, List.mem_singleton]
    by_cases e1 : t' = t
    · subst e1
      rw [setT_same]
      constructor
      · intro h2; cases h2; exact .inr rfl
      · rintro (h2 | h2)
        · rw [(h.eq _ _).2 h2] at hM; cases hM
        · cases h2; rfl
    · rw [setT_other _ _ e1, h.eq]
      constructor
      · exact .inl
      · rintro (h2 | h2)
        · exact h2
        · cases h2; exact absurd rfl e1
theorem Lk.uniq (h : Lk L M) {i j : Nat} {x y : Te} (hi : L[i]? = some x) (hj : L[j]? = some y) (e : x.1 = y.1) : i = j := by
  have h1 : (L.map (·.1))[i]? = some x.1 := by rw [List.getElem?_map, hi]; rfl
  have h2 : (L.map (·.1))[j]? = some x.1 := by rw [List.getElem?_map, hj, e]; rfl
  have hl : i < (L.map (·.1)).length := (List.getElem?_eq_some_iff.1 h1).1
  exact (List.getElem?_inj hl h.nd).1 (h1.trans h2.symm)
theorem Lk.free (h : Lk L M) {i : Nat} {e : En} (hi : L[i]? = some (t, e)) (e' : En) : Lk (L.set i (t, e')) (setT M t (some e')) where
  nd := by
    rw [List.map_set]
    have : (L.map (·.1)).set i t = L.map (·.1) := by
      apply List.ext_getElem?
      intro j
      rw [List.getElem?_set]
      by_cases e2 : i = j
      · subst e2
        have hl : i < L.length := (List.getElem?_eq_some_iff.1 hi).1
        rw [if_pos rfl, if_pos (by simpa using hl), List.getElem?_map, hi]
        rfl
      · rw [if_neg e2]
    rw [this]
    exact h.nd
  eq := fun t' x => by
    have hl : i < L.length := (List.getElem?_eq_some_iff.1 hi).1
    rw [List.mem_iff_getElem?]
    by_cases e1 : t' = t
    · subst e1
      rw [setT_same]
      constructor
      · intro h2; cases h2; exact ⟨i, by rw [List.getElem?_set, if_pos rfl, if_pos hl]⟩
      · rintro ⟨j, hj⟩
        rw [List.getElem?_set] at hj
        by_cases e2 : i = j
        · rw [if_pos e2, if_pos hl] at hj; cases hj; rfl
        · rw [if_neg e2] at hj
          exact absurd (h.uniq hi hj rfl) e2
    · rw [setT_other _ _ e1, h.eq, List.mem_iff_getElem?]
      constructor
      · rintro ⟨j, hj⟩
        refine ⟨j, ?_⟩
        have : i ≠ j := fun e2 => by subst e2; rw [hi] at hj; cases hj; exact e1 rfl
        rw [List.getElem?_set, if_neg this]
        exact hj
      · rintro ⟨j, hj⟩
        refine ⟨j, ?_⟩
        rw [List.getElem?_set] at hj
        by_cases e2 : i = j
        · rw [if_pos e2, if_pos hl] at hj; cases hj; exact absurd rfl e1
        · rw [if_neg e2] at hj
          exact hj
theorem Lk.tick (h : Lk L M) (tick : Int) : Lk (L.filter (stays tick)) (fun t => endT tick (M t)) where
  nd := (List.Sublist.map _ List.filter_sublist).nodup h.nd
  eq := fun t x => by
    rw [List.mem_filter, ← h.eq]
    have hs : ∀ y : En, endT tick (some y) = if stays tick (t, y) then some y else none := fun y => by
      obtain ⟨o, l, u⟩ := y
      unfold stays
      cases l with
      | true => rw [endT_stay (.inl rfl)]; rfl
      | false =>
        by_cases hu : tick < u
        · rw [endT_stay (.inr hu)]; simp [hu]
        · rw [endT_gone rfl (by show u ≤ tick; omega)]; simp [hu]
    cases hM : M t with
    | none => simp [endT]
    | some y =>
      rw [hs]
      by_cases hy : stays tick (t, y) = true
      · rw [if_pos hy]
        constructor
        · intro h2; cases h2; exact ⟨rfl, hy⟩
        · rintro ⟨h2, _⟩; exact h2
      · rw [if_neg hy]
        constructor
        · intro h2; cases h2
        · rintro ⟨h2, h3⟩; cases h2; exact absurd h3 hy
theorem Lk.live (h : Lk L M) (hM : liveT M t = false) : ∀ x ∈ L, x.1 = t → x.2.l = false := by
  rintro ⟨t', x⟩ hx rfl
  have := (h.eq _ _).2 hx
  unfold liveT at hM
  rw [this] at hM
  exact hM
end

/-- What a call of the reference's leaves: all but its block and its list's. -/
structure Fa10 (w w' : World) (rb : Nat) (v v' : Value) : Prop where
  os : w'.os = w.os
  tape : w'.tape = w.tape
  output : w'.output = w.output
  size : w.heap.size ≤ w'.heap.size
  block : ∀ k, k < w.heap.size → k ≠ rb → v.ownBlock ≠ some k → w'.heap[k]? = w.heap[k]?
  new : ∀ k, v'.ownBlock = some k → v.ownBlock = some k ∨ w.heap.size ≤ k
theorem Fr10.fa {w w' : World} {rb : Nat} {v v' : Value} (h : Fr10 w w' rb v v') : Fa10 w w' rb v v' := ⟨h.os, h.tape, h.output, h.size, fun k h1 h2 _ => h.block k h1 h2, h.new⟩
theorem Fa10.quiet {w w' : World} (hB : Below w.heap.size w w') (rb : Nat) (v : Value) : Fa10 w w' rb v v := ⟨hB.os, hB.tape, hB.output, hB.size, fun k h1 _ _ => hB.block k h1, fun _ h => .inl h⟩
theorem Fa10.below {w w' : World} {rb : Nat} {v v' : Value} (h : Fa10 w w' rb v v') {B : Nat} (hb : B ≤ rb) (hs : B ≤ w.heap.size) (hv : ∀ k, v.ownBlock = some k → B ≤ k) : Below B w w' :=
  ⟨h.os, h.tape, h.output, h.size, fun k hk => h.block k (by omega) (by omega) (fun e => by have := hv k e; omega)⟩

/-- The table and the reference's. -/
structure Tt (w wr : World) (base b m nb rb : Nat) (M : Int → Option En) (v : Value) (most : Int) (L : List Te) : Prop where
  tb : Tb wr base b m nb most M L.length
  rt : Rt wr base rb v most L
  lk : Lk L M
  n1 : rb ≠ b
  n2 : rb ≠ m
  off : ∀ k, v.ownBlock = some k → k ≠ b ∧ k ≠ m
  below : Below w.heap.size w wr
  hb : w.heap.size ≤ base
  hs : base ≤ wr.heap.size
section
variable {w wr w1 w2 : World} {base b m nb rb nb' k' : Nat} {M M' : Int → Option En} {v v' : Value} {most : Int} {L L' : List Te}
theorem Tt.quiet (h : Tt w wr base b m nb rb M v most L) (hB : Below wr.heap.size wr w1) : Tt w w1 base b m nb rb M v most L :=
  ⟨h.tb.below hB, h.rt.below hB, h.lk, h.n1, h.n2, h.off, h.below.trans (hB.mono h.below.size), h.hb, Nat.le_trans h.hs hB.size⟩
theorem Tt.mid (h : Tt w wr base b m nb rb M v most L) (F : Ft wr w1 m) : Rt w1 base rb v most L ∧ base ≤ w1.heap.size :=
  ⟨h.rt.same fun k hk => by
    rcases hk with rfl | e
    · exact F.block k h.rt.lt h.n2
    · exact F.block k (h.rt.own.lt k e).2 (h.off k e).2, Nat.le_trans h.hs F.size⟩
theorem Tt.step (h : Tt w wr base b m nb rb M v most L) (T : Tb w1 base b m nb' most M' k') (F : Ft wr w1 m) (R : Rt w2 base rb v' most L') (G : Fa10 w1 w2 rb v v') (lk : Lk L' M') : Tt w w2 base b m nb' rb M' v' most L' := by
  have hne : ∀ k, (k = b ∨ k = m) → k ≠ rb ∧ v.ownBlock ≠ some k := fun k hk => by
    rcases hk with rfl | rfl
    · exact ⟨fun e => h.n1 e.symm, fun e => (h.off k e).1 rfl⟩
    · exact ⟨fun e => h.n2 e.symm, fun e => (h.off k e).2 rfl⟩
  have hk := lk.count T.mp
  subst hk
  refine ⟨⟨T.lowb, T.lowm, T.ne, (G.block b T.lt (hne b (.inl rfl)).1 (hne b (.inl rfl)).2).trans T.blk, T.mp.same (G.block m T.mp.lt (hne m (.inr rfl)).1 (hne m (.inr rfl)).2)⟩, R, lk, h.n1, h.n2, fun k e => ?_, (h.below.trans (F.below (Nat.le_trans h.hb T.lowm) h.below.size)).trans (G.below (Nat.le_trans h.hb R.low) (Nat.le_trans h.below.size F.size) fun k e => Nat.le_trans h.hb (h.rt.own.lt k e).1), h.hb, Nat.le_trans (Nat.le_trans h.hs F.size) G.size⟩
  rcases G.new k e with h1 | h1
  · exact h.off k h1
  · have := T.lt
    have := T.mp.lt
    omega
/-- Both, new. -/
theorem Tt.made {base' rb' : Nat} (hT : Tb wr base b m nb most (fun _ => none) 0) (hR : Rt w1 base' rb' (.slice none 0 0) most []) (hB : Below wr.heap.size wr w1) (h0 : Below w.heap.size w wr) (hb : w.heap.size ≤ base) (hs : base ≤ wr.heap.size) (hrb : wr.heap.size ≤ base') : Tt w w1 base b m nb rb' (fun _ => none) (.slice none 0 0) most [] where
  tb := hT.below hB
  rt := ⟨by have := hR.low; omega, hR.blk, own_lowT hR.own (by omega), hR.ne⟩
  lk := Lk.new
  n1 := by have := hT.lt; have := hR.low; omega
  n2 := by have := hT.mp.lt; have := hR.low; omega
  off := fun k e => by cases e
  below := h0.trans (hB.mono h0.size)
  hb := hb
  hs := Nat.le_trans hs hB.size
/-- A block that is neither one's stays. -/
theorem Tt.other (h : Tt w wr base b m nb rb M v most L) (F : Ft wr w1 m) (G : Fa10 w1 w2 rb v v') {g : Nat} (hg : g < wr.heap.size) (h1 : g ≠ m) (h2 : g ≠ rb) (h3 : v.ownBlock ≠ some g) : w2.heap[g]? = wr.heap[g]? :=
  (G.block g (Nat.lt_of_lt_of_le hg F.size) h2 h3).trans (F.block g hg h1)
end
end Go.Proofs.YtdmmcgcglkblhaaDoor
