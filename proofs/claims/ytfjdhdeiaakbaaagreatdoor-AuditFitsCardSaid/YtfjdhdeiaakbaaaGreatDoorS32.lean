/-
  Walks and laws, one behind the other (part 32).
-/
import Derived.Deep.LoopGhost
import Derived.Lib.MinMax
import Derived.Test.YtfjdhdeiaakbaaaGreatDoorS14
import Derived.Test.YtfjdhdeiaakbaaaGreatDoorS31
set_option linter.unusedSimpArgs false
set_option linter.unusedVariables false
/-
  The contract of step, told of the one list; and of Advance.
-/
namespace Go.Proofs.YtfjdhdeiaakbaaaGreatDoor
open Go.RowKit

/-- A row that was the wheel's, or is new. -/
def Nw (w : World) (S : Nat → Value) (v : Value) : Prop := ∀ k, v.ownBlock = some k → (∃ j, j < 49 ∧ (S j).ownBlock = some k) ∨ w.heap.size ≤ k

theorem turn_any (base b m nb : Nat) (S : Nat → Value) (N : Nat → List Due) (n : Int) (L : List Due) (w : World) (hW : Whl w base b m nb S N n (tk L) L.length) (hI : Inv n N L) (hbase : base ≤ w.heap.size)
    (hn : 0 ≤ n) (hn2 : n < 2305843009213693952) (hL : L.length ≤ 100000) :
    Calls Tryz.prog 197 #[.pointer (some ⟨b, 0, none⟩)] w fun e w' => ∃ (A : Option Addr) (c : Nat) (hs : List Int) (S' : Nat → Value) (N' : Nat → List Due), e = .returned (.slice A hs.length c) ∧
      Whl w' base b m nb S' N' (n + 1) (tk L) L.length ∧ Inv (n + 1) N' (L.filter fun d => decide (d.2 ≠ n + 1)) ∧ hs.Perm ((L.filter fun d => decide (d.2 = n + 1)).map (·.1)) ∧
      Beside w' base b m S' (.slice A hs.length c) hs.length ((hs.map fun x => (x, n + 1)).flatMap dueC) ∧ Fm w w' b m S S' ∧ Nw w S (.slice A hs.length c) := by
  obtain ⟨h1, h2⟩ := hI.step
  refine (step_any base b m S N n w hW.st hbase hn hn2 L.length (fun i => hI.len i) (by omega) (fun i => hI.ticks hn hn2 i)).mono ?_
  rintro e w' ⟨A, k, c, S', rfl, hs⟩
  obtain ⟨l, hl⟩ : ∃ l, prep (n + 1) N ((n + 1) % 16).toNat = l := ⟨_, rfl⟩
  rw [hl] at h2
  have hk := hs.len
  rw [hl] at hk
  have ho := hs.out
  rw [hl] at ho
  obtain ⟨q, hq⟩ : ∃ q, l.map (·.1) = q := ⟨_, rfl⟩
  have hlen : k = q.length := by rw [← hq, List.length_map]; exact hk
  have hlq : q.map (fun x => (x, n + 1)) = l := by rw [← hq]; exact map_tick fun d hd => of_decide_eq_true (List.mem_filter.1 (h2.mem_iff.1 hd)).2
  rw [← hlq] at ho
  clear hk
  subst hlen
  exact ⟨A, c, q, S', _, rfl, ⟨hs.st, hW.mp.fr hW.st hs.fr⟩, h1, by rw [← hq]; exact h2.map _, ⟨ho, hs.apart, hs.off.1, hs.off.2⟩, hs.fr.fm m, hs.new⟩

/-- What was due, and the wheel beside it, while the deletions go on. -/
structure Dz (w wr : World) (base b m nb : Nat) (S S' : Nat → Value) (N' : Nat → List Due) (n : Int) (L' : List Due) (lv : Value) (hs : List Int) (O : List Due) (out : Value) (i j : Nat) : Prop where
  st : WSt wr base b m S' N' n
  mp : Mp wr m nb (tk (dropAll (hs.take i) L')) (dropAll (hs.take i) L').length
  outB : Beside wr base b m S' out (O.length + j) ((O ++ (hs.take j).map fun x => (x, n)).flatMap dueC)
  lvB : Beside wr base b m S' lv hs.length ((hs.map fun x => (x, n)).flatMap dueC)
  ap : Apt lv out
  new : ∀ k, out.ownBlock = some k → w.heap.size ≤ k
  fm : Fm w wr b m S S'
section
variable {w wr w' : World} {base b m nb i j : Nat} {S S' : Nat → Value} {N' : Nat → List Due} {n : Int} {L' : List Due} {lv out : Value} {hs : List Int} {O : List Due}
theorem Dz.below (h : Dz w wr base b m nb S S' N' n L' lv hs O out i j) (hB : Below wr.heap.size wr w') : Dz w w' base b m nb S S' N' n L' lv hs O out i j :=
  ⟨h.st.below hB, h.mp.below hB, h.outB.fm (Fm.quiet hB b m S'), h.lvB.fm (Fm.quiet hB b m S'), h.ap, h.new, h.fm.trans (Fm.quiet hB b m S')⟩
/-- A handle is deleted. -/
theorem Dz.del (h : Dz w wr base b m nb S S' N' n L' lv hs O out i j) (hn : (L'.map (·.1)).Nodup) {x : Int} (hx : hs[i]? = some x) (hw : wfI x) (ty : TypeId) :
    ∃ w', (Builtin.delete_ #[262, 3] ty #[.map (some m), .int .i64 x]).run Tryz.prog wr = .ok (.tuple #[]) w' ∧ wr.mapTurned w' m ∧ Dz w w' base b m nb S S' N' n L' lv hs O out (i + 1) j := by
  obtain ⟨w', h1, h2, h3⟩ := h.mp.cut (dropAll_nodup hn) hw ty
  have ht : hs.take (i + 1) = hs.take i ++ [x] := by rw [List.take_add_one, hx]; rfl
  rw [← dropAll_snoc, ← ht] at h2
  exact ⟨w', h1, h3, h.st.turned h3, h2, h.outB.fm (Fm.turned h3 b S'), h.lvB.fm (Fm.turned h3 b S'), h.ap, h.new, h.fm.trans (Fm.turned h3 b S')⟩
/-- .. and told. -/
theorem Dz.next (h : Dz w wr base b m nb S S' N' n L' lv hs O out i j) {x : Int} (hx : hs[j]? = some x) {v' : Value} (hown : w'.ownsRow base 195 2 v' (O.length + j + 1) (((O ++ (hs.take j).map fun x => (x, n)) ++ [(x, n)]).flatMap dueC))
    (hg : wr.grownBy w' out.ownBlock) (hat : v'.ownBlock = out.ownBlock ∨ v'.ownBlock = some wr.heap.size) : Dz w w' base b m nb S S' N' n L' lv hs O v' i (j + 1) where
  st := h.st.kept hg (fun e => h.outB.offb e.symm) (fun i hi => (h.outB.apart i hi).free)
  mp := h.mp.kept hg (fun e => h.outB.offm e.symm)
  outB := by
    have ht : hs.take (j + 1) = hs.take j ++ [x] := by rw [List.take_add_one, hx]; rfl
    refine ⟨?_, fun i hi => (h.outB.apart i hi).grow (h.st.rows i hi) hat, ?_, ?_⟩
    · rw [ht, List.map_append, ← List.append_assoc]; exact hown
    · rcases hat with e | e
      · rw [e]; exact h.outB.offb
      · rw [e]; have := h.st.blt; simp; omega
    · rcases hat with e | e
      · rw [e]; exact h.outB.offm
      · rw [e]; have := h.st.mp; simp; omega
  lvB := h.lvB.kept hg h.ap.sym.free
  ap := (h.ap.sym.grow h.lvB.own hat).sym
  new := fun k e => by
    rcases hat with e2 | e2
    · exact h.new k (e2 ▸ e)
    · rw [e2] at e; cases e; exact h.fm.size
  fm := h.fm.row hg (fun k e => .inr (h.new k e))
end
theorem Az.of_dz {w wr : World} {base b m nb : Nat} {S S' : Nat → Value} {N' : Nat → List Due} {n : Int} {L L' : List Due} {lv out : Value} {hs ts : List Int} {O : List Due} (h : Dz w wr base b m nb S S' N' (n + 1) L' lv ts O out ts.length ts.length)
    (hi : Inv (n + 1) N' (L'.filter fun d => decide (d.2 ≠ n + 1))) (hn : (L'.map (·.1)).Nodup) (hp : hs.Perm ((L'.filter fun d => decide (d.2 = n + 1)).map (·.1))) (ht : sortI hs = ts) (ha : Adv n L L' O) :
    Whl wr base b m nb S' N' (n + 1) (tk (L'.filter fun d => decide (d.2 ≠ n + 1))) (L'.filter fun d => decide (d.2 ≠ n + 1)).length ∧
      ∃ O', Beside wr base b m S' out O'.length (O'.flatMap dueC) ∧ Adv (n + 1) L (L'.filter fun d => decide (d.2 ≠ n + 1)) O' := by
  have hd : dropAll (ts.take ts.length) L' = L'.filter fun d => decide (d.2 ≠ n + 1) := by
    rw [List.take_length]
    exact dropAll_due hn ((ht ▸ sortI_perm hs).trans hp)
  have hm := h.mp
  rw [hd] at hm
  have ho := h.outB
  rw [List.take_length, show O.length + ts.length = (O ++ ts.map fun x => (x, n + 1)).length by rw [List.length_append, List.length_map]] at ho
  refine ⟨⟨h.st, hm⟩, _, ho, ?_⟩
  have h3 := ha.step (l := L'.filter fun d => decide (d.2 = n + 1)) (.refl _)
  have h4 : sortI ((L'.filter fun d => decide (d.2 = n + 1)).map (·.1)) = ts := by
    rw [← ht]
    exact (((sortI_perm _).trans hp.symm).trans (sortI_perm hs).symm).eq_of_pairwise (fun a b _ _ h1 h2 => Int.le_antisymm h1 h2) (sortI_sorted _) (sortI_sorted _)
  rw [h4] at h3
  exact h3
end Go.Proofs.YtfjdhdeiaakbaaaGreatDoor
/-
  The contract of Advance.
-/
namespace Go.Proofs.YtfjdhdeiaakbaaaGreatDoor
open Go.RowKit

/-- Where Advance stands: the tick n. -/
structure Az (w wr : World) (base b m nb : Nat) (S : Nat → Value) (L : List Due) (n : Int) (out : Value) : Prop where
  ex : ∃ (S' : Nat → Value) (N' : Nat → List Due) (L' O : List Due), Whl wr base b m nb S' N' n (tk L') L'.length ∧ Inv n N' L' ∧ Beside wr base b m S' out O.length (O.flatMap dueC) ∧
    (∀ k, out.ownBlock = some k → w.heap.size ≤ k) ∧ Fm w wr b m S S' ∧ Adv n L L' O

set_option maxHeartbeats 1600000 in
theorem advance_go (base b m nb : Nat) (S : Nat → Value) (N : Nat → List Due) (now : Int) (L : List Due) (tick : Int) (w : World) (hW : Whl w base b m nb S N now (tk L) L.length) (hI : Inv now N L) (hbase : base ≤ w.heap.size)
    (hn : 0 ≤ now) (hn2 : now < 1152921504606846976) (hL : L.length ≤ 100000) (hwf : ∀ d ∈ L, wfI d.1) :
    Calls Tryz.prog 130 #[.pointer (some ⟨b, 0, none⟩), .int .i64 tick] w fun e w' => ∃ v, e = .returned v ∧ Az w w' base b m nb S L (max now (min tick (now + 10000))) v := by
  obtain ⟨e0, he0⟩ : ∃ e0, min tick (now + 10000) = e0 := ⟨_, rfl⟩
  have heb : e0 ≤ now + 10000 := by omega
  have HWH := Lib.hid hW
  have HI := Lib.hid hI
  have HWF := Lib.hid hwf
  have hc := hW.st.tickC
  have hw : IntKind.i64.wrap (now + 10000) = now + 10000 := IntWalk.i64_in _ (by omega)
  clear hW hI hwf
  rw [he0]
  go_enter Tryz.func130, Tryz.ntmps130
  have HE0 := Keep.mk he0
  go_wp2
  clear he0
  go_loopg [5] ((e0 - now).toNat) (fun gg out wr => ∃ n : Int, now ≤ n ∧ n ≤ max now e0 ∧ (e0 - n).toNat ≤ gg ∧ Keep (Az w wr base b m nb S L n out))
  case atStart => exact ⟨now, by omega, by omega, by omega, ⟨⟨S, N, L, [], HWH.out, HI.out, Beside.nil _ _ _ _ _, fun k (e : (none : Option Nat) = some k) => (by cases e), Fm.refl _ _ _ _, Adv.start fun d hd => (HI.out.rng d hd).1⟩⟩⟩
  case round =>
    obtain ⟨n, hn3, hn4, hgg, ⟨⟨S', N', L', O, hw', hi', ho', hnew, hfm, hadv⟩⟩⟩ := hrel
    by_cases hlt : n < e0
    · have hc5 := hw'.st.tickC
      have hL' : L'.length ≤ 100000 := by rw [hadv.rest]; exact Nat.le_trans (List.length_filter_le _ _) hL
      have HT := Keep.mk (turn_any base b m nb S' N' n L' wr hw' hi' (Nat.le_trans hbase hfm.size) (by omega) (by omega) hL')
      have HO := Lib.hid ho'
      have HNW := Lib.hid hnew
      have HFM := Lib.hid hfm
      have HADV := Lib.hid hadv
      have HI' := Lib.hid hi'
      have HOL : Keep (O.length + L'.length ≤ 100000) := ⟨by
        rw [hadv.perm.length_eq, hadv.rest]
        have := (filter_split (fun d => decide (d.2 ≤ n)) (fun d => decide (n < d.2)) (fun _ => true) L (fun d _ => by by_cases h : d.2 ≤ n <;> simp [h]; omega) (fun d _ hh => by have := of_decide_eq_true hh.1; have := of_decide_eq_true hh.2; omega)).length_eq
        rw [List.length_append, List.filter_eq_self.2 (fun _ _ => rfl)] at this
        omega⟩
      have HWF' : Hid (∀ d ∈ L', wfI d.1) := Lib.hid fun d hd => HWF.out d (by rw [hadv.rest] at hd; exact (List.mem_filter.1 hd).1)
      clear hw' hi' ho' hnew hfm hadv hL'
      obtain ⟨wo, hwo⟩ : ∃ wo : World, wo = wr := ⟨_, rfl⟩
      rw [← hwo] at HT HO HFM hc5 ⊢
      clear hwo
      go_wp2_with (first
        | (go_at_call 197
           go_loud (refine HT.out.mono ?_; rintro e w1 ⟨A, c, hs, S1, N1, rfl, hw1, hi1, hp1, hb1, hf1, hnw1⟩)
           have hB1 := HO.out.fm hf1
           have hap1 : Apt (.slice A hs.length c) u5 := by
             cases hv : (Value.slice A hs.length c).ownBlock with
             | none =>
               cases hv2 : u5.ownBlock with
               | none => exact .inl ⟨hv, hv2⟩
               | some k => exact .inr (by rw [hv, hv2]; simp)
             | some k => exact .inr (fun e2 => by
                 rw [hv] at e2
                 rcases hnw1 k hv with ⟨j, hj, ej⟩ | hl
                 · rcases HO.out.apart j hj with ⟨x, _⟩ | x
                   · rw [← e2] at x; cases x
                   · exact x (e2.symm.trans ej.symm)
                 · have := (HO.out.own.lt k e2.symm).2; omega)
           have hlen : hs.length ≤ 100000 := by
             rw [hp1.length_eq, List.length_map]
             have := HOL.out
             exact Nat.le_trans (List.length_filter_le _ _) (by omega)
           have HSD := Keep.mk (sort_due (n + 1) base A c hs w1 hb1.own (by omega))
           have HW1 := Lib.hid hw1
           have HI1 := Lib.hid hi1
           have HP1 := Lib.hid hp1
           have HB1 := Lib.hid hb1
           have HF1 := Lib.hid hf1
           have HNW1 := Lib.hid hnw1
           have HO1 := Lib.hid hB1
           have HAP := Lib.hid hap1
           clear hw1 hi1 hp1 hb1 hf1 hnw1 hB1 hap1)
        | (go_at_call 198
           go_loud (refine HSD.out.mono ?_; rintro e w2 ⟨rfl, ho2, hg2⟩)
           have HO2 := Lib.hid ho2
           have HG2 := Lib.hid hg2
           clear ho2 hg2)
        | fail)
      have hts2 : ∃ ts, sortI hs = ts := ⟨_, rfl⟩
      obtain ⟨ts, hts⟩ := hts2
      have HTS := Keep.mk hts
      have hlt2 : hs.length = ts.length := by rw [← hts]; exact (sortI_perm hs).length_eq.symm
      have HNW2 : Keep (∀ k, (Value.slice A hs.length c).ownBlock = some k → (∃ j, j < 49 ∧ (S j).ownBlock = some k) ∨ w.heap.size ≤ k) := ⟨fun k hk => by
        rcases HNW1.out k hk with ⟨j, hj, ej⟩ | hl
        · exact HFM.out.new j hj k ej
        · exact .inr (Nat.le_trans HFM.out.size hl)⟩
      have hw2 := HW1.out.row HB1.out HG2.out
      have ho2 := HO2.out
      rw [hts] at ho2
      have HD : Keep (Dz w w2 base b m nb S S1 N1 (n + 1) L' (.slice A hs.length c) ts O u5 0 0) := ⟨{
        st := hw2.st
        mp := by rw [List.take_zero]; exact hw2.mp
        outB := by rw [List.take_zero, List.map_nil, List.append_nil]; exact HO1.out.kept HG2.out HAP.out.free
        lvB := ⟨hlt2 ▸ ho2, HB1.out.apart, HB1.out.offb, HB1.out.offm⟩
        ap := HAP.out
        new := HNW.out
        fm := (HFM.out.trans HF1.out).row HG2.out HNW2.out }⟩
      clear hw2 ho2 HO1 HG2 HO2 HNW2 HSD HT HB1 HW1 HAP hts hc5
      rw [hlt2] at HD hlen ⊢
      clear hlt2
      go_loopw [5, 35] (fun v i wr => ∃ j : Nat, j ≤ ts.length ∧ i = .int .i64 j ∧ Keep (Dz w wr base b m nb S S1 N1 (n + 1) L' (.slice A ts.length c) ts O v j j)) (fun _ i _ => ts.length - (intOf i).toNat)
      case atStart => exact ⟨0, by omega, rfl, HD⟩
      case round =>
        obtain ⟨j, hj, rfl, HZ⟩ := hrel
        by_cases hjl : j < ts.length
        · obtain ⟨x, hx⟩ : ∃ x, ts[j] = x := ⟨_, rfl⟩
          have hjx : ts[j]? = some x := by rw [List.getElem?_eq_getElem hjl, hx]
          have hmem : x ∈ ts := List.mem_of_getElem? hjx
          have hwx : wfI x := by
            have h1 : x ∈ hs := (sortI_perm hs).mem_iff.1 (by rw [HTS.out]; exact hmem)
            obtain ⟨d, hd, rfl⟩ := List.mem_map.1 (HP1.out.mem_iff.1 h1)
            exact HWF'.out d (List.mem_filter.1 hd).1
          obtain ⟨g, off, hA, hgl, hcs⟩ := Rd.of_own dueC_length (by decide) (HZ.out.lvB.own) (by intro e; rw [List.map_eq_nil_iff] at e; rw [e] at hjl; exact absurd hjl (Nat.not_lt_zero _))
          have hxd : (ts.map fun x => (x, n + 1))[j]? = some (x, n + 1) := by rw [List.getElem?_map, hjx]; rfl
          have c0 : wr.cell? ⟨g, off + j * 2, none⟩ = some (.int .i64 x) := hcs j _ hxd 0 _ rfl
          have c1 : wr.cell? ⟨g, off + j * 2 + 1, none⟩ = some (.int .i64 (n + 1)) := hcs j _ hxd 1 _ rfl
          have HJX := Keep.mk hjx
          have hB3 : Below wr.heap.size wr (wr.alloc (.cells #[.int .i64 x, .int .i64 (n + 1)] 195)).drew := ((Below.refl _ wr).alloc (Nat.le_refl _) _).drew
          have hz3 := HZ.out.below hB3
          have hcm : ((wr.alloc (.cells #[.int .i64 x, .int .i64 (n + 1)] 195)).drew).cell? ⟨b, 50, none⟩ = some (.map (some m)) := hz3.st.mapC
          have e0' : ((wr.alloc (.cells #[.int .i64 x, .int .i64 (n + 1)] 195)).drew).cell? ⟨wr.heap.size, 0, none⟩ = some (.int .i64 x) := by show (wr.alloc _).cell? _ = _; rw [World.cell?_alloc_new]; rfl
          have e1' : ((wr.alloc (.cells #[.int .i64 x, .int .i64 (n + 1)] 195)).drew).cell? ⟨wr.heap.size, 1, none⟩ = some (.int .i64 (n + 1)) := by show (wr.alloc _).cell? _ = _; rw [World.cell?_alloc_new]; rfl
          obtain ⟨w4, hdel, t4, hz4⟩ := hz3.del HI'.out.nodup hjx hwx 0
          have hsz3 : wr.heap.size < ((wr.alloc (.cells #[.int .i64 x, .int .i64 (n + 1)] 195)).drew).heap.size := by show _ < (wr.alloc _).heap.size; simp
          have hne4 : some wr.heap.size ≠ some m := by have := HZ.out.mp.lt; simp; omega
          have c4m : w4.cell? ⟨b, 50, none⟩ = some (.map (some m)) := hz4.st.mapC
          have f0' : w4.cell? ⟨wr.heap.size, 0, none⟩ = some (.int .i64 x) := (World.cell?_of_block (t4.grown.block wr.heap.size hsz3 hne4)).trans e0'
          have f1' : w4.cell? ⟨wr.heap.size, 1, none⟩ = some (.int .i64 (n + 1)) := (World.cell?_of_block (t4.grown.block wr.heap.size hsz3 hne4)).trans e1'
          have HZ4 := Lib.hid (hz4.below ((Below.refl w4.heap.size w4).alloc (Nat.le_refl _) (.cells #[.int .i64 x, .int .i64 (n + 1)] 195)))
          have hb4 : base ≤ (w4.alloc (.cells #[.int .i64 x, .int .i64 (n + 1)] 195)).heap.size := by have := HZ4.out.fm.size; omega
          have hOl : O.length + j ≤ 1000000 := by
            have := HOL.out
            have h1 : ts.length ≤ L'.length := by rw [← HTS.out, (sortI_perm hs).length_eq, HP1.out.length_eq, List.length_map]; exact List.length_filter_le _ _
            omega
          have HB4 := Keep.mk hb4
          have HOl := Keep.mk hOl
          subst hA
          have hji : ((j : Nat) : Int) < (ts.length : Int) := by omega
          clear hcs hgl hxd hjx hmem hwx hB3 hz3 hz4 hne4 hx t4 hb4 hOl
          go_wp2
          go_region_held3 (fun W => W.cell? ⟨b, 50, none⟩ = some (.map (some m)) ∧ W.cell? ⟨wr.heap.size, 0, none⟩ = some (.int .i64 x))
            (first | exact ⟨hcm, e0'⟩ | exact ⟨c4m, f0'⟩)
            (fail)
          clear hcm e0' e1' c0 c1 hdel
          go_wp2_with (first
            | (refine wpList_append_due rfl (.tmp 45) (.tmp 47) 192 rfl Tryz.underlying192 base u5 _ _ rfl HZ4.out.outB.own w4.heap.size (x, n + 1) rfl 195 (heap_alloc_new _ _) HOl.out HB4.out ?_
               intro v5 w5 hown5 hgr5 hat5
               have HZ5 := Keep.mk (HZ4.out.next HJX.out hown5 hgr5 hat5)
               clear hown5 hgr5 hat5)
            | fail)
          go_roundw
          case rel => exact ⟨j + 1, by omega, by go_num, HZ5⟩
          case measure => simp [intOf] <;> omega
        · have hje : j = ts.length := by omega
          subst hje
          go_wp2
          go_roundg ((e0 - (n + 1)).toNat)
          case measure => omega
          case rel =>
            have hz := HZ.out
            obtain ⟨h1, O', h2, h3⟩ := Az.of_dz hz HI1.out HI'.out.nodup HP1.out HTS.out HADV.out
            exact ⟨n + 1, by omega, by omega, Nat.le_refl _, ⟨⟨S1, N1, _, O', h1, HI1.out, h2, hz.new, hz.fm, h3⟩⟩⟩
    · have hne : n = max now e0 := by omega
      have hc5 := hw'.st.tickC
      have HAZ : Keep (Az w wr base b m nb S L n u5) := ⟨⟨S', N', L', O, hw', hi', ho', hnew, hfm, hadv⟩⟩
      clear hw' hi' ho' hnew hfm hadv
      have HNE := Keep.mk hne
      clear hne
      go_wp2
      go_ret
      exact ⟨_, rfl, by rw [← HNE.out]; exact HAZ.out⟩
end Go.Proofs.YtfjdhdeiaakbaaaGreatDoor
/-
  The wheel's Advance, told of the one list.
-/
namespace Go.Proofs.YtfjdhdeiaakbaaaGreatDoor
open Go.RowKit
variable {base b m nb : Nat} {S : Nat → Value} {now : Int} {L : List Due} {w : World}
theorem advance_wl (h : Wl w base b m nb S now L) (hbase : base ≤ w.heap.size) (tick : Int) (hn : 0 ≤ now) (hn2 : now < 1152921504606846976) (hL : L.length ≤ 10000) (hwf : ∀ d ∈ L, wfI d.1) :
    Calls Tryz.prog 130 #[.pointer (some ⟨b, 0, none⟩), .int .i64 tick] w fun e w' => ∃ (v : Value) (S' : Nat → Value) (L' O : List Due), e = .returned v ∧ Wl w' base b m nb S' (max now (min tick (now + 10000))) L' ∧
      Beside w' base b m S' v O.length (O.flatMap dueC) ∧ (∀ k, v.ownBlock = some k → w.heap.size ≤ k) ∧ Fm w w' b m S S' ∧ Adv (max now (min tick (now + 10000))) L L' O := by
  obtain ⟨N, hw, hi⟩ := h.ex
  refine (advance_go base b m nb S N now L tick w hw hi hbase hn hn2 (by omega) hwf).mono ?_
  rintro e w' ⟨v, rfl, ⟨S', N', L', O, h1, h2, h3, h4, h5, h6⟩⟩
  exact ⟨v, S', L', O, rfl, ⟨N', h1, h2⟩, h3, h4, h5, h6⟩
end Go.Proofs.YtfjdhdeiaakbaaaGreatDoor
