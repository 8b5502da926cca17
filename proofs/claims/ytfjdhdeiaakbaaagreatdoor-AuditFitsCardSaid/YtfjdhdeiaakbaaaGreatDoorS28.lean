/-
  Walks and laws, one behind the other (part 28).
-/
import Derived.BigQuiet
import Derived.Deep.RegionHeld3
import Derived.Lib.MinMax
import Derived.Test.YtfjdhdeiaakbaaaGreatDoorS21
import Derived.Test.YtfjdhdeiaakbaaaGreatDoorS27
set_option linter.unusedSimpArgs false
set_option linter.unusedVariables false
/-
  The table in memory; New, Take.
-/
namespace Go.Proofs.YtfjdhdeiaakbaaaGreatDoor
open Go.RowKit Go.Maps

/-- Block b: the capacity and the map in block m. -/
structure Tb (w : World) (base b m nb : Nat) (most : Int) (M : Int → Option En) (k : Nat) : Prop where
  lowb : base ≤ b
  lowm : base ≤ m
  ne : b ≠ m
  blk : w.heap[b]? = some (.cells #[.int .i64 most, .map (some m)] 126 (0, 0))
  mp : Mt w m nb M k
/-- What a call leaves: all but the map. -/
structure Ft (w w' : World) (m : Nat) : Prop where
  os : w'.os = w.os
  tape : w'.tape = w.tape
  output : w'.output = w.output
  size : w.heap.size ≤ w'.heap.size
  block : ∀ k, k < w.heap.size → k ≠ m → w'.heap[k]? = w.heap[k]?
section
variable {w w' w'' : World} {base b m nb k : Nat} {most : Int} {M : Int → Option En}
theorem Tb.lt (h : Tb w base b m nb most M k) : b < w.heap.size := lt_of_block h.blk
theorem Tb.mostC (h : Tb w base b m nb most M k) : w.cell? ⟨b, 0, none⟩ = some (.int .i64 most) := by rw [cell_of_row w b 0 _ _ (0, 0) h.blk]; rfl
theorem Tb.mapC (h : Tb w base b m nb most M k) : w.cell? ⟨b, 1, none⟩ = some (.map (some m)) := by rw [cell_of_row w b 1 _ _ (0, 0) h.blk]; rfl
theorem Tb.below (h : Tb w base b m nb most M k) (hB : Below w.heap.size w w') : Tb w' base b m nb most M k :=
  ⟨h.lowb, h.lowm, h.ne, (hB.block b h.lt).trans h.blk, h.mp.same (hB.block m h.mp.lt)⟩
theorem Tb.turned {M' : Int → Option En} {nb' k' : Nat} (h : Tb w base b m nb most M k) (ht : w.mapTurned w' m) (hm : Mt w' m nb' M' k') : Tb w' base b m nb' most M' k' :=
  ⟨h.lowb, h.lowm, h.ne, (ht.grown.block b h.lt (fun e => h.ne (by cases e; rfl))).trans h.blk, hm⟩
theorem Ft.quiet (hB : Below w.heap.size w w') (m : Nat) : Ft w w' m := ⟨hB.os, hB.tape, hB.output, hB.size, fun k hk _ => hB.block k hk⟩
theorem Ft.turned (ht : w.mapTurned w' m) : Ft w w' m := ⟨ht.grown.os, ht.grown.tape, ht.grown.output, ht.grown.size, fun k hk hm => ht.grown.block k hk (fun e => hm (by cases e; rfl))⟩
theorem Ft.trans (h : Ft w w' m) (h' : Ft w' w'' m) : Ft w w'' m :=
  ⟨h'.os.trans h.os, h'.tape.trans h.tape, h'.output.trans h.output, Nat.le_trans h.size h'.size, fun k hk hm => (h'.block k (Nat.lt_of_lt_of_le hk h.size) hm).trans (h.block k hk hm)⟩
theorem Ft.below (h : Ft w w' m) {B : Nat} (hm : B ≤ m) (hs : B ≤ w.heap.size) : Below B w w' := ⟨h.os, h.tape, h.output, h.size, fun k hk => h.block k (by omega) (by omega)⟩
end

theorem tb_new (most : Int) (w : World) : Tb ((w.alloc (.map #[] 0)).alloc (.cells #[.int .i64 most, .map (some w.heap.size)] 126)) w.heap.size (w.heap.size + 1) w.heap.size 0 most (fun _ => none) 0 where
  lowb := by omega
  lowm := Nat.le_refl _
  ne := by omega
  blk := by rw [show w.heap.size + 1 = (w.alloc (.map #[] 0)).heap.size by simp]; exact heap_alloc_new _ _
  mp := (Mt.made w).same (Below.heap_alloc _ _ _ (by simp))

set_option maxHeartbeats 1600000 in
theorem tnew_any (cap : Int) (w : World) :
    Calls Tryz.prog 51 #[.int .i64 cap] w fun e w' => e = .returned (.pointer (some ⟨w.heap.size + 1, 0, none⟩)) ∧
      Tb w' w.heap.size (w.heap.size + 1) w.heap.size 0 (min (max cap 1) 64) (fun _ => none) 0 ∧ Below w.heap.size w w' := by
  have hmk : (Instr.makeMap 124 none).run Tryz.prog w = .ok (.map (some w.heap.size)) (w.alloc (.map #[] 0)) := rfl
  have HE := Keep.mk (tb_new (min (max cap 1) 64) w)
  have HB : Keep (Below w.heap.size w ((w.alloc (.map #[] 0)).alloc (.cells #[.int .i64 (min (max cap 1) 64), .map (some w.heap.size)] 126))) := ⟨((Below.refl _ w).alloc (Nat.le_refl _) _).alloc (by simp) _⟩
  go_enter Tryz.func51, Tryz.ntmps51
  go_wp2_with fail
  go_ret
  exact ⟨rfl, HE.out, HB.out⟩

/-- What Take answers: a full table; no key that can be; the first one that can. -/
def Took (w : World) (base b m nb : Nat) (most : Int) (M : Int → Option En) (k : Nat) (o : Int) (ks : List Int) (e : Ending) (w' : World) : Prop :=
  ((k : Int) = most ∧ e = .returned (.tuple #[.int .u64 0, .int .i64 0, .int .i64 15]) ∧ Tb w' base b m nb most M k ∧ Ft w w' m) ∨
  ((k : Int) ≠ most ∧ (∀ x ∈ ks, (M (tokN x)).isSome = true) ∧ e = .returned (.tuple #[.int .u64 0, .int .i64 ks.length, .int .i64 6]) ∧ Tb w' base b m nb most M k ∧ Ft w w' m) ∨
  ((k : Int) ≠ most ∧ ∃ (i : Nat) (key : Int), ks[i]? = some key ∧ (∀ x ∈ ks.take i, (M (tokN x)).isSome = true) ∧ M (tokN key) = none ∧ e = .returned (.tuple #[.int .u64 key, .int .i64 i, .int .i64 0]) ∧
    Tb w' base b m (nb + 1) most (setT M (tokN key) (some ⟨o, true, 0⟩)) (k + 1) ∧ Ft w w' m)

set_option maxRecDepth 100000 in
set_option maxHeartbeats 3200000 in
theorem tk_take (base b m nb : Nat) (most : Int) (M : Int → Option En) (k : Nat) (o : Int) (A : Option Addr) (n c : Nat) (ks : List Int) (w : World) (hT : Tb w base b m nb most M k) (ha : Arg w 1 encU A n c ks) (hks : ∀ z ∈ ks, 0 ≤ z ∧ z < 18446744073709551616) (hn : n ≤ 1000000) (hnb : nb < 1000000) :
    Calls Tryz.prog 145 #[.pointer (some ⟨b, 0, none⟩), .int .i64 o, .slice A n c] w fun e w' => Took w base b m nb most M k o ks e w' := by
  have cm := hT.mostC
  have cmap := hT.mapC
  have HLEN : Keep (∀ ty, (Builtin.len_ #[124] ty #[.map (some m)]).run Tryz.prog w.drew = .ok (.int .i64 k) w.drew) := ⟨fun ty => (hT.mp.same (w' := w.drew) rfl).len ty⟩
  have HT := Keep.mk hT
  have HA := Lib.hid ha
  have HKS := Keep.mk hks
  have hln := ha.hlen
  have hca := ha.hcap
  subst hln
  have HNB : Keep (nb < maxLen) := ⟨by unfold maxLen; omega⟩
  have HBD : Keep (Below w.heap.size w w.drew) := ⟨(Below.refl _ w).drew⟩
  clear hT ha hks
  by_cases hk : (k : Int) = most
  · have hkb : ((k : Int) == most) = true := by simp [hk]
    have hl := HLEN.out
    have HK := Keep.mk hk
    clear hk
    go_enter Tryz.func145, Tryz.ntmps145
    go_wp2_with fail
    go_region_held3 (fun X => X.cell? ⟨b, 0, none⟩ = some (.int .i64 most) ∧ X.cell? ⟨b, 1, none⟩ = some (.map (some m)) ∧ (Builtin.len_ #[124] 3 #[.map (some m)]).run Tryz.prog X = .ok (.int .i64 k) X) (exact ⟨cm, cmap, hl _⟩) (fail)
    go_wp2_with fail
    go_ret3
    exact .inl ⟨HK.out, rfl, HT.out.below HBD.out, Ft.quiet HBD.out m⟩
  · have hkb : ((k : Int) == most) = false := by simp [hk]
    have hl := HLEN.out
    have HK := Keep.mk hk
    clear hk
    go_enter Tryz.func145, Tryz.ntmps145
    go_wp2_with fail
    go_region_held3 (fun X => X.cell? ⟨b, 0, none⟩ = some (.int .i64 most) ∧ X.cell? ⟨b, 1, none⟩ = some (.map (some m)) ∧ (Builtin.len_ #[124] 3 #[.map (some m)]).run Tryz.prog X = .ok (.int .i64 k) X) (exact ⟨cm, cmap, hl _⟩) (fail)
    go_wp2_with fail
    clear cm cmap hl HLEN
    go_loopw [30] (fun i wr => ∃ j : Nat, j ≤ ks.length ∧ i = .int .i64 j ∧ Keep (Below w.heap.size w wr) ∧ Keep (∀ x ∈ ks.take j, (M (tokN x)).isSome = true)) (fun i _ => ks.length - (intOf i).toNat)
    case atStart => exact ⟨0, by omega, rfl, HBD, ⟨by simp⟩⟩
    case round =>
      obtain ⟨j, hj, rfl, HB, HS⟩ := hrel
      by_cases hlt : j < ks.length
      · obtain ⟨ga, off, hA, hgl, hcs⟩ := HA.out.rd (List.ne_nil_of_length_pos (by omega))
        obtain ⟨x, hx⟩ : ∃ x, ks[j] = x := ⟨_, rfl⟩
        have hlx : ks[j]? = some x := by rw [List.getElem?_eq_getElem hlt, hx]
        have hbx := HKS.out x (List.mem_of_getElem? hlx)
        have c0 : wr.cell? ⟨ga, off + j, none⟩ = some (.int .u64 x) := by
          have := (HB.out.cell (p := ⟨ga, off + j * 1 + 0, none⟩) hgl).trans (hcs j x hlx 0 _ rfl)
          rwa [Nat.mul_one, Nat.add_zero] at this
        obtain ⟨t, ht⟩ : ∃ t, tokN x = t := ⟨_, rfl⟩
        have TK : Keep (∀ W, Calls Tryz.prog 216 #[.int .u64 x] W fun e w' => e = .returned (.int .u32 t) ∧ Below W.heap.size W w') := ⟨fun W => ht ▸ token_any x W hbx.1 hbx.2⟩
        have WT : Keep (wfU t) := ⟨by have := tok_bd x; rw [ht] at this; exact wfU_of this.1 (by omega)⟩
        subst hA
        have hji : ((j : Nat) : Int) < (ks.length : Int) := by omega
        have HLX := Keep.mk hlx
        have HTX := Keep.mk ht
        cases hM : M t with
        | none =>
          have HM := Keep.mk hM
          clear hcs hgl hx hlx hbx ht hM
          go_wp2_with (first
            | (go_at_call 216
               go_loud (refine (TK.out _).mono ?_; rintro e w1 ⟨rfl, hb1⟩)
               have B1 : Below w.heap.size w w1 := HB.out.trans (hb1.mono HB.out.size)
               have T1 := HT.out.below B1
               have hlk0 := T1.mp.look WT.out
               rw [HM.out] at hlk0
               have hlk : (Instr.lookup 124 (.map (some m)) (.int .u32 t) true).run Tryz.prog w1 = .ok (.tuple #[.agg #[.int .u32 0, .int .i64 0, .bool false, .int .i64 0], .bool false]) w1 := hlk0
               clear hlk0
               have cm1 := T1.mapC
               have B2 : Below w.heap.size w (w1.alloc (.cells #[.int .u32 0, .int .i64 0, .bool false, .int .i64 0] 26)) := B1.alloc B1.size _
               have T2 := HT.out.below B2
               have cm2 := T2.mapC
               obtain ⟨w3, hput0, hm3, ht3⟩ := T2.mp.put HNB.out ⟨o, true, 0⟩ WT.out
               have hput : (Instr.mapUpdate 124 (.map (some m)) (.int .u32 t) (.agg #[.int .u32 t, .int .i64 o, .bool true, .int .i64 0])).run Tryz.prog (w1.alloc (.cells #[.int .u32 0, .int .i64 0, .bool false, .int .i64 0] 26)) = .ok () w3 := hput0
               clear hput0
               rw [HM.out] at hm3
               have T3 := Keep.mk (T2.turned ht3 hm3)
               have F3 := Keep.mk ((Ft.quiet B2 m).trans (Ft.turned ht3))
               clear hb1 B1 T1 T2 B2 hm3 ht3)
            | fail)
          go_ret3
          refine .inr (.inr ⟨HK.out, j, x, HLX.out, HS.out, by rw [HTX.out]; exact HM.out, rfl, ?_, F3.out⟩)
          rw [HTX.out]
          exact T3.out
        | some en =>
          have HM := Keep.mk hM
          obtain ⟨eo, el, eu⟩ := en
          have HS2 : Keep (∀ y ∈ ks.take (j + 1), (M (tokN y)).isSome = true) := ⟨fun y hy => by
            rw [List.take_add_one, hlx] at hy
            rcases List.mem_append.1 hy with h | h
            · exact HS.out y h
            · obtain rfl : y = x := by simpa using h
              rw [ht, hM]; rfl⟩
          clear hcs hgl hx hlx hbx ht hM
          go_wp2_with (first
            | (go_at_call 216
               go_loud (refine (TK.out _).mono ?_; rintro e w1 ⟨rfl, hb1⟩)
               have B1 : Below w.heap.size w w1 := HB.out.trans (hb1.mono HB.out.size)
               have T1 := HT.out.below B1
               have hlk0 := T1.mp.look WT.out
               rw [HM.out] at hlk0
               have hlk : (Instr.lookup 124 (.map (some m)) (.int .u32 t) true).run Tryz.prog w1 = .ok (.tuple #[.agg #[.int .u32 t, .int .i64 eo, .bool el, .int .i64 eu], .bool true]) w1 := hlk0
               clear hlk0
               have cm1 := T1.mapC
               have B2 : Keep (∀ o, Below w.heap.size w (w1.alloc o)) := ⟨fun o => B1.alloc B1.size o⟩
               clear hb1 B1 T1)
            | fail)
          go_roundw
          case rel => exact ⟨j + 1, by omega, by go_num, ⟨B2.out _⟩, HS2⟩
          case measure => simp [intOf] <;> omega
      · have hje : j = ks.length := by omega
        subst hje
        rw [List.take_length] at HS
        clear hj
        go_wp2_with fail
        go_ret3
        exact .inr (.inl ⟨HK.out, HS.out, rfl, HT.out.below HB.out, Ft.quiet HB.out m⟩)
end Go.Proofs.YtfjdhdeiaakbaaaGreatDoor
/-
  Find, Free; a table that is not there; wakes.
-/
namespace Go.Proofs.YtfjdhdeiaakbaaaGreatDoor
open Go.RowKit Go.Maps

def ownT (M : Int → Option En) (t : Int) : Int := match M t with | some x => x.o | none => 0
def liveT (M : Int → Option En) (t : Int) : Bool := match M t with | some x => x.l | none => false

set_option maxHeartbeats 1600000 in
theorem find_any (base b m nb : Nat) (most : Int) (M : Int → Option En) (k : Nat) (t : Int) (w : World) (hT : Tb w base b m nb most M k) (ht : wfU t) :
    Calls Tryz.prog 192 #[.pointer (some ⟨b, 0, none⟩), .int .u32 t] w fun e w' => e = .returned (.tuple #[.int .i64 (ownT M t), .bool (liveT M t)]) ∧ Below w.heap.size w w' := by
  have cm := hT.mapC
  have hlk0 := hT.mp.look1 ht
  obtain ⟨t0, x, hx, ho, hl⟩ : ∃ (t0 : Int) (x : En), seen t (M t) = enV t0 x ∧ ownT M t = x.o ∧ liveT M t = x.l := by
    unfold ownT liveT
    cases M t with
    | none => exact ⟨0, noEn, rfl, rfl, rfl⟩
    | some e => exact ⟨t, e, rfl, rfl, rfl⟩
  rw [hx] at hlk0
  obtain ⟨xo, xl, xu⟩ := x
  have hlk : (Instr.lookup 124 (.map (some m)) (.int .u32 t) false).run Tryz.prog w = .ok (.agg #[.int .u32 t0, .int .i64 xo, .bool xl, .int .i64 xu]) w := hlk0
  rw [ho, hl]
  have HB : Keep (Below w.heap.size w (w.alloc (.cells #[.int .u32 t0, .int .i64 xo, .bool xl, .int .i64 xu] 26))) := ⟨(Below.refl _ w).alloc (Nat.le_refl _) _⟩
  have e1 : (w.alloc (.cells #[.int .u32 t0, .int .i64 xo, .bool xl, .int .i64 xu] 26)).drew.cell? ⟨w.heap.size, 1, none⟩ = some (.int .i64 xo) := by show (w.alloc _).cell? _ = _; rw [World.cell?_alloc_new]; rfl
  have e2 : (w.alloc (.cells #[.int .u32 t0, .int .i64 xo, .bool xl, .int .i64 xu] 26)).drew.cell? ⟨w.heap.size, 2, none⟩ = some (.bool xl) := by show (w.alloc _).cell? _ = _; rw [World.cell?_alloc_new]; rfl
  clear hT ht hlk0 hx ho hl
  go_enter Tryz.func192, Tryz.ntmps192
  go_wp2_with fail
  go_region_held3 (fun X => X.cell? ⟨w.heap.size, 1, none⟩ = some (.int .i64 xo) ∧ X.cell? ⟨w.heap.size, 2, none⟩ = some (.bool xl)) (exact ⟨e1, e2⟩) (fail)
  go_wp2_with fail
  refine bodyPost_ret (results_tmp2 rfl _ _ _) rfl ?_
  exact ⟨rfl, HB.out.drew⟩

set_option maxRecDepth 100000 in
set_option maxHeartbeats 1600000 in
theorem free_yes (base b m nb : Nat) (most : Int) (M : Int → Option En) (k : Nat) (t tick o u : Int) (w : World) (hT : Tb w base b m nb most M k) (ht : wfU t) (hM : M t = some ⟨o, true, u⟩) (hnb : nb < 1000000) (h1 : -4611686018427387904 < tick) (h2 : tick < 4611686018427387904) :
    Calls Tryz.prog 137 #[.pointer (some ⟨b, 0, none⟩), .int .u32 t, .int .i64 tick] w fun e w' => e = .returned (.int .i64 0) ∧ Tb w' base b m (nb + 1) most (setT M t (some ⟨0, false, tick + 10⟩)) k ∧ Ft w w' m := by
  have cm := hT.mapC
  have hlk0 := hT.mp.look1 ht
  rw [hM] at hlk0
  have hlk : (Instr.lookup 124 (.map (some m)) (.int .u32 t) false).run Tryz.prog w = .ok (.agg #[.int .u32 t, .int .i64 o, .bool true, .int .i64 u]) w := hlk0
  have hf : (Instr.field 26 (.agg #[.int .u32 t, .int .i64 o, .bool true, .int .i64 u]) 2).run Tryz.prog w = .ok (.bool true) w := by kernel_rfl
  have q : IntKind.i64.wrap (tick + 10) = tick + 10 := IntWalk.i64_in _ (by omega)
  obtain ⟨w3, hput0, hm3, ht3⟩ := hT.mp.put (by unfold maxLen; omega) ⟨0, false, tick + 10⟩ ht
  have hput : (Instr.mapUpdate 124 (.map (some m)) (.int .u32 t) (.agg #[.int .u32 t, .int .i64 0, .bool false, .int .i64 (tick + 10)])).run Tryz.prog w = .ok () w3 := hput0
  rw [hM] at hm3
  have T3 := Keep.mk (hT.turned ht3 hm3)
  have F3 := Keep.mk (Ft.turned ht3)
  clear hT ht hM hlk0 hput0 hm3 ht3
  go_enter Tryz.func137, Tryz.ntmps137
  go_wp2_with fail
  go_ret
  exact ⟨rfl, T3.out, F3.out⟩

set_option maxRecDepth 100000 in
set_option maxHeartbeats 1600000 in
theorem free_no (base b m nb : Nat) (most : Int) (M : Int → Option En) (k : Nat) (t tick : Int) (w : World) (hT : Tb w base b m nb most M k) (ht : wfU t) (hM : liveT M t = false) :
    Calls Tryz.prog 137 #[.pointer (some ⟨b, 0, none⟩), .int .u32 t, .int .i64 tick] w fun e w' => e = .returned (.int .i64 6) ∧ w' = w := by
  have cm := hT.mapC
  have hlk0 := hT.mp.look1 ht
  obtain ⟨t0, x, hx, hl⟩ : ∃ (t0 : Int) (x : En), seen t (M t) = enV t0 x ∧ liveT M t = x.l := by
    unfold liveT
    cases M t with
    | none => exact ⟨0, noEn, rfl, rfl⟩
    | some e => exact ⟨t, e, rfl, rfl⟩
  rw [hx] at hlk0
  obtain ⟨xo, xl, xu⟩ := x
  obtain rfl : xl = false := hl.symm.trans hM
  have hlk : (Instr.lookup 124 (.map (some m)) (.int .u32 t) false).run Tryz.prog w = .ok (.agg #[.int .u32 t0, .int .i64 xo, .bool false, .int .i64 xu]) w := hlk0
  have hf : (Instr.field 26 (.agg #[.int .u32 t0, .int .i64 xo, .bool false, .int .i64 xu]) 2).run Tryz.prog w = .ok (.bool false) w := by kernel_rfl
  clear hT ht hM hlk0 hx hl
  go_enter Tryz.func137, Tryz.ntmps137
  go_wp2_with fail
  go_ret
  exact ⟨rfl, rfl⟩

theorem take_nil (o : Int) (v : Value) (w : World) : Calls Tryz.prog 145 #[.pointer none, .int .i64 o, v] w fun e w' => e = .returned (.tuple #[.int .u64 0, .int .i64 0, .int .i64 2]) ∧ w' = w := by
  go_enter Tryz.func145, Tryz.ntmps145
  go_wp2_with fail
  go_ret3
  exact ⟨rfl, rfl⟩
theorem find_nil (t : Int) (w : World) : Calls Tryz.prog 192 #[.pointer none, .int .u32 t] w fun e w' => e = .returned (.tuple #[.int .i64 0, .bool false]) ∧ w' = w := by
  go_enter Tryz.func192, Tryz.ntmps192
  go_wp2_with fail
  refine bodyPost_ret (results_tmp2 rfl _ _ _) rfl ?_
  exact ⟨rfl, rfl⟩
theorem free_nil (t tick : Int) (w : World) : Calls Tryz.prog 137 #[.pointer none, .int .u32 t, .int .i64 tick] w fun e w' => e = .returned (.int .i64 2) ∧ w' = w := by
  go_enter Tryz.func137, Tryz.ntmps137
  go_wp2_with fail
  go_ret
  exact ⟨rfl, rfl⟩
theorem tick_nil (tick : Int) (w : World) : Calls Tryz.prog 80 #[.pointer none, .int .i64 tick] w fun e w' => e = .returned (.int .i64 0) ∧ Below w.heap.size w w' := by
  have HB : Keep (Below w.heap.size w (w.alloc (.cells #[.int .i64 tick] 3))) := ⟨(Below.refl _ w).alloc (Nat.le_refl _) _⟩
  go_enter Tryz.func80, Tryz.ntmps80
  go_wp2_with fail
  go_ret
  exact ⟨rfl, HB.out⟩
theorem tok_five : tokN 5 = 1575898582 := by
  rw [tokN, digB_eq _ (beB_byte 5 8)]
  decide +kernel
theorem tok_six : tokN 6 = 346838908 := by
  rw [tokN, digB_eq _ (beB_byte 6 8)]
  decide +kernel
end Go.Proofs.YtfjdhdeiaakbaaaGreatDoor
/-
  wakes; the walk of the law TokenNil.
-/
namespace Go.Proofs.YtfjdhdeiaakbaaaGreatDoor
open Go.RowKit Go.Maps

section
variable {w w' : World} {base b m nb k : Nat} {most o : Int} {M : Int → Option En} {ks r : List Int} {e : Ending}
theorem Took.full (h : Took w base b m nb most M k o ks e w') (hk : (k : Int) = most) : e = .returned (.tuple #[.int .u64 0, .int .i64 0, .int .i64 15]) ∧ Tb w' base b m nb most M k ∧ Ft w w' m := by
  rcases h with ⟨_, h⟩ | ⟨h, _⟩ | ⟨h, _⟩
  · exact h
  · exact absurd hk h
  · exact absurd hk h
theorem Took.nobody (h : Took w base b m nb most M k o ks e w') (hk : (k : Int) ≠ most) (hM : ∀ x ∈ ks, (M (tokN x)).isSome = true) : e = .returned (.tuple #[.int .u64 0, .int .i64 ks.length, .int .i64 6]) ∧ Tb w' base b m nb most M k ∧ Ft w w' m := by
  rcases h with ⟨h, _⟩ | ⟨_, _, h⟩ | ⟨_, i, key, h1, _, h3, _⟩
  · exact absurd h hk
  · exact h
  · have := hM key (List.mem_of_getElem? h1)
    rw [h3] at this
    cases this
/-- The first of the keys is the one. -/
theorem Took.first {x : Int} (h : Took w base b m nb most M k o (x :: r) e w') (hk : (k : Int) ≠ most) (hM : M (tokN x) = none) :
    e = .returned (.tuple #[.int .u64 x, .int .i64 0, .int .i64 0]) ∧ Tb w' base b m (nb + 1) most (setT M (tokN x) (some ⟨o, true, 0⟩)) (k + 1) ∧ Ft w w' m := by
  rcases h with ⟨h, _⟩ | ⟨_, h, _⟩ | ⟨_, i, key, h1, h2, h3, h4, h5⟩
  · exact absurd h hk
  · have := h x (by simp)
    rw [hM] at this
    cases this
  · cases i with
    | zero =>
      obtain rfl : x = key := by simpa using h1
      exact ⟨h4, h5⟩
    | succ i =>
      have := h2 x (by simp)
      rw [hM] at this
      cases this
/-- The second is. -/
theorem Took.second {x y : Int} (h : Took w base b m nb most M k o (x :: y :: r) e w') (hk : (k : Int) ≠ most) (hx : (M (tokN x)).isSome = true) (hM : M (tokN y) = none) :
    e = .returned (.tuple #[.int .u64 y, .int .i64 1, .int .i64 0]) ∧ Tb w' base b m (nb + 1) most (setT M (tokN y) (some ⟨o, true, 0⟩)) (k + 1) ∧ Ft w w' m := by
  rcases h with ⟨h, _⟩ | ⟨_, h, _⟩ | ⟨_, i, key, h1, h2, h3, h4, h5⟩
  · exact absurd h hk
  · have := h y (by simp)
    rw [hM] at this
    cases this
  · match i, h1, h2, h4 with
    | 0, h1, _, _ =>
      obtain rfl : x = key := by simpa using h1
      rw [h3] at hx
      cases hx
    | 1, h1, _, h4 =>
      obtain rfl : y = key := by simpa using h1
      exact ⟨h4, h5⟩
    | i + 2, _, h2, _ =>
      have := h2 y (by simp)
      rw [hM] at this
      cases this
end

end Go.Proofs.YtfjdhdeiaakbaaaGreatDoor
/-
  Tick: the entries whose quarantine ends are struck.
-/
namespace Go.Proofs.YtfjdhdeiaakbaaaGreatDoor
open Go.RowKit Go.Maps

/-- What a tick leaves of an entry. -/
def endT (tick : Int) : Option En → Option En
  | some x => if !x.l && decide (x.u ≤ tick) then none else some x
  | none => none

theorem tick1_any (t tick : Int) (x : En) (bx : Nat) (W : World) (hx : W.cell? ⟨bx, 0, none⟩ = some (.int .i64 tick)) :
    Calls Tryz.prog 128 #[.int .u32 t, .agg #[.int .u32 t, .int .i64 x.o, .bool x.l, .int .i64 x.u], .pointer (some ⟨bx, 0, none⟩)] W fun e w' => e = .returned (.bool (!x.l && decide (x.u ≤ tick))) ∧ Below W.heap.size W w' := by
  obtain ⟨o, l, u⟩ := x
  have hlt := World.block_lt_of_cell? W _ hx
  have e2 : (W.alloc (.cells #[.int .u32 t, .int .i64 o, .bool l, .int .i64 u] 26)).cell? ⟨W.heap.size, 2, none⟩ = some (.bool l) := by rw [World.cell?_alloc_new]; rfl
  have e3 : (W.alloc (.cells #[.int .u32 t, .int .i64 o, .bool l, .int .i64 u] 26)).cell? ⟨W.heap.size, 3, none⟩ = some (.int .i64 u) := by rw [World.cell?_alloc_new]; rfl
  have e4 : (W.alloc (.cells #[.int .u32 t, .int .i64 o, .bool l, .int .i64 u] 26)).cell? ⟨bx, 0, none⟩ = some (.int .i64 tick) := (World.cell?_alloc_lt _ _ _ hlt).trans hx
  have HB : Keep (Below W.heap.size W (W.alloc (.cells #[.int .u32 t, .int .i64 o, .bool l, .int .i64 u] 26))) := ⟨(Below.refl _ W).alloc (Nat.le_refl _) _⟩
  clear hx hlt
  cases l with
  | true =>
    go_enter Tryz.func128, Tryz.ntmps128
    go_wp2_with fail
    go_ret
    exact ⟨rfl, HB.out⟩
  | false =>
    go_enter Tryz.func128, Tryz.ntmps128
    go_wp2_with fail
    go_ret
    exact ⟨by simp, HB.out⟩

/-- The map while a range over it strikes. -/
structure Sw (wr : World) (w : World) (m nb : Nat) (tick : Int) (M : Int → Option En) (k : Nat) (cnt : Nat) : Prop where
  ex : ∃ (D : DataW Unit) (Mc : Int → Option En) (left : Lit → Bool), wr.ranges Tryz.prog 24 enR m w.heap.size nb D left cnt ∧ (∀ h, Maps.has D (.int .u32 h) = (Mc h).isSome) ∧ (∀ h x, Mc h = some x → ∀ z, D.atKey (.int .u32 h) z = enD h x) ∧ Maps.size D ≤ k ∧ (∀ h, (M h).isSome = true → left (.int .u32 h) = false → endT tick (M h) = none → Maps.size D < k) ∧
    (∀ h, left (.int .u32 h) = true → Mc h = M h) ∧ (∀ h, left (.int .u32 h) = false → Mc h = endT tick (M h)) ∧ w.grownBy wr (some m)

set_option maxRecDepth 100000 in
set_option maxHeartbeats 3200000 in
theorem deleteT_any (m nb k : Nat) (M : Int → Option En) (tick : Int) (bx : Nat) (w : World) (hM : Mt w m nb M k) (hx : w.cell? ⟨bx, 0, none⟩ = some (.int .i64 tick)) (hne : bx ≠ m) :
    Calls Tryz.prog 127 #[.map (some m), .func (.func 128) #[] #[.pointer (some ⟨bx, 0, none⟩)]] w fun e w' =>
      e = .returned (.tuple #[]) ∧ (∃ k', k' ≤ k ∧ (∀ h, (M h).isSome = true → endT tick (M h) = none → k' < k) ∧ Mt w' m nb (fun t => endT tick (M t)) k') ∧ w.grownBy w' (some m) := by
  obtain ⟨D, hown, h1, h2, h3⟩ := hM
  have H1 := Lib.hid h1
  have H2 := Lib.hid h2
  have H3 := Keep.mk h3
  have hlt := World.block_lt_of_cell? w _ hx
  have HX := Keep.mk hx
  have HLT := Keep.mk hlt
  clear h1 h2 h3 hx hlt
  go_enter Tryz.func127, Tryz.ntmps127
  go_wp2_with (first
    | (at_range; refine wpList_range_own _ rfl _ 124 rfl 24 26 keyedU Tryz.underlying124 enR m nb _ rfl hown ?_; intro w0 hrg0 hg0 hs0)
    | go_in)
  try go_frame
  have HS0 : Keep (Sw w0 w m nb tick M k (Maps.size D)) := ⟨⟨D, M, _, hrg0, H1.out, H2.out, Nat.le_of_eq H3.out, (fun h hh hl => by rw [H1.out, hh] at hl; cases hl), fun _ _ => rfl, (fun h hl => by
    rw [H1.out] at hl
    cases hm : M h with
    | none => rfl
    | some x => rw [hm] at hl; cases hl), hg0.but _⟩⟩
  clear hrg0 hg0 hs0 hown
  go_loopw [8] (fun _ wr => ∃ cnt : Nat, Keep (Sw wr w m nb tick M k cnt)) (fun _ wr => wr.rangeLeft m w.heap.size)
  case atStart => exact ⟨_, HS0⟩
  case round =>
    obtain ⟨cnt, ⟨⟨D1, Mc, left, hrg, v1, v2, v3, v6, v4, v5, hgw⟩⟩⟩ := hrel
    have V6 := Lib.hid v6
    have V1 := Lib.hid v1
    have V2 := Lib.hid v2
    have V3 := Keep.mk v3
    have V4 := Lib.hid v4
    have V5 := Lib.hid v5
    have HGW := Keep.mk hgw
    clear v1 v2 v3 v4 v5 v6 hgw
    go_wp2_with (first
      | (at_next; refine wpList_next_ranges _ rfl _ rfl 24 keyedU enR id id (fun key _ _ => ⟨key, rfl⟩) (fun v _ _ => ⟨v, rfl⟩) m w.heap.size nb _ _ _ rfl hrg ?_ ?_)
      | go_in)
    · intro _ hl0
      go_wp2
      go_end0
      refine ⟨rfl, ⟨_, V3.out, fun h h1 h2 => V6.out h h1 (hl0 _) h2, D1, hrg.owns, fun h => ?_, fun h x hx => ?_, rfl⟩, HGW.out⟩
      · rw [V1.out, V5.out h (hl0 _)]
      · exact V2.out h x (by rw [V5.out h (hl0 _)]; exact hx)
    · intro key val kl yd yp w1 cnt1 hkey hlx hv hat hrg1 hlt hg1 hs1 hen
      obtain ⟨t, rfl, rfl, hwt⟩ := Maps.keyOf_int_inv Tryz.underlying24 hkey
      obtain ⟨t', x, rfl, hy⟩ := enR_inv hv
      obtain rfl : yd = enD t' x := congrArg Prod.fst hy
      have hMc : Mc t = some x ∧ t' = t := by
        have hh := has_true_of_atKey hat
        rw [V1.out] at hh
        obtain ⟨x1, e1⟩ := Option.isSome_iff_exists.1 hh
        have a := hat (enD 0 x)
        rw [V2.out t x1 e1] at a
        obtain ⟨rfl, rfl⟩ := enD_inj a
        exact ⟨e1, rfl⟩
      obtain ⟨hMc, rfl⟩ := hMc
      have hMt : M t' = some x := by rw [← V4.out _ hlx]; exact hMc
      obtain ⟨xo, xl, xu⟩ := x
      have hgw1 : w.grownBy w1 (some m) := HGW.out.andThen hg1 (fun j hj => by cases hj; exact Or.inl (Nat.le_refl _))
      have hbx1 : w1.cell? ⟨bx, 0, none⟩ = some (.int .i64 tick) := (World.cell?_of_block (hgw1.block bx HLT.out (by simp; exact hne))).trans HX.out
      have hbx2 : (w1.alloc (.cells #[.int .u32 t', .int .i64 xo, .bool xl, .int .i64 xu] 26)).cell? ⟨bx, 0, none⟩ = some (.int .i64 tick) := (World.cell?_alloc_lt _ _ _ (World.block_lt_of_cell? w1 _ hbx1)).trans hbx1
      have hc := tick1_any t' tick ⟨xo, xl, xu⟩ bx _ hbx2
      have hk1 : ∀ h, (left (.int .u32 h) && !(Lit.int .u32 h).sameKey (.int .u32 t')) = true → h ≠ t' ∧ left (.int .u32 h) = true := fun h hh => by
        simp [Lit.sameKey] at hh
        exact ⟨hh.2, hh.1⟩
      have hk2 : ∀ h, (left (.int .u32 h) && !(Lit.int .u32 h).sameKey (.int .u32 t')) = false → h = t' ∨ left (.int .u32 h) = false := fun h hh => by
        by_cases e : h = t'
        · exact .inl e
        · simp [Lit.sameKey, e] at hh
          exact .inr hh
      have K1 := Lib.hid hk1
      have K2 := Lib.hid hk2
      have HRO := Keep.mk hrg
      have HLE := Keep.mk hlt
      have HMT := Keep.mk hMt
      have HMC := Keep.mk hMc
      have HKEY := Keep.mk hkey
      have HG1 := Keep.mk hgw1
      have HR2 := Keep.mk (hrg1.alloc (.cells #[.int .u32 t', .int .i64 xo, .bool xl, .int .i64 xu] 26))
      have hen2 : (Instr.entry (.pointer (some ⟨w.heap.size, 0, none⟩))).run Tryz.prog w1 = .ok (.tuple #[.int .u32 t', .agg #[.int .u32 t', .int .i64 xo, .bool xl, .int .i64 xu]]) w1 := hen
      try rw [show enV t' ⟨xo, xl, xu⟩ = .agg #[.int .u32 t', .int .i64 xo, .bool xl, .int .i64 xu] from rfl]
      clear hen hk1 hk2 hrg hlt hMt hMc hkey hrg1 hgw1 hbx1 hbx2 hat hlx hg1 hs1 hwt hv hy
      cases hp : (!xl && decide (xu ≤ tick)) with
      | false =>
        rw [hp] at hc
        have HC := Keep.mk hc
        have HP := Keep.mk hp
        clear hc hp
        go_wp2_with (first
          | (go_at_call 128
             go_loud (refine HC.out.mono ?_; rintro e w3 ⟨rfl, hb3⟩)
             have HR3 := Keep.mk (HR2.out.kept (grown_of_below hb3 none) (by simp) (by simp))
             have HG3 : Keep (w.grownBy w3 (some m)) := ⟨(HG1.out.andThen (World.grownBy_alloc w1 _ none) (fun j hj => by cases hj)).andThen (grown_of_below hb3 none) (fun j hj => by cases hj)⟩
             clear hb3)
          | go_in)
        go_roundw
        case rel => exact ⟨cnt1, ⟨⟨D1, Mc, _, HR3.out, V1.out, V2.out, V3.out, (fun h h1 hh h2 => by
          rcases K2.out h hh with rfl | hh2
          · rw [HMT.out] at h2; simp only [endT] at h2; rw [HP.out] at h2; cases h2
          · exact V6.out h h1 hh2 h2), fun h hh => V4.out h (K1.out h hh).2, fun h hh => by
          rcases K2.out h hh with rfl | hh2
          · rw [HMC.out, HMT.out]; simp only [endT]; rw [HP.out]; rfl
          · exact V5.out h hh2, HG3.out⟩⟩⟩
        case measure => rw [HR3.out.left_eq, HRO.out.left_eq]; exact HLE.out
      | true =>
        rw [hp] at hc
        have HC := Keep.mk hc
        have HP := Keep.mk hp
        clear hc hp
        go_wp2_with (first
          | (go_at_call 128
             go_loud (refine HC.out.mono ?_; rintro e w3 ⟨rfl, hb3⟩)
             have HR3 := Keep.mk (HR2.out.kept (grown_of_below hb3 none) (by simp) (by simp))
             have HG3 : Keep (w.grownBy w3 (some m)) := ⟨(HG1.out.andThen (World.grownBy_alloc w1 _ none) (fun j hj => by cases hj)).andThen (grown_of_below hb3 none) (fun j hj => by cases hj)⟩
             clear hb3)
          | (at_delete; refine wpList_delete_ranges _ rfl _ _ 124 24 rfl 26 keyedU Tryz.underlying124 enR m w.heap.size nb _ _ _ rfl HR3.out _ _ rfl HKEY.out ?_; intro w4 cnt4 hrg4 hle hturn; try go_frame)
          | go_in)
        rw [Maps.strike_twice] at hrg4
        have hsz := size_del (k := Lit.int .u32 t') (HR3.out.owns.tidy keyedU)
        go_roundw
        case rel => exact ⟨cnt4, ⟨⟨D1.del (.int .u32 t'), setT Mc t' none, _, hrg4, fun h => by
          by_cases e : h = t'
          · subst e; rw [setT_same, has_del_same]; rfl
          · rw [setT_other _ _ e, has_del_other (key_une e)]; exact V1.out h, fun h x hx z => by
          by_cases e : h = t'
          · subst e; rw [setT_same] at hx; cases hx
          · rw [setT_other _ _ e] at hx; rw [atKey_del_other (key_une e)]; exact V2.out h x hx z, by have := V3.out; omega, (fun _ _ _ _ => by have := V3.out; rw [if_pos (by rw [V1.out, HMC.out]; rfl)] at hsz; omega), fun h hh => by
          obtain ⟨e, hh2⟩ := K1.out h hh
          rw [setT_other _ _ e]; exact V4.out h hh2, fun h hh => by
          by_cases e : h = t'
          · subst e; rw [setT_same, HMT.out]; simp only [endT]; rw [HP.out]; rfl
          · rw [setT_other _ _ e]; exact V5.out h ((K2.out h hh).resolve_left e), HG3.out.andThen hturn.grown (fun j hj => by cases hj; exact Or.inr rfl)⟩⟩⟩
        case measure => rw [hrg4.left_eq, HRO.out.left_eq]; exact Nat.lt_of_le_of_lt hle HLE.out
end Go.Proofs.YtfjdhdeiaakbaaaGreatDoor
/-
  The contract of Tick; the walk of the law TokenWaits.
-/
namespace Go.Proofs.YtfjdhdeiaakbaaaGreatDoor
open Go.RowKit Go.Maps

section
variable {w w' : World} {base b m nb k : Nat} {most : Int} {M : Int → Option En}
theorem Tb.grown {M' : Int → Option En} {nb' k' : Nat} (h : Tb w base b m nb most M k) (hg : w.grownBy w' (some m)) (hm : Mt w' m nb' M' k') : Tb w' base b m nb' most M' k' :=
  ⟨h.lowb, h.lowm, h.ne, (hg.block b h.lt (fun e => h.ne (by cases e; rfl))).trans h.blk, hm⟩
theorem Ft.grown (hg : w.grownBy w' (some m)) : Ft w w' m := ⟨hg.os, hg.tape, hg.output, hg.size, fun k hk hm => hg.block k hk (fun e => hm (by cases e; rfl))⟩
end

theorem endT_stay {tick : Int} {x : En} (h : x.l = true ∨ tick < x.u) : endT tick (some x) = some x := by
  have : (!x.l && decide (x.u ≤ tick)) = false := by
    rcases h with h | h
    · rw [h]; rfl
    · rw [decide_eq_false (by omega)]; simp
  simp only [endT]
  rw [this]
  rfl
theorem endT_gone {tick : Int} {x : En} (h1 : x.l = false) (h2 : x.u ≤ tick) : endT tick (some x) = none := by
  have : (!x.l && decide (x.u ≤ tick)) = true := by rw [h1, decide_eq_true h2]; rfl
  simp only [endT]
  rw [this]
  rfl
set_option maxRecDepth 100000 in
set_option maxHeartbeats 3200000 in
theorem tick_any (base b m nb : Nat) (most : Int) (M : Int → Option En) (k : Nat) (tick : Int) (w : World) (hT : Tb w base b m nb most M k) :
    Calls Tryz.prog 80 #[.pointer (some ⟨b, 0, none⟩), .int .i64 tick] w fun e w' => ∃ (r : Int) (k' : Nat), e = .returned (.int .i64 r) ∧ k' ≤ k ∧ (∀ h, (M h).isSome = true → endT tick (M h) = none → k' < k) ∧ Tb w' base b m nb most (fun t => endT tick (M t)) k' ∧ Ft w w' m := by
  have hB : Below w.heap.size w (w.alloc (.cells #[.int .i64 tick] 3)) := (Below.refl _ w).alloc (Nat.le_refl _) _
  have hT1 := hT.below hB
  have cm := hT1.mapC
  have hl : ∀ ty, (Builtin.len_ #[124] ty #[.map (some m)]).run Tryz.prog (w.alloc (.cells #[.int .i64 tick] 3)) = .ok (.int .i64 k) (w.alloc (.cells #[.int .i64 tick] 3)) := fun ty => hT1.mp.len ty
  have HD := Keep.mk (deleteT_any m nb k M tick w.heap.size _ hT1.mp (by rw [World.cell?_alloc_new]; rfl) (by have := hT.mp.lt; omega))
  have HB := Keep.mk hB
  have HT1 := Keep.mk hT1
  clear hT hT1 hB
  go_enter Tryz.func80, Tryz.ntmps80
  go_wp2_with (first
    | (go_at_call 127
       go_loud (refine HD.out.mono ?_; rintro e w2 ⟨rfl, ⟨k', hk', hs', hm2⟩, hg2⟩)
       have T2 := HT1.out.grown hg2 hm2
       have cm2 := T2.mapC
       have hl2 : ∀ ty, (Builtin.len_ #[124] ty #[.map (some m)]).run Tryz.prog w2 = .ok (.int .i64 k') w2 := fun ty => hm2.len ty
       have T2 := Keep.mk T2
       have F2 := Keep.mk ((Ft.quiet HB.out m).trans (Ft.grown hg2))
       have HK2 := Keep.mk hk'
       have HS2 := Keep.mk hs'
       clear hk' hs' hm2 hg2)
    | fail)
  go_ret
  exact ⟨_, k', rfl, HK2.out, HS2.out, T2.out, F2.out⟩
end Go.Proofs.YtfjdhdeiaakbaaaGreatDoor
