/-
  Walks and laws, one behind the other (part 28).
-/
import Derived.BigQuiet
import Derived.Deep.RegionHeld3
import Derived.Lib.MinMax
import Derived.Test.YtjpokeakemlffaaGreatDoorS21
import Derived.Test.YtjpokeakemlffaaGreatDoorS27
set_option linter.unusedSimpArgs false
set_option linter.unusedVariables false
/-
  The table in memory; New, Take.
-/
namespace Go.Proofs.YtjpokeakemlffaaGreatDoor
open Go.RowKit Go.Maps
structure Tb (w : World) (base b m nb : Nat) (most : Int) (M : Int → Option En) (k : Nat) : Prop where
  lowb : base ≤ b
  lowm : base ≤ m
  ne : b ≠ m
  blk : w.heap[b]? = some (.cells #[.int .i64 most, .map (some m)] 128 (0, 0))
  mp : Mt w m nb M k
structure Ft (w w' : World) (m : Nat) : Prop where
  os : w'.os = w.os
  tape : w'.tape = w.tape
  output : w'.output = w.output
  size : w.heap.size ≤ w'.heap.size
  block : ∀ k, k < w.heap.size → k ≠ m → w'.heap[k]? = w.heap[k]?
section
variable {w w' w'' : World} {base b m nb k : Nat} {most : Int} {M : Int → Option En}
theorem Tb.lt (h : Tb w base b m nb most M k) : b < w.heap.size := lt_of_block h.blk
theorem Tb.mostC (h : Tb w base b m nb most M k) : w.cell? ⟨b, 0, none⟩ = some (.int .i64 most) := by rw [cell_of_row w b 0 _ _ (0, 0) h.blk]; rfl
theorem Tb.mapC (h : Tb w base b m nb most M k) : w.cell? ⟨b, 1, none⟩ = some (.map (some m)) := by rw [cell_of_row w b 1 _ _ (0, 0) h.blk]; rfl
theorem Tb.below (h : Tb w base b m nb most M k) (hB : Below w.heap.size w w') : Tb w' base b m nb most M k :=
  ⟨h.lowb, h.lowm, h.ne, (hB.block b h.lt).trans h.blk, h.mp.same (hB.block m h.mp.lt)⟩
theorem Tb.turned {M' : Int → Option En} {nb' k' : Nat} (h : Tb w base b m nb most M k) (ht : w.mapTurned w' m) (hm : Mt w' m nb' M' k') : Tb w' base b m nb' most M' k' :=
  ⟨h.lowb, h.lowm, h.ne, (ht.grown.block b h.lt (fun e => h.ne (by cases e; rfl))).trans h.blk, hm⟩
theorem Ft.quiet (hB : Below w.heap.size w w') (m : Nat) : Ft w w' m := ⟨hB.os, hB.tape, hB.output, hB.size, fun k hk _ => hB.block k hk⟩
theorem Ft.turned (ht : w.mapTurned w' m) : Ft w w' m := ⟨ht.grown.os, ht.grown.tape, ht.grown.output, ht.grown.size, fun k hk hm => ht.grown.block k hk (fun e => hm (by cases e; rfl))⟩
theorem Ft.trans (h : Ft w w' m) (h' : Ft w' w'' m) : Ft w w'' m :=
  ⟨h'.os.trans h.os, h'.tape.trans h.tape, h'.output.trans h.output, Nat.le_trans h.size h'.size, fun k hk hm => (h'.block k (Nat.lt_of_lt_of_le hk h.size) hm).trans (h.block k hk hm)⟩
theorem Ft.below (h : Ft w w' m) {B : Nat} (hm : B ≤ m) (hs : B ≤ w.heap.size) : Below B w w' := ⟨h.os, h.tape, h.output, h.size, fun k hk => h.block k (by omega) (by omega)⟩
end
theorem tb_new (most : Int) (w : World) : Tb ((w.alloc (.map #[] 0)).alloc (.cells #[.int .i64 most, .map (some w.heap.size)] 128)) w.heap.size (w.heap.size + 1) w.heap.size 0 most (fun _ => none) 0 where
  lowb := by omega
  lowm := Nat.le_refl _
  ne := by omega
  blk := by rw [show w.heap.size + 1 = (w.alloc (.map #[] 0)).heap.size by simp]; exact heap_alloc_new _ _
  mp := (Mt.made w).same (Below.heap_alloc _ _ _ (by simp))
set_option maxHeartbeats 1600000 in
theorem tnew_any (cap : Int) (w : World) :
    Calls Tryz.prog 49 #[.int .i64 cap] w fun e w' => e = .returned (.pointer (some ⟨w.heap.size + 1, 0, none⟩)) ∧
      Tb w' w.heap.size (w.heap.size + 1) w.heap.size 0 (min (max cap 1) 64) (fun _ => none) 0 ∧ Below w.heap.size w w' := by
  have hmk : (Instr.makeMap 126 none).run Tryz.prog w = .ok (.map (some w.heap.size)) (w.alloc (.map #[] 0)) := rfl
  have HE := Keep.mk (tb_new (min (max cap 1) 64) w)
  have HB : Keep (Below w.heap.size w ((w.alloc (.map #[] 0)).alloc (.cells #[.int .i64 (min (max cap 1) 64), .map (some w.heap.size)] 128))) := ⟨((Below.refl _ w).alloc (Nat.le_refl _) _).alloc (by simp) _⟩
  go_enter Tryz.func49, Tryz.ntmps49
  go_wp2_with fail
  go_ret
  exact ⟨rfl, HE.out, HB.out⟩
def Took (w : World) (base b m nb : Nat) (most : Int) (M : Int → Option En) (k : Nat) (o : Int) (ks : List Int) (e : Ending) (w' : World) : Prop :=
  ((k : Int) = most ∧ e = .returned (.tuple #[.int .u64 0, .int .i64 0, .int .i64 15]) ∧ Tb w' base b m nb most M k ∧ Ft w w' m) ∨
  ((k : Int) ≠ most ∧ (∀ x ∈ ks, (M (tokN x)).isSome = true) ∧ e = .returned (.tuple #[.int .u64 0, .int .i64 ks.length, .int .i64 6]) ∧ Tb w' base b m nb most M k ∧ Ft w w' m) ∨
  ((k : Int) ≠ most ∧ ∃ (i : Nat) (key : Int), ks[i]? = some key ∧ (∀ x ∈ ks.take i, (M (tokN x)).isSome = true) ∧ M (tokN key) = none ∧ e = .returned (.tuple #[.int .u64 key, .int .i64 i, .int .i64 0]) ∧
    Tb w' base b m (nb + 1) most (setT M (tokN key) (some ⟨o, true, 0⟩)) (k + 1) ∧ Ft w w' m)
set_option maxRecDepth 100000 in
set_option maxHeartbeats 3200000 in
theorem tk_take (base b m nb : Nat) (most : Int) (M : Int → Option En) (k : Nat) (o : Int) (A : Option Addr) (n c : Nat) (ks : List Int) (w : World) (hT : Tb w base b m nb most M k) (ha : Arg w 1 encU A n c ks) (hks : ∀ z ∈ ks, 0 ≤ z ∧ z < 18446744073709551616) (hn : n ≤ 1000000) (hnb : nb < 1000000) :
    Calls Tryz.prog 146 #[.pointer (some ⟨b, 0, none⟩), .int .i64 o, .slice A n c] w fun e w' => Took w base b m nb most M k o ks e w' := by
  have cm := hT.mostC
  have cmap := hT.mapC
  have HLEN : Keep (∀ ty, (Builtin.len_ #[126] ty #[.map (some m)]).run Tryz.prog w.drew = .ok (.int .i64 k) w.drew) := ⟨fun ty => (hT.mp.same (w' := w.drew) rfl).len ty⟩
  have HT := Keep.mk hT
  have HA := Lib.hid ha
  have HKS := Keep.mk hks
  have hln := ha.hlen
  have hca := ha.hcap
  subst hln
  have HNB : Keep (nb < maxLen) := ⟨by unfold maxLen; omega⟩
  have HBD : Keep (Below w.heap.size w w.drew) := ⟨(Below.refl _ w).drew⟩
  clear hT ha hks
  by_cases hk : (k : Int) = most
  · have hkb : ((k : Int) == most) = true := by simp [hk]
    have hl := HLEN.out
    have HK := Keep.mk hk
    clear hk
    go_enter Tryz.func146, Tryz.ntmps146
    go_wp2_with fail
    go_region_held3 (fun X => X.cell? ⟨b, 0, none⟩ = some (.int .i64 most) ∧ X.cell? ⟨b, 1, none⟩ = some (.map (some m)) ∧ (Builtin.len_ #[126] 3 #[.map (some m)]).run Tryz.prog X = .ok (.int .i64 k) X) (exact ⟨cm, cmap, hl _⟩) (fail)
    go_wp2_with fail
    go_ret3
    exact .inl ⟨HK.out, rfl, HT.out.below HBD.out, Ft.quiet HBD.out m⟩
  · have hkb : ((k : Int) == most) = false := by simp [hk]
    have hl := HLEN.out
    have HK := Keep.mk hk
    clear hk
    go_enter Tryz.func146, Tryz.ntmps146
    go_wp2_with fail
    go_region_held3 (fun X => X.cell? ⟨b, 0, none⟩ = some (.int .i64 most) ∧ X.cell? ⟨b, 1, none⟩ = some (.map (some m)) ∧ (Builtin.len_ #[126] 3 #[.map (some m)]).run Tryz.prog X = .ok (.int .i64 k) X) (exact ⟨cm, cmap, hl _⟩) (fail)
    go_wp2_with fail
    clear cm cmap hl HLEN
    go_loopw [30] (fun i wr => ∃ j : Nat, j ≤ ks.length ∧ i = .int .i64 j ∧ Keep (Below w.heap.size w wr) ∧ Keep (∀ x ∈ ks.take j, (M (tokN x)).isSome = true)) (fun i _ => ks.length - (intOf i).toNat)
    case atStart => exact ⟨0, by omega, rfl, HBD, ⟨by simp⟩⟩
    case round =>
      obtain ⟨j, hj, rfl, HB, HS⟩ := hrel
      by_cases hlt : j < ks.length
      · obtain ⟨ga, off, hA, hgl, hcs⟩ := HA.out.rd (List.ne_nil_of_length_pos (by omega))
        obtain ⟨x, hx⟩ : ∃ x, ks[j] = x := ⟨_, rfl⟩
        have hlx : ks[j]? = some x := by rw [List.getElem?_eq_getElem hlt, hx]
        have hbx := HKS.out x (List.mem_of_getElem? hlx)
        have c0 : wr.cell? ⟨ga, off + j, none⟩ = some (.int .u64 x) := by
          have := (HB.out.cell (p := ⟨ga, off + j * 1 + 0, none⟩) hgl).trans (hcs j x hlx 0 _ rfl)
          rwa [Nat.mul_one, Nat.add_zero] at this
        obtain ⟨t, ht⟩ : ∃ t, tokN x = t := ⟨_, rfl⟩
        have TK : Keep (∀ W, Calls Tryz.prog 213 #[.int .u64 x] W fun e w' => e = .returned (.int .u32 t) ∧ Below W.heap.size W w') := ⟨fun W => ht ▸ token_any x W hbx.1 hbx.2⟩
        have WT : Keep (wfU t) := ⟨by have := tok_bd x; rw [ht] at this; exact wfU_of this.1 (by omega)⟩
        subst hA
        have hji : ((j : Nat) : Int) < (ks.length : Int) := by omega
        have HLX := Keep.mk hlx
        have HTX := Keep.mk ht
        cases hM : M t with
        | none =>
          have HM := Keep.mk hM
          clear hcs hgl hx hlx hbx ht hM
          go_wp2_with (first
            | (go_at_call 213
               go_loud (refine (TK.out _).mono ?_; rintro e w1 ⟨rfl, hb1⟩)
               have B1 : Below w.heap.size w w1 := HB.out.trans (hb1.mono HB.out.size)
               have T1 := HT.out.below B1
               have hlk0 := T1.mp.look WT.out
               rw [HM.out] at hlk0
               have hlk : (Instr.lookup 126 (.map (some m)) (.int .u32 t) true).run Tryz.prog w1 = .ok (.tuple #[.agg #[.int .u32 0, .int .i64 0, .bool false, .int .i64 0], .bool false]) w1 := hlk0
               clear hlk0
               have cm1 := T1.mapC
               have B2 : Below w.heap.size w (w1.alloc (.cells #[.int .u32 0, .int .i64 0, .bool false, .int .i64 0] 50)) := B1.alloc B1.size _
               have T2 := HT.out.below B2
               have cm2 := T2.mapC
               obtain ⟨w3, hput0, hm3, ht3⟩ := T2.mp.put HNB.out ⟨o, true, 0⟩ WT.out
               have hput : (Instr.mapUpdate 126 (.map (some m)) (.int .u32 t) (.agg #[.int .u32 t, .int .i64 o, .bool true, .int .i64 0])).run Tryz.prog (w1.alloc (.cells #[.int .u32 0, .int .i64 0, .bool false, .int .i64 0] 50)) = .ok () w3 := hput0
               clear hput0
               rw [HM.out] at hm3
               have T3 := Keep.mk (T2.turned ht3 hm3)
               have F3 := Keep.mk ((Ft.quiet B2 m).trans (Ft.turned ht3))
               clear hb1 B1 T1 T2 B2 hm3 ht3)
            | fail)
          go_ret3
          refine .inr (.inr ⟨HK.out, j, x, HLX.out, HS.out, by rw [HTX.out]; exact HM.out, rfl, ?_, F3.out⟩)
          rw [HTX.out]
          exact T3.out
        | some en =>
          have HM := Keep.mk hM
          obtain ⟨eo, el, eu⟩ := en
          have HS2 : Keep (∀ y ∈ ks.take (j + 1), (M (tokN y)).isSome = true) := ⟨fun y hy => by
            rw [List.take_add_one, hlx] at hy
            rcases List.mem_append.1 hy with h | h
            · exact HS.out y h
            · obtain rfl : y = x := by simpa using h
              rw [ht, hM]; rfl⟩
          clear hcs hgl hx hlx hbx ht hM
          go_wp2_with (first
            | (go_at_call 213
               go_loud (refine (TK.out _).mono ?_; rintro e w1 ⟨rfl, hb1⟩)
               have B1 : Below w.heap.size w w1 := HB.out.trans (hb1.mono HB.out.size)
               have T1 := HT.out.below B1
               have hlk0 := T1.mp.look WT.out
               rw [HM.out] at hlk0
               have hlk : (Instr.lookup 126 (.map (some m)) (.int .u32 t) true).run Tryz.prog w1 = .ok (.tuple #[.agg #[.int .u32 t, .int .i64 eo, .bool el, .int .i64 eu], .bool true]) w1 := hlk0
               clear hlk0
               have cm1 := T1.mapC
               have B2 : Keep (∀ o, Below w.heap.size w (w1.alloc o)) := ⟨fun o => B1.alloc B1.size o⟩
               clear hb1 B1 T1)
            | fail)
          go_roundw
          case rel => exact ⟨j + 1, by omega, by go_num, ⟨B2.out _⟩, HS2⟩
          case measure => simp [intOf] <;> omega
      · have hje : j = ks.length := by omega
        subst hje
        rw [List.take_length] at HS
        clear hj
        go_wp2_with fail
        go_ret3
        exact .inr (.inl ⟨HK.out, HS.out, rfl, HT.out.below HB.out, Ft.quiet HB.out m⟩)
end Go.Proofs.YtjpokeakemlffaaGreatDoor
/-
  Find, Free; a table that is not there; wakes.
-/
namespace Go.Proofs.YtjpokeakemlffaaGreatDoor
open Go.RowKit Go.Maps
end Go.Proofs.YtjpokeakemlffaaGreatDoor
/-
  wakes; the walk of the law TokenNil.
-/
namespace Go.Proofs.YtjpokeakemlffaaGreatDoor
open Go.RowKit Go.Maps
section
variable {w w' : World} {base b m nb k : Nat} {most o : Int} {M : Int → Option En} {ks r : List Int} {e : Ending}
theorem Took.first {x : Int} (h : Took w base b m nb most M k o (x :: r) e w') (hk : (k : Int) ≠ most) (hM : M (tokN x) = none) :
    e = .returned (.tuple #[.int .u64 x, .int .i64 0, .int .i64 0]) ∧ Tb w' base b m (nb + 1) most (setT M (tokN x) (some ⟨o, true, 0⟩)) (k + 1) ∧ Ft w w' m := by
  rcases h with ⟨h, _⟩ | ⟨_, h, _⟩ | ⟨_, i, key, h1, h2, h3, h4, h5⟩
  · exact absurd h hk
  · have := h x (by simp)
    rw [hM] at this
    cases this
  · cases i with
    | zero =>
      obtain rfl : x = key := by simpa using h1
      exact ⟨h4, h5⟩
    | succ i =>
      have := h2 x (by simp)
      rw [hM] at this
      cases this
theorem Took.second {x y : Int} (h : Took w base b m nb most M k o (x :: y :: r) e w') (hk : (k : Int) ≠ most) (hx : (M (tokN x)).isSome = true) (hM : M (tokN y) = none) :
    e = .returned (.tuple #[.int .u64 y, .int .i64 1, .int .i64 0]) ∧ Tb w' base b m (nb + 1) most (setT M (tokN y) (some ⟨o, true, 0⟩)) (k + 1) ∧ Ft w w' m := by
  rcases h with ⟨h, _⟩ | ⟨_, h, _⟩ | ⟨_, i, key, h1, h2, h3, h4, h5⟩
  · exact absurd h hk
  · have := h y (by simp)
    rw [hM] at this
    cases this
  · match i, h1, h2, h4 with
    | 0, h1, _, _ =>
      obtain rfl : x = key := by simpa using h1
      rw [h3] at hx
      cases hx
    | 1, h1, _, h4 =>
      obtain rfl : y = key := by simpa using h1
      exact ⟨h4, h5⟩
    | i + 2, _, h2, _ =>
      have := h2 y (by simp)
      rw [hM] at this
      cases this
end
end Go.Proofs.YtjpokeakemlffaaGreatDoor
/-
  Tick: the entries whose quarantine ends are struck.
-/
namespace Go.Proofs.YtjpokeakemlffaaGreatDoor
open Go.RowKit Go.Maps
def endT (tick : Int) : Option En → Option En
  | some x => if !x.l && decide (x.u ≤ tick) then none else some x
  | none => none
structure Sw (wr : World) (w : World) (m nb : Nat) (tick : Int) (M : Int → Option En) (k : Nat) (cnt : Nat) : Prop where
  ex : ∃ (D : DataW Unit) (Mc : Int → Option En) (left : Lit → Bool), wr.ranges Tryz.prog 48 enR m w.heap.size nb D left cnt ∧ (∀ h, Maps.has D (.int .u32 h) = (Mc h).isSome) ∧ (∀ h x, Mc h = some x → ∀ z, D.atKey (.int .u32 h) z = enD h x) ∧ Maps.size D ≤ k ∧ (∀ h, (M h).isSome = true → left (.int .u32 h) = false → endT tick (M h) = none → Maps.size D < k) ∧
    (∀ h, left (.int .u32 h) = true → Mc h = M h) ∧ (∀ h, left (.int .u32 h) = false → Mc h = endT tick (M h)) ∧ w.grownBy wr (some m)
end Go.Proofs.YtjpokeakemlffaaGreatDoor
/-
  The contract of Tick; the walk of the law TokenWaits.
-/
namespace Go.Proofs.YtjpokeakemlffaaGreatDoor
open Go.RowKit Go.Maps
section
variable {w w' : World} {base b m nb k : Nat} {most : Int} {M : Int → Option En}
theorem Tb.grown {M' : Int → Option En} {nb' k' : Nat} (h : Tb w base b m nb most M k) (hg : w.grownBy w' (some m)) (hm : Mt w' m nb' M' k') : Tb w' base b m nb' most M' k' :=
  ⟨h.lowb, h.lowm, h.ne, (hg.block b h.lt (fun e => h.ne (by cases e; rfl))).trans h.blk, hm⟩
theorem Ft.grown (hg : w.grownBy w' (some m)) : Ft w w' m := ⟨hg.os, hg.tape, hg.output, hg.size, fun k hk hm => hg.block k hk (fun e => hm (by cases e; rfl))⟩
end
end Go.Proofs.YtjpokeakemlffaaGreatDoor
