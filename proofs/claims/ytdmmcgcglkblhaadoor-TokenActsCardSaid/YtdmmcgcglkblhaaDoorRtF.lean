/-
  The reference's Take where the table is not full.
-/
import Derived.Test.YtdmmcgcglkblhaaDoorTkY
import Derived.Test.YtdmmcgcglkblhaaDoorRefT
namespace Go.Proofs.YtdmmcgcglkblhaaDoor
open Go.RowKit Go.Maps

/-- What the reference's Take answers: no key that can be; the first one that can. -/
def TookR (w : World) (base rb : Nat) (v : Value) (most o : Int) (L : List Te) (ks : List Int) (e : Ending) (w' : World) : Prop :=
  ((∀ x ∈ ks, ∃ y ∈ L, y.1 = tokN x) ∧ e = .returned (.agg #[.int .u64 0, .int .i64 ks.length, .int .i64 6]) ∧ Below w.heap.size w w') ∨
  ∃ (i : Nat) (key : Int), ks[i]? = some key ∧ (∀ x ∈ ks.take i, ∃ y ∈ L, y.1 = tokN x) ∧ (∀ y ∈ L, y.1 ≠ tokN key) ∧ e = .returned (.agg #[.int .u64 key, .int .i64 i, .int .i64 0]) ∧
    ∃ v', Rt w' base rb v' most (L ++ [(tokN key, ⟨o, true, 0⟩)]) ∧ Fa10 w w' rb v v'

/-- The list, one entry longer, is stored; then the result. -/
theorem Rt.put {w W w4 : World} {base rb rs : Nat} {v v4 : Value} {most : Int} {L : List Te} {d : Te} {cs0 : Array Value} {ty : TypeId} (h : Rt w base rb v most L) (hW : Below w.heap.size w W) (hbase : base ≤ w.heap.size)
    (hown : w4.ownsRow base 58 4 v4 (L.length + 1) ((L ++ [d]).flatMap teC)) (hg : W.grownBy w4 v.ownBlock) (hat : v4.ownBlock = v.ownBlock ∨ v4.ownBlock = some W.heap.size)
    (hr : W.heap[rs]? = some (.cells cs0 ty (0, 0))) (hrs : w.heap.size ≤ rs) :
    w4.cell? ⟨rb, 1, none⟩ = some v ∧ w4.frozen? ⟨rb, 1, none⟩ = false ∧ (w4.setCell ⟨rb, 1, none⟩ v4).heap[rs]? = some (.cells cs0 ty (0, 0)) ∧
      (∀ k, k < base → (w4.setCell ⟨rb, 1, none⟩ v4).heap[k]? = w.heap[k]?) ∧
      ∀ cs, Rt ((w4.setCell ⟨rb, 1, none⟩ v4).setRow rs cs) base rb v4 most (L ++ [d]) ∧ Fa10 w ((w4.setCell ⟨rb, 1, none⟩ v4).setRow rs cs) rb v v4 := by
  have hlt := h.lt
  have hrl := lt_of_block hr
  have hvl : ∀ k, v.ownBlock = some k → base ≤ k ∧ k < w.heap.size := fun k e => h.own.lt k e
  have b4 : w4.heap[rb]? = some (.cells #[.int .i64 most, v] 56 (0, 0)) := (hg.block rb (Nat.lt_of_lt_of_le hlt hW.size) (fun e => h.ne e.symm)).trans ((hW.block rb hlt).trans h.blk)
  have hne : v4.ownBlock ≠ some rb := fun e => by
    rcases hat with e1 | e1
    · exact h.ne (e1.symm.trans e)
    · rw [e1] at e
      have := hW.size
      injection e with e
      omega
  have hns : v4.ownBlock ≠ some rs := fun e => by
    rcases hat with e1 | e1
    · have := hvl rs (e1.symm.trans e); omega
    · rw [e1] at e
      injection e with e
      omega
  have set_other : ∀ k, k ≠ rb → (w4.setCell ⟨rb, 1, none⟩ v4).heap[k]? = w4.heap[k]? := fun k hk => heap_setCell_other w4 ⟨rb, 1, none⟩ k v4 (fun e => hk e)
  have hsr : rb ≠ rs := by omega
  have old : ∀ k, k < w.heap.size → v.ownBlock ≠ some k → w4.heap[k]? = w.heap[k]? := fun k hk e => (hg.block k (Nat.lt_of_lt_of_le hk hW.size) (fun e2 => e e2.symm)).trans (hW.block k hk)
  refine ⟨by rw [cell_of_row w4 rb 1 _ _ (0, 0) b4]; rfl, by simp [World.frozen?, b4], ?_, fun k hk => ?_, fun cs => ⟨⟨h.low, ?_, ?_, hne⟩, ⟨?_, ?_, ?_, ?_, fun k hk h1 h2 => ?_, fun k e => ?_⟩⟩⟩
  · rw [set_other rs (Ne.symm hsr)]
    exact (hg.block rs hrl (fun e => by have := hvl rs e.symm; omega)).trans hr
  · rw [set_other k (by have := h.low; omega)]
    exact old k (by omega) (fun e => by have := hvl k e; omega)
  · rw [setRow_other _ _ _ _ hsr, cellsT_set b4 1 v4]; rfl
  · rw [List.length_append, List.length_singleton]
    exact own_blockT hown fun k e => by
      have k1 : k ≠ rs := fun e2 => by subst e2; exact hns e
      have k2 : k ≠ rb := fun e2 => by subst e2; exact hne e
      rw [setRow_other _ _ _ _ k1, set_other k k2]
  · exact hg.os.trans hW.os
  · exact hg.tape.trans hW.tape
  · exact hg.output.trans hW.output
  · have := hW.size; have := hg.size; simp; omega
  · rw [setRow_other _ _ _ _ (by omega), set_other k h1]
    exact old k hk h2
  · rcases hat with e1 | e1
    · exact .inl (e1.symm.trans e)
    · rw [e1] at e
      have := hW.size
      injection e with e
      exact .inr (by omega)

set_option maxRecDepth 100000 in
set_option maxHeartbeats 3200000 in
theorem rttake_any (base rb : Nat) (v : Value) (most o : Int) (L : List Te) (A : Option Addr) (n c : Nat) (ks : List Int) (w : World) (hR : Rt w base rb v most L) (hbase : base ≤ w.heap.size) (hL : L.length ≤ 100000) (hm : (L.length : Int) ≠ most) (ha : Arg w 1 encU A n c ks) (hks : ∀ z ∈ ks, 0 ≤ z ∧ z < 18446744073709551616) (hn : n ≤ 1000000) (hga : ks ≠ [] → ∀ ad, A = some ad → ad.block < base) :
    Calls Tryd.prog 17 #[.pointer (some ⟨rb, 0, none⟩), .int .i64 o, .slice A n c] w fun e w' => TookR w base rb v most o L ks e w' := by
  have hB : Below w.heap.size w (w.alloc (.cells #[.int .u64 0, .int .i64 0, .int .i64 0] 51)) := (Below.refl _ w).alloc (Nat.le_refl _) _
  have hRW := hR.below hB
  have HA := Keep.mk ha
  have HKS := Keep.mk hks
  have hln := ha.hlen
  have hca := ha.hcap
  subst hln
  have HB := Keep.mk hB
  obtain ⟨LA, cl0, rfl, -⟩ := own_slice hRW.own
  have cl : (w.alloc (.cells #[.int .u64 0, .int .i64 0, .int .i64 0] 51)).drew.cell? ⟨rb, 1, none⟩ = some (.slice LA L.length cl0) := hRW.listC
  have cm : (w.alloc (.cells #[.int .u64 0, .int .i64 0, .int .i64 0] 51)).drew.cell? ⟨rb, 0, none⟩ = some (.int .i64 most) := hRW.mostC
  have hb : ((L.length : Int) == most) = false := by simp [hm]
  have HR0 : Keep (Rt ((w.alloc (.cells #[.int .u64 0, .int .i64 0, .int .i64 0] 51)).drew) base rb (.slice LA L.length cl0) most L) := ⟨hRW.below ((Below.refl _ _).drew)⟩
  have HG0 : Keep (((w.alloc (.cells #[.int .u64 0, .int .i64 0, .int .i64 0] 51)).drew).heap[w.heap.size]? = some (.cells #[.int .u64 0, .int .i64 0, .int .i64 0] 51 (0, 0))) := ⟨heap_alloc_new _ _⟩
  have HB0 : Keep (Below w.heap.size w ((w.alloc (.cells #[.int .u64 0, .int .i64 0, .int .i64 0] 51)).drew)) := ⟨hB.drew⟩
  have HS0 : Keep (w.heap.size < ((w.alloc (.cells #[.int .u64 0, .int .i64 0, .int .i64 0] 51)).drew).heap.size) := ⟨lt_of_block HG0.out⟩
  have HRW := Keep.mk hR
  have HGA := Lib.hid hga
  have HLL := Keep.mk hL
  have HBASE := Keep.mk hbase
  have HRLT : Keep (rb < w.heap.size) := ⟨hR.lt⟩
  have HALT : Keep (∀ k, (Value.slice LA L.length cl0).ownBlock = some k → k < w.heap.size) := ⟨fun k e => (hR.own.lt k e).2⟩
  have HLOW : Keep (base ≤ rb) := ⟨hR.low⟩
  clear hR hRW hB hm ha hks hL hbase hga
  go_enter Tryd.func17, Tryd.ntmps17
  go_wp2_with fail
  go_region_held3 (fun X => X.cell? ⟨rb, 1, none⟩ = some (.slice LA L.length cl0) ∧ X.cell? ⟨rb, 0, none⟩ = some (.int .i64 most)) (exact ⟨cl, cm⟩) (fail)
  go_wp2_with fail
  clear cl cm hb
  obtain ⟨w0, hw0⟩ : ∃ w0, (w.alloc (.cells #[.int .u64 0, .int .i64 0, .int .i64 0] 51)).drew = w0 := ⟨_, rfl⟩
  rw [hw0] at HR0 HG0 HB0 HS0
  try rw [hw0]
  clear hw0 HB
  go_loopw [7] (fun i wr => ∃ j : Nat, j ≤ ks.length ∧ i = .int .i64 j ∧ Keep (Below w0.heap.size w0 wr) ∧ Keep (∀ x ∈ ks.take j, ∃ y ∈ L, y.1 = tokN x)) (fun i _ => ks.length - (intOf i).toNat)
  case atStart => exact ⟨0, by omega, rfl, ⟨Below.refl _ _⟩, ⟨by simp⟩⟩
  case round =>
    obtain ⟨j, hj, rfl, HB, HS⟩ := hrel
    by_cases hlt : j < ks.length
    · obtain ⟨ga, off, hA, hgl, hcs⟩ := HA.out.rd (List.ne_nil_of_length_pos (by omega))
      obtain ⟨x, hx⟩ : ∃ x, ks[j] = x := ⟨_, rfl⟩
      have hlx : ks[j]? = some x := by rw [List.getElem?_eq_getElem hlt, hx]
      have hbx := HKS.out x (List.mem_of_getElem? hlx)
      have c00 : w.cell? ⟨ga, off + j, none⟩ = some (.int .u64 x) := by
        have := hcs j x hlx 0 _ rfl
        rwa [Nat.mul_one, Nat.add_zero] at this
      have c01 : w0.cell? ⟨ga, off + j, none⟩ = some (.int .u64 x) := (HB0.out.cell (p := ⟨ga, off + j, none⟩) hgl).trans c00
      have c0 : wr.cell? ⟨ga, off + j, none⟩ = some (.int .u64 x) := (HB.out.cell (p := ⟨ga, off + j, none⟩) (Nat.lt_of_lt_of_le hgl HB0.out.size)).trans c01
      have C01 := Keep.mk c01
      obtain ⟨t, ht⟩ : ∃ t, tokN x = t := ⟨_, rfl⟩
      have TK : Keep (∀ W, Calls Tryd.prog 29 #[.int .u64 x] W fun e w' => e = .returned (.int .u32 t) ∧ Below W.heap.size W w') := ⟨fun W => ht ▸ refToken_any x W hbx.1 hbx.2⟩
      subst hA
      have hji : ((j : Nat) : Int) < (ks.length : Int) := by omega
      have HLX := Keep.mk hlx
      have HTX := Keep.mk ht
      have HGL := Keep.mk hgl
      have C00 := Keep.mk c00
      have HGB : Keep (ga < base) := ⟨HGA.out (List.ne_nil_of_length_pos (by omega)) _ rfl⟩
      have HONE : Keep ((#[Value.int .u64 x, .int .i64 j, .int .i64 0]).all (fun x => x.oneCell') = true) := ⟨by simp [Value.oneCell']⟩
      by_cases hM : ∃ y ∈ L, y.1 = t
      · have HS2 : Keep (∀ y ∈ ks.take (j + 1), ∃ z ∈ L, z.1 = tokN y) := ⟨fun y hy => by
            rw [List.take_add_one, hlx] at hy
            rcases List.mem_append.1 hy with h | h
            · exact HS.out y h
            · obtain rfl : y = x := by simpa using h
              rw [ht]; exact hM⟩
        have HM := Keep.mk hM
        clear hcs hgl hx hlx hbx ht hM c00 c01
        go_wp2_with (first
          | (go_at_call 29
             go_loud (refine (TK.out _).mono ?_; rintro e w1 ⟨rfl, hb1⟩)
             have B1 := Keep.mk (HB.out.trans (hb1.mono HB.out.size))
             have AT := Keep.mk (at_any base rb _ most L t w1 (HR0.out.below B1.out) HLL.out)
             clear hb1)
          | (go_at_call 30
             go_loud (refine AT.out.mono ?_; rintro e X ⟨i, rfl, hi, hX⟩)
             rw [hX]
             clear hX
             rcases hi with ⟨-, h0⟩ | ⟨k, y, rfl, hk, hy⟩
             · obtain ⟨z, hz, ez⟩ := HM.out
               exact absurd ez (h0 _ hz)
             have hkd : decide (((k : Nat) : Int) < 0) = false := decide_eq_false (by omega)
             clear hk hy)
          | fail)
        go_roundw
        case rel => exact ⟨j + 1, by omega, by go_num, B1, HS2⟩
        case measure => simp [intOf] <;> omega
      · have HM := Keep.mk hM
        clear hcs hgl hx hlx hbx ht hM c00 c01
        go_wp2_with (first
          | (go_at_call 29
             go_loud (refine (TK.out _).mono ?_; rintro e w1 ⟨rfl, hb1⟩)
             have B1 := Keep.mk (HB.out.trans (hb1.mono HB.out.size))
             have R1 := Keep.mk (HR0.out.below B1.out)
             have AT := Keep.mk (at_any base rb _ most L t w1 R1.out HLL.out)
             have c1 := R1.out.listC
             clear hb1)
          | (go_at_call 30
             go_loud (refine AT.out.mono ?_; rintro e X ⟨i, rfl, hi, hX⟩)
             rw [hX]
             clear hX
             rcases hi with ⟨rfl, -⟩ | ⟨k, y, -, hk, hy⟩
             rotate_left
             · exact absurd ⟨y, List.mem_of_getElem? hk, hy⟩ HM.out)
          | (refine wpList_append_te rfl (.tmp 39) (.tmp 43) 54 rfl Tryd.underlying54 base (.slice LA L.length cl0) _ L rfl (R1.out.own.alloc (.cells #[.int .u32 t, .int .i64 o, .bool true, .int .i64 0] 58)) w1.heap.size (t, ⟨o, true, 0⟩) rfl _ (heap_alloc_new _ _) (by have := HLL.out; omega) (by have := B1.out.size; have := HBASE.out; have := HB0.out.size; simp; omega) ?_
             intro v4 w4 hown4 hg4 hat4
             have HBW : Below w.heap.size w (w1.alloc (.cells #[.int .u32 t, .int .i64 o, .bool true, .int .i64 0] 58)) := (HB0.out.trans (B1.out.mono HB0.out.size)).alloc (by have := B1.out.size; have := HB0.out.size; omega) _
             obtain ⟨A4, cap4, rfl, -⟩ := own_slice hown4
             obtain ⟨q1, q2, q3, q4, q5⟩ := HRW.out.put (rs := w.heap.size) (cs0 := #[.int .u64 0, .int .i64 0, .int .i64 0]) (ty := 51) HBW HBASE.out hown4 hg4 hat4 (by
               rw [Below.heap_alloc _ _ _ (by have := B1.out.size; have := HS0.out; omega)]
               exact (B1.out.block _ HS0.out).trans HG0.out) (Nat.le_refl _)
             have c4 : (w4.setCell ⟨rb, 1, none⟩ (.slice A4 (L.length + 1) cap4)).cell? ⟨ga, off + j, none⟩ = some (.int .u64 x) := (World.cell?_of_block (q4 ga HGB.out)).trans C00.out
             have Q3 := Keep.mk q3
             have Q5 := Lib.hid q5
             clear hown4 hg4 hat4 HBW q3 q4 q5)
          | (refine Go.wpList_store_row rfl 51 (.tmp 6) (.tmp 52) rfl w.heap.size #[.int .u64 x, .int .i64 j, .int .i64 0] rfl rfl 51 _ Q3.out (by kernel_rfl) rfl HONE.out ?_)
          | fail)
        refine bodyPost_ret (v := .agg #[.int .u64 x, .int .i64 j, .int .i64 0]) (results_cell_row Tryd.results17 _ _ w.heap.size 51 _ (0, 0) _ rfl (setRow_heap _ _ _ _ _ _ Q3.out) Tryd.underlying51 rfl (by kernel_rfl)) rfl (.inr ⟨j, x, HLX.out, HS.out, fun y hy e => HM.out ⟨y, hy, e.trans HTX.out⟩, rfl, _, ?_, (Q5.out _).2⟩)
        rw [HTX.out]
        exact (Q5.out _).1
    · have hje : j = ks.length := by omega
      subst hje
      rw [List.take_length] at HS
      clear hj
      have hg : wr.heap[w.heap.size]? = some (.cells #[.int .u64 0, .int .i64 0, .int .i64 0] 51 (0, 0)) := (HB.out.block _ HS0.out).trans HG0.out
      have HG := Keep.mk hg
      have HONE : Keep ((#[Value.int .u64 0, .int .i64 ks.length, .int .i64 6]).all (fun x => x.oneCell') = true) := ⟨by simp [Value.oneCell']⟩
      clear hg
      go_wp2_with (first
        | (refine Go.wpList_store_row rfl 51 (.tmp 6) (.tmp 55) rfl w.heap.size #[.int .u64 0, .int .i64 ks.length, .int .i64 6] rfl rfl 51 _ HG.out (by kernel_rfl) rfl HONE.out ?_)
        | fail)
      refine bodyPost_ret (v := .agg #[.int .u64 0, .int .i64 ks.length, .int .i64 6]) (results_cell_row Tryd.results17 _ _ w.heap.size 51 _ (0, 0) _ rfl (setRow_heap _ _ _ _ _ _ HG.out) Tryd.underlying51 rfl (by kernel_rfl)) rfl (.inl ⟨HS.out, rfl, ?_⟩)
      exact below_setRow (HB0.out.trans (HB.out.mono HB0.out.size)) (Nat.le_refl _) _
end Go.Proofs.YtdmmcgcglkblhaaDoor
