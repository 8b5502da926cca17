/-
  The contract of All.
-/
import Derived.Test.YtdmmcgcglkblhaaDoorTkU
namespace Go.Proofs.YtdmmcgcglkblhaaDoor
open Go.RowKit Go.Maps

def fOf (M : Int → Option En) (t : Int) : En := (M t).getD noEn
theorem infoT : (Tryd.prog.info? 43).map (fun i => (i.zero, i.size, i.bytes)) = some (some (.agg #[.int .u32 0, .int .i64 0, .bool false, .int .i64 0]), 4, 32) := by kernel_rfl
theorem encEOne (f : Int → En) (t : Int) : ∀ u ∈ encE f t, u.oneCell' = true := by simp [encE, Value.oneCell']

structure Al (wr w : World) (m nb : Nat) (M : Int → Option En) (k cnt : Nat) (out : Value) : Prop where
  ex : ∃ (D : DataW Unit) (ts : List Int) (left : Lit → Bool), wr.ranges Tryd.prog 30 enR m w.heap.size nb D left cnt ∧ (∀ h, Maps.has D (.int .u32 h) = (M h).isSome) ∧ (∀ h x, M h = some x → ∀ z, D.atKey (.int .u32 h) z = enD h x) ∧
    wr.ownsRow (w.heap.size + 1) 43 4 out ts.length (ts.flatMap (encE (fOf M))) ∧ Below w.heap.size w wr ∧ ts.Nodup ∧ (∀ t ∈ ts, (M t).isSome = true ∧ left (.int .u32 t) = false) ∧ (∀ t, (M t).isSome = true → left (.int .u32 t) = false → t ∈ ts) ∧ ts.length + cnt ≤ k ∧ w.heap.size + 1 ≤ wr.heap.size

set_option maxRecDepth 100000 in
set_option maxHeartbeats 3200000 in
theorem all_any (base b m nb : Nat) (most : Int) (M : Int → Option En) (k : Nat) (w : World) (hT : Tb w base b m nb most M k) (hk : k ≤ 100000) :
    Calls Tryd.prog 15 #[.pointer (some ⟨b, 0, none⟩)] w fun e w' => ∃ (v : Value) (ts : List Int), e = .returned v ∧ (∀ t, t ∈ ts ↔ (M t).isSome = true) ∧ ts.Nodup ∧ ts.Pairwise (· ≤ ·) ∧ ts.length ≤ k ∧
      w'.ownsRow (w.heap.size + 1) 43 4 v ts.length (ts.flatMap (encE (fOf M))) ∧ Below w.heap.size w w' := by
  have cm := hT.mapC
  have hml := hT.mp.lt
  obtain ⟨D, hown, h1, h2, h3⟩ := hT.mp
  have H1 := Lib.hid h1
  have H2 := Lib.hid h2
  have H3 := Keep.mk h3
  obtain ⟨i0, hi, hz0, hz1, hz2⟩ := info_parts infoT
  have HI0 : Keep (Tryd.prog.info? 43 = some i0 ∧ i0.zero = some (.agg #[.int .u32 0, .int .i64 0, .bool false, .int .i64 0]) ∧ i0.size = 4 ∧ i0.bytes = 32) := ⟨hi, hz0, hz1, hz2⟩
  have HK := Keep.mk hk
  clear hT h1 h2 h3 hi hz0 hz1 hz2 hk
  go_enter Tryd.func15, Tryd.ntmps15
  go_wp2_with (first
    | (at_range; refine wpList_range_own _ rfl _ 61 rfl 30 43 keyedU Tryd.underlying61 enR m nb _ rfl hown ?_; intro w0 hrg0 hg0 hs0)
    | fail)
  try go_frame
  have HS0 : Keep (Al w0 w m nb M k (Maps.size D) (.slice none 0 0)) := ⟨⟨D, [], _, hrg0, H1.out, H2.out, World.ownsRow_nil _ _ _ _, ⟨hg0.os, hg0.tape, hg0.output, hg0.size, fun j hj => hg0.block j hj (by simp)⟩, List.nodup_nil, by simp, (fun t ht hl => by rw [H1.out, ht] at hl; cases hl), by rw [H3.out]; simp, by omega⟩⟩
  clear hrg0 hg0 hs0 hown H1 H2 H3
  go_loopw [3] (fun out wr => ∃ cnt : Nat, Keep (Al wr w m nb M k cnt out)) (fun _ wr => wr.rangeLeft m w.heap.size)
  case atStart => exact ⟨_, HS0⟩
  case round =>
    obtain ⟨cnt, ⟨⟨D1, ts, left, hrg, v1, v2, v3, v4, v5, v6, v7, v8, v9⟩⟩⟩ := hrel
    have V1 := Lib.hid v1
    have V2 := Lib.hid v2
    have V3 := Keep.mk v3
    have V4 := Keep.mk v4
    have V5 := Keep.mk v5
    have V6 := Lib.hid v6
    have V7 := Lib.hid v7
    have V8 := Keep.mk v8
    have V9 := Keep.mk v9
    clear v1 v2 v3 v4 v5 v6 v7 v8 v9
    go_wp2_with (first
      | (at_next; refine wpList_next_ranges _ rfl _ rfl 30 keyedU enR id id (fun key _ _ => ⟨key, rfl⟩) (fun v _ _ => ⟨v, rfl⟩) m w.heap.size nb _ _ _ rfl hrg ?_ ?_)
      | fail)
    · intro _ hl0
      obtain ⟨A5, c5, rfl, -⟩ := own_slice V3.out
      have HSD := Keep.mk (sort_ent (fOf M) (w.heap.size + 1) A5 c5 ts wr V3.out (by have := V8.out; have := HK.out; omega))
      have HL0 := Lib.hid hl0
      clear hl0
      go_wp2_with (first
        | (go_at_call 26
           go_loud (refine HSD.out.mono ?_; rintro e w2 ⟨rfl, ho2, hg2⟩)
           have HO2 := Lib.hid ho2
           have HG2 := Lib.hid hg2
           clear ho2 hg2)
        | fail)
      go_ret
      have hp := sortI_perm ts
      refine ⟨_, sortI ts, rfl, fun t => ?_, hp.nodup_iff.2 V5.out, sortI_sorted ts, by rw [hp.length_eq]; have := V8.out; omega, by rw [hp.length_eq]; exact HO2.out, V4.out.trans ⟨HG2.out.os, HG2.out.tape, HG2.out.output, HG2.out.size, fun j hj => HG2.out.block j (by have := V4.out.size; omega) (fun e => by have := (V3.out.lt j e.symm).1; omega)⟩⟩
      rw [hp.mem_iff]
      exact ⟨fun h => (V6.out t h).1, fun h => V7.out t h (HL0.out _)⟩
    · intro key val kl yd yp w1 cnt1 hkey hlx hv hat hrg1 hlt hg1 hs1 hen
      obtain ⟨t, rfl, rfl, hwt⟩ := Maps.keyOf_int_inv Tryd.underlying30 hkey
      obtain ⟨t', x, rfl, hy⟩ := enR_inv hv
      obtain rfl : yd = enD t' x := congrArg Prod.fst hy
      have hMt : M t = some x ∧ t' = t := by
        have hh := has_true_of_atKey hat
        rw [V1.out] at hh
        obtain ⟨x1, e1⟩ := Option.isSome_iff_exists.1 hh
        have a := hat (enD 0 x)
        rw [V2.out t x1 e1] at a
        obtain ⟨rfl, rfl⟩ := enD_inj a
        exact ⟨e1, rfl⟩
      obtain ⟨hMt, rfl⟩ := hMt
      have hf : fOf M t' = x := by unfold fOf; rw [hMt]; rfl
      obtain ⟨xo, xl, xu⟩ := x
      have hk2 : ∀ h, (left (.int .u32 h) && !(Lit.int .u32 h).sameKey (.int .u32 t')) = false → h = t' ∨ left (.int .u32 h) = false := fun h hh => by
        by_cases e : h = t'
        · exact .inl e
        · simp [Lit.sameKey, e] at hh
          exact .inr hh
      have hnr : u3.ownBlock = none ∨ u3.ownBlock ≠ some w.heap.size := by
        cases h : u3.ownBlock with
        | none => exact .inl rfl
        | some j => exact .inr (fun e => by cases e; have := (V3.out.lt _ h).1; omega)
      have OWN3 := Keep.mk (((V3.out.kept hg1 hnr).alloc (.cells #[.int .u32 t', .int .i64 xo, .bool xl, .int .i64 xu] 43)).alloc (.cells #[.int .u32 t', .int .i64 xo, .bool xl, .int .i64 xu] 43))
      have HR3 := Keep.mk ((hrg1.alloc (.cells #[.int .u32 t', .int .i64 xo, .bool xl, .int .i64 xu] 43)).alloc (.cells #[.int .u32 t', .int .i64 xo, .bool xl, .int .i64 xu] 43))
      have hgb : ((w1.alloc (.cells #[.int .u32 t', .int .i64 xo, .bool xl, .int .i64 xu] 43)).alloc (.cells #[.int .u32 t', .int .i64 xo, .bool xl, .int .i64 xu] 43)).heap[w1.heap.size + 1]? = some (.cells #[.int .u32 t', .int .i64 xo, .bool xl, .int .i64 xu] 43 (0, 0)) := by
        rw [show w1.heap.size + 1 = (w1.alloc (.cells #[.int .u32 t', .int .i64 xo, .bool xl, .int .i64 xu] 43)).heap.size by simp]
        exact heap_alloc_new _ _
      have RD : Keep (Rd ((w1.alloc (.cells #[.int .u32 t', .int .i64 xo, .bool xl, .int .i64 xu] 43)).alloc (.cells #[.int .u32 t', .int .i64 xo, .bool xl, .int .i64 xu] 43)) ((w1.alloc (.cells #[.int .u32 t', .int .i64 xo, .bool xl, .int .i64 xu] 43)).alloc (.cells #[.int .u32 t', .int .i64 xo, .bool xl, .int .i64 xu] 43)).heap.size 4 (encE (fOf M)) (some ⟨w1.heap.size + 1, 0, none⟩) [t']) := ⟨fun _ => ⟨_, 0, rfl, lt_of_block hgb, fun i y hy j u hu => by
        cases i with
        | zero =>
          obtain rfl : t' = y := by simpa using hy
          rw [cell_of_row _ _ _ _ 43 (0, 0) hgb]
          unfold encE at hu
          rw [hf] at hu
          simpa using hu
        | succ i => simp at hy⟩⟩
      have B3 : Keep (Below w.heap.size w ((w1.alloc (.cells #[.int .u32 t', .int .i64 xo, .bool xl, .int .i64 xu] 43)).alloc (.cells #[.int .u32 t', .int .i64 xo, .bool xl, .int .i64 xu] 43))) := by
        have b1 : Below w.heap.size w w1 := V4.out.trans ⟨hg1.os, hg1.tape, hg1.output, hg1.size, fun j hj => hg1.block j (by have := V4.out.size; omega) (by simp; omega)⟩
        have b2 := b1.alloc b1.size (.cells #[.int .u32 t', .int .i64 xo, .bool xl, .int .i64 xu] 43)
        exact ⟨b2.alloc b2.size _⟩
      have HLE := Keep.mk hlt
      have HRO := Keep.mk hrg
      have HLX := Keep.mk hlx
      have HMT := Keep.mk hMt
      have K2 := Lib.hid hk2
      have HSZ : Keep (w.heap.size + 1 ≤ ((w1.alloc (.cells #[.int .u32 t', .int .i64 xo, .bool xl, .int .i64 xu] 43)).alloc (.cells #[.int .u32 t', .int .i64 xo, .bool xl, .int .i64 xu] 43)).heap.size) := ⟨by have := V9.out; have := hg1.size; simp; omega⟩
      have hen2 : (Instr.entry (.pointer (some ⟨w.heap.size, 0, none⟩))).run Tryd.prog w1 = .ok (.tuple #[.int .u32 t', .agg #[.int .u32 t', .int .i64 xo, .bool xl, .int .i64 xu]]) w1 := hen
      try rw [show enV t' ⟨xo, xl, xu⟩ = .agg #[.int .u32 t', .int .i64 xo, .bool xl, .int .i64 xu] from rfl]
      clear hen hk2 hrg hlt hMt hkey hrg1 hat hlx hg1 hs1 hwt hv hy hf hgb hnr
      go_wp2_with (first
        | (refine wpList_append_rd rfl (.tmp 17) (.tmp 19) 39 rfl (w.heap.size + 1) 43 i0 _ 4 32 Tryd.underlying39 HI0.out.1 HI0.out.2.1 HI0.out.2.2.1 HI0.out.2.2.2 rfl (by decide) u3 _ _ rfl OWN3.out (some ⟨w1.heap.size + 1, 0, none⟩) 1 1 _ (encE (fOf M)) [t'] rfl (by intro e; cases e) rfl (encE_length _) RD.out (encEOne _) (by have := V8.out; have := HK.out; unfold maxLen; omega) (by have := V8.out; have := HK.out; omega) HSZ.out ?_
           intro v4 w4 ho4 hg4 ha4
           have HR4 := Keep.mk (HR3.out.kept hg4 (fun e => by have := (V3.out.lt _ e.symm).1; omega) (fun e => by have := (V3.out.lt _ e.symm).1; omega))
           have HO4 : Keep (w4.ownsRow (w.heap.size + 1) 43 4 v4 (ts ++ [t']).length ((ts ++ [t']).flatMap (encE (fOf M)))) := ⟨by rw [List.length_append, List.flatMap_append]; exact ho4⟩
           have B4 : Keep (Below w.heap.size w w4) := ⟨B3.out.grown hg4 B3.out.size fun j e => by have := (V3.out.lt j e).1; omega⟩
           have S4 : Keep (w.heap.size + 1 ≤ w4.heap.size) := ⟨Nat.le_trans HSZ.out hg4.size⟩
           clear ho4 hg4 ha4)
        | fail)
      go_roundw
      case rel => exact ⟨cnt1, ⟨⟨D1, ts ++ [t'], _, HR4.out, V1.out, V2.out, HO4.out, B4.out, by
        rw [List.nodup_append]
        exact ⟨V5.out, by simp, fun a ha c hc e => by
          obtain rfl : c = t' := by simpa using hc
          have := (V6.out a ha).2
          rw [e, HLX.out] at this
          cases this⟩, fun h hh => by
        rcases List.mem_append.1 hh with h1 | h1
        · exact ⟨(V6.out h h1).1, by rw [(V6.out h h1).2]; rfl⟩
        · obtain rfl : h = t' := by simpa using h1
          exact ⟨by rw [HMT.out]; rfl, by simp [Lit.sameKey]⟩, fun h h1 hh => by
        rcases K2.out h hh with rfl | h2
        · simp
        · exact List.mem_append_left _ (V7.out h h1 h2), by rw [List.length_append, List.length_singleton]; have := V8.out; have := HLE.out; omega, S4.out⟩⟩⟩
      case measure => rw [HR4.out.left_eq, HRO.out.left_eq]; exact HLE.out
end Go.Proofs.YtdmmcgcglkblhaaDoor
