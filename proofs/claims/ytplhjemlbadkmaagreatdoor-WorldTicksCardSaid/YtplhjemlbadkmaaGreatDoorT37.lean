/-
  Walks and laws, one behind the other (part 37).
-/
import Derived.Ground.SlsfProg
import Derived.Shelf.SlSortCmp.NoneTotal
import Derived.Test.YtplhjemlbadkmaaGreatDoorT28
set_option linter.unusedSimpArgs false
set_option linter.unusedVariables false
/-
  slices.SortFunc lies at this program (what the kit's tool lay-plain printed).
-/
namespace Go.Proofs.YtplhjemlbadkmaaGreatDoor
open Go.Shelf
def sortEnt_ren : Go.Shelf.Ren := ⟨fun | 6 => 91 | 15 => 153 | 14 => 152 | 28 => 219 | 29 => 220 | 20 => 211 | 21 => 212 | 22 => 213 | 23 => 214 | 24 => 215 | 25 => 216 | 26 => 217 | 27 => 218 | 46 => 274 | 47 => 275 | 48 => 276 | 49 => 277 | 50 => 278 | 57 => 322 | n => n, fun | 22 => 56 | 24 => 129 | 25 => 132 | 3 => 3 | 39 => 194 | 0 => 0 | 53 => 91 | 55 => 22 | 4 => 4 | 46 => 275 | 45 => 274 | 50 => 221 | 5 => 5 | 9 => 9 | 66 => 332 | 70 => 205 | 76 => 369 | 77 => 370 | n => n, fun | n => n⟩
theorem sortEnt : Go.Proofs.SlLaysF0.n6 Tryz.prog sortEnt_ren := {
  mixed := by kernel_rfl
  f6 := ⟨Tryz.f91.name, by decide, Tryz.func91.trans (congrArg some (by kernel_rfl))⟩
  f14 := ⟨Tryz.f152.name, by decide, Tryz.func152.trans (congrArg some (by kernel_rfl))⟩
  f15 := Tryz.func153.trans (congrArg some (by kernel_rfl))
  f20 := ⟨Tryz.f211.name, by decide, Tryz.func211.trans (congrArg some (by kernel_rfl))⟩
  f21 := ⟨Tryz.f212.name, by decide, Tryz.func212.trans (congrArg some (by kernel_rfl))⟩
  f22 := ⟨Tryz.f213.name, by decide, Tryz.func213.trans (congrArg some (by kernel_rfl))⟩
  f23 := ⟨Tryz.f214.name, by decide, Tryz.func214.trans (congrArg some (by kernel_rfl))⟩
  f24 := ⟨Tryz.f215.name, by decide, Tryz.func215.trans (congrArg some (by kernel_rfl))⟩
  f25 := ⟨Tryz.f216.name, by decide, Tryz.func216.trans (congrArg some (by kernel_rfl))⟩
  f26 := ⟨Tryz.f217.name, by decide, Tryz.func217.trans (congrArg some (by kernel_rfl))⟩
  f27 := ⟨Tryz.f218.name, by decide, Tryz.func218.trans (congrArg some (by kernel_rfl))⟩
  f28 := Tryz.func219.trans (congrArg some (by kernel_rfl))
  f29 := Tryz.func220.trans (congrArg some (by kernel_rfl))
  f46 := ⟨Tryz.f274.name, by decide, Tryz.func274.trans (congrArg some (by kernel_rfl))⟩
  f47 := Tryz.func275.trans (congrArg some (by kernel_rfl))
  f48 := Tryz.func276.trans (congrArg some (by kernel_rfl))
  f49 := ⟨Tryz.f277.name, by decide, Tryz.func277.trans (congrArg some (by kernel_rfl))⟩
  f50 := ⟨Tryz.f278.name, by decide, Tryz.func278.trans (congrArg some (by kernel_rfl))⟩
  f57 := ⟨Tryz.f322.name, by decide, Tryz.func322.trans (congrArg some (by kernel_rfl))⟩
  t0 := Tryz.underlying0
  a0 := Tryz.isAgg0
  z0 := Tryz.sizeOf0
  v0 := Tryz.zeroValue0
  t3 := Tryz.underlying3
  a3 := Tryz.isAgg3
  z3 := Tryz.sizeOf3
  v3 := Tryz.zeroValue3
  t4 := Tryz.underlying4
  a4 := Tryz.isAgg4
  z4 := Tryz.sizeOf4
  v4 := Tryz.zeroValue4
  t5 := Tryz.underlying5
  a5 := Tryz.isAgg5
  z5 := Tryz.sizeOf5
  v5 := Tryz.zeroValue5
  t9 := Tryz.underlying9
  a9 := Tryz.isAgg9
  z9 := Tryz.sizeOf9
  v9 := Tryz.zeroValue9
  t22 := Tryz.underlying56
  a22 := Tryz.isAgg56
  z22 := Tryz.sizeOf56
  v22 := Tryz.zeroValue56
  t25 := Tryz.underlying132
  a25 := Tryz.isAgg132
  z25 := Tryz.sizeOf132
  v25 := Tryz.zeroValue132
  t39 := Tryz.underlying194
  a39 := Tryz.isAgg194
  z39 := Tryz.sizeOf194
  v39 := Tryz.zeroValue194
  t45 := Tryz.underlying274
  a45 := Tryz.isAgg274
  z45 := Tryz.sizeOf274
  v45 := Tryz.zeroValue274
  t46 := Tryz.underlying275
  a46 := Tryz.isAgg275
  z46 := Tryz.sizeOf275
  v46 := Tryz.zeroValue275
  t50 := Tryz.underlying221
  a50 := Tryz.isAgg221
  z50 := Tryz.sizeOf221
  v50 := Tryz.zeroValue221
  t53 := Tryz.underlying91
  a53 := Tryz.isAgg91
  z53 := Tryz.sizeOf91
  v53 := Tryz.zeroValue91
  t55 := Tryz.underlying22
  a55 := Tryz.isAgg22
  z55 := Tryz.sizeOf22
  v55 := Tryz.zeroValue22
  t66 := Tryz.underlying332
  a66 := Tryz.isAgg332
  z66 := Tryz.sizeOf332
  v66 := Tryz.zeroValue332
  t70 := Tryz.underlying205
  a70 := Tryz.isAgg205
  z70 := Tryz.sizeOf205
  v70 := Tryz.zeroValue205
  t76 := Tryz.underlying369
  a76 := Tryz.isAgg369
  z76 := Tryz.sizeOf369
  v76 := Tryz.zeroValue369
  t77 := Tryz.underlying370
  a77 := Tryz.isAgg370
  z77 := Tryz.sizeOf370
  v77 := Tryz.zeroValue370 }
end Go.Proofs.YtplhjemlbadkmaaGreatDoor
/-
  The contracts of cmp.Compare, of All's closure, and of slices.SortFunc with it, at entries that their tokens tell.
-/
namespace Go.Proofs.YtplhjemlbadkmaaGreatDoor
open Go.RowKit Go.Shelf

theorem nanT_any (x : Int) (w : World) : Calls Tryz.prog 154 #[.int .u32 x] w fun e w' => e = .returned (.bool false) ∧ w' = w := by
  go_enter Tryz.func154, Tryz.ntmps154
  go_wp2_with fail
  go_ret
  exact ⟨by simp, rfl⟩
theorem cmpT_any (x y : Int) (w : World) : Calls Tryz.prog 93 #[.int .u32 x, .int .u32 y] w fun e w' => e = .returned (.int .i64 (Lib.compareInt x y)) ∧ w' = w := by
  have h1 := nanT_any x w
  have h2 := nanT_any y w
  have hc : ∃ r, Lib.compareInt x y = r := ⟨_, rfl⟩
  obtain ⟨r, hr⟩ := hc
  rw [hr]
  have HR := Keep.mk hr
  unfold Lib.compareInt at hr
  by_cases a : x < y
  · rw [if_pos a] at hr
    subst hr
    go_enter Tryz.func93, Tryz.ntmps93
    go_wp2_with (first | (go_at_call 154; refine (nanT_any _ _).mono ?_; rintro e w' ⟨rfl, rfl⟩) | fail)
    go_ret
    exact ⟨rfl, rfl⟩
  · rw [if_neg a] at hr
    by_cases b : y < x
    · rw [if_pos b] at hr
      subst hr
      go_enter Tryz.func93, Tryz.ntmps93
      go_wp2_with (first | (go_at_call 154; refine (nanT_any _ _).mono ?_; rintro e w' ⟨rfl, rfl⟩) | fail)
      go_ret
      exact ⟨rfl, rfl⟩
    · rw [if_neg b] at hr
      subst hr
      go_enter Tryz.func93, Tryz.ntmps93
      go_wp2_with (first | (go_at_call 154; refine (nanT_any _ _).mono ?_; rintro e w' ⟨rfl, rfl⟩) | fail)
      go_ret
      exact ⟨rfl, rfl⟩
def encE (f : Int → En) (t : Int) : List Value := [.int .u32 t, .int .i64 (f t).o, .bool (f t).l, .int .i64 (f t).u]
theorem encE_length (f : Int → En) (t : Int) : (encE f t).length = 4 := rfl
theorem lessT_any (f : Int → En) (x y : Int) (w : World) : Calls Tryz.prog 92 #[.agg #[.int .u32 x, .int .i64 (f x).o, .bool (f x).l, .int .i64 (f x).u], .agg #[.int .u32 y, .int .i64 (f y).o, .bool (f y).l, .int .i64 (f y).u]] w fun e w' => e = .returned (.int .i64 (Lib.compareInt x y)) ∧ ∃ q os', w' = Sort.grow (w.drewN q) os' := by
  obtain ⟨r, hr⟩ : ∃ r, Lib.compareInt x y = r := ⟨_, rfl⟩
  have hcon := fun W' => cmpT_any x y W'
  rw [hr] at hcon ⊢
  go_enter Tryz.func92, Tryz.ntmps92
  go_wp2_with (first | (go_at_call 93; refine (hcon _).mono ?_; rintro e w' ⟨rfl, rfl⟩) | fail)
  go_ret
  exact ⟨rfl, 0, _, by rw [Sort.alloc_eq_grow, Sort.alloc_eq_grow, Sort.grow_grow]; rfl⟩

def ltT : Int → Int → Bool := ltOf Lib.compareInt
theorem ltT_eq (x y : Int) : ltT x y = decide (x < y) := by
  unfold ltT ltOf Lib.compareInt
  by_cases h1 : x < y
  · simp [h1]
  · by_cases h2 : y < x <;> simp [h1, h2]
theorem swoT : Sort.SWO ltT where
  irrefl x := by rw [ltT_eq]; simp
  trans x y z h1 h2 := by rw [ltT_eq] at *; simp at *; omega
  ntrans x y z h1 h2 := by rw [ltT_eq] at *; simp at *; omega
def sortT (l : List Int) : List Int := l.mergeSort fun x y => !ltT y x
theorem sortT_perm (l : List Int) : (sortT l).Perm l := List.mergeSort_perm l _
theorem sortT_sorted (l : List Int) : (sortT l).Pairwise (· ≤ ·) := by
  have := List.pairwise_mergeSort (le := fun x y : Int => !ltT y x) (fun a b c h1 h2 => by simp [ltT_eq] at *; omega) (fun a b => by simp [ltT_eq]; omega) l
  refine this.imp ?_
  intro a b h
  simpa [ltT_eq] using h

theorem entFlat (f : Int → En) : ∀ (l : List Int) (t : Nat), t < l.length * 4 → (l.flatMap (encE f))[t]? = some ((encE f l[t / 4]!)[t % 4]!)
  | [], t, h => by simp at h
  | x :: r, 0, _ => rfl
  | x :: r, 1, _ => rfl
  | x :: r, 2, _ => rfl
  | x :: r, 3, _ => rfl
  | x :: r, t + 4, h => by
    have := entFlat f r t (by simp at h; omega)
    rw [List.flatMap_cons, show t + 4 = t + 1 + 1 + 1 + 1 from rfl]
    show (r.flatMap (encE f))[t]? = _
    rw [this, show (t + 1 + 1 + 1 + 1) / 4 = t / 4 + 1 by omega, show (t + 1 + 1 + 1 + 1) % 4 = t % 4 by omega]
    simp
theorem entLen (f : Int → En) : ∀ l : List Int, (l.flatMap (encE f)).length = l.length * 4
  | [] => rfl
  | x :: r => by rw [List.flatMap_cons, List.length_append, entLen f r, List.length_cons, encE_length]; omega

theorem sort_ent (f : Int → En) (base : Nat) (A : Option Addr) (c : Nat) (hs : List Int) (w : World) (hown : w.ownsRow base 129 4 (.slice A hs.length c) hs.length (hs.flatMap (encE f))) (hl : hs.length ≤ 1000000) :
    Calls Tryz.prog 91 #[.slice A hs.length c, .func (.func 92) #[] #[]] w fun e w' => e = .returned (.tuple #[]) ∧
      w'.ownsRow base 129 4 (.slice A hs.length c) hs.length ((sortT hs).flatMap (encE f)) ∧ w.grownBy w' (Value.slice A hs.length c).ownBlock := by
  by_cases hnil : hs = []
  · subst hnil
    have := AnyF.slices_SortFunc_none sortEnt A c (.func (.func 92) #[] #[]) w
    refine this.mono ?_
    rintro e w' ⟨rfl, rfl⟩
    refine ⟨rfl, ?_, ⟨rfl, rfl, rfl, Nat.le_refl _, fun _ _ _ => rfl⟩⟩
    simpa [sortT] using hown
  · obtain ⟨hlen, hown'⟩ := hown
    rcases hown' with ⟨e, _⟩ | ⟨g, cap, cur, hv, hb, hg, h1, h2, h3, h4⟩
    · exact absurd (List.length_eq_zero_iff.1 (by injection e)) hnil
    cases hv
    have hgl := lt_of_block hg
    have hH : Sort.HoldsK (encE f) 4 w g 0 hs.toArray := by
      intro t ht
      have ht' : t < hs.length * 4 := by simpa using ht
      refine ⟨?_, by simp [World.frozen?, hg]⟩
      rw [cell_of_row w g (0 + t) _ _ (0, 0) hg, Nat.zero_add, Sort.get_flatK _ _ _ t (by simpa using ht')]
      have h5 := entFlat f hs t ht'
      rw [← h4, List.getElem?_take_of_lt ht', Array.getElem?_toList] at h5
      rw [h5]
      simp
    have hsz : hs.toArray.size = hs.length := by simp
    have hcon := AnyQ.slices_SortFunc_total sortEnt 4 Tryz.isAgg129 Tryz.sizeOf129 (encE f) (fun _ => rfl) (fun x v hv => by simp [encE] at hv; rcases hv with rfl | rfl | rfl | rfl <;> rfl) Lib.compareInt swoT 92 #[] g 0 c hs.toArray w
      (enters_of Tryz.func92 (by kernel_rfl) rfl) (fun _ _ _ _ x y => lessT_any f x y _) hH hgl (by rw [hsz]; omega) (fun x y a b => by
        have a' : ltT x y = false := a
        have b' : ltT y x = false := b
        rw [ltT_eq] at a' b'
        have := of_decide_eq_false a'
        have := of_decide_eq_false b'
        omega)
    rw [hsz] at hcon
    refine hcon.mono ?_
    rintro e w' ⟨rfl, m, os, rfl⟩
    obtain ⟨ts, hts⟩ : ∃ ts, sortT hs = ts := ⟨_, rfl⟩
    have htl : ts.length = hs.length := by rw [← hts]; exact (sortT_perm hs).length_eq
    rw [show (hs.toArray.toList.mergeSort fun x y => !(ltOf Lib.compareInt) y x) = ts from hts, hts]
    have hblk : (sortWorldK (encE f) 4 w g 0 m ts.toArray os).heap[g]? = some (.cells (Sort.putCells id 0 (Sort.flatK (encE f) 4 ts.toArray) cur) 129 (0, 0)) := by
      unfold sortWorldK Sort.putRowK
      rw [Sort.heap_grow_old _ _ (by simpa using hgl)]
      simp [Sort.putRow, Sort.mapBlock, Sort.ahead, Array.getElem?_modify, hg, Sort.onCells]
    refine ⟨rfl, ⟨?_, .inr ⟨g, c, _, rfl, hb, hblk, h1, h2, by simp [Sort.putCells, h3], ?_⟩⟩, ⟨rfl, rfl, rfl, ?_, fun k hk hne => ?_⟩⟩
    · rw [show (ts.flatMap (encE f)).length = ts.length * 4 by rw [entLen], htl]
    · apply List.ext_getElem?
      intro t
      by_cases ht : t < hs.length * 4
      · rw [List.getElem?_take_of_lt ht, Array.getElem?_toList, entFlat f ts t (by rw [htl]; exact ht)]
        have h7 : t < cur.size := by rw [h3]; omega
        have h8 : t < ts.length * 4 := by rw [htl]; exact ht
        simp only [Sort.putCells, Array.getElem?_mapIdx, Array.getElem?_eq_getElem h7, Option.map_some, Nat.zero_le, true_and, Nat.zero_add, Nat.sub_zero, Sort.size_flatK, List.size_toArray, id]
        rw [if_pos h8, Sort.get_flatK _ _ _ t (by simpa using h8)]
        simp
      · rw [List.getElem?_take_eq_none (by omega), List.getElem?_eq_none]
        rw [show (ts.flatMap (encE f)).length = ts.length * 4 by rw [entLen]]
        omega
    · unfold sortWorldK Sort.putRowK; simp
    · unfold sortWorldK Sort.putRowK
      rw [Sort.heap_grow_old _ _ (by simpa using hk)]
      have : g ≠ k := fun e => hne (by rw [e]; rfl)
      simp [Sort.putRow, Sort.mapBlock, Sort.ahead, Array.getElem?_modify, this]
end Go.Proofs.YtplhjemlbadkmaaGreatDoor
/-
  The contract of All.
-/
namespace Go.Proofs.YtplhjemlbadkmaaGreatDoor
open Go.RowKit Go.Maps

def fOf (M : Int → Option En) (t : Int) : En := (M t).getD noEn
theorem infoT : (Tryz.prog.info? 129).map (fun i => (i.zero, i.size, i.bytes)) = some (some (.agg #[.int .u32 0, .int .i64 0, .bool false, .int .i64 0]), 4, 32) := by kernel_rfl
theorem encEOne (f : Int → En) (t : Int) : ∀ u ∈ encE f t, u.oneCell' = true := by simp [encE, Value.oneCell']

structure Al (wr w : World) (m nb : Nat) (M : Int → Option En) (k cnt : Nat) (out : Value) : Prop where
  ex : ∃ (D : DataW Unit) (ts : List Int) (left : Lit → Bool), wr.ranges Tryz.prog 91 enR m w.heap.size nb D left cnt ∧ (∀ h, Maps.has D (.int .u32 h) = (M h).isSome) ∧ (∀ h x, M h = some x → ∀ z, D.atKey (.int .u32 h) z = enD h x) ∧
    wr.ownsRow (w.heap.size + 1) 129 4 out ts.length (ts.flatMap (encE (fOf M))) ∧ Below w.heap.size w wr ∧ ts.Nodup ∧ (∀ t ∈ ts, (M t).isSome = true ∧ left (.int .u32 t) = false) ∧ (∀ t, (M t).isSome = true → left (.int .u32 t) = false → t ∈ ts) ∧ ts.length + cnt ≤ k ∧ w.heap.size + 1 ≤ wr.heap.size

set_option maxRecDepth 100000 in
set_option maxHeartbeats 3200000 in
theorem all_any (base b m nb : Nat) (most : Int) (M : Int → Option En) (k : Nat) (w : World) (hT : Tb w base b m nb most M k) (hk : k ≤ 100000) :
    Calls Tryz.prog 58 #[.pointer (some ⟨b, 0, none⟩)] w fun e w' => ∃ (v : Value) (ts : List Int), e = .returned v ∧ (∀ t, t ∈ ts ↔ (M t).isSome = true) ∧ ts.Nodup ∧ ts.Pairwise (· ≤ ·) ∧ ts.length ≤ k ∧
      w'.ownsRow (w.heap.size + 1) 129 4 v ts.length (ts.flatMap (encE (fOf M))) ∧ Below w.heap.size w w' := by
  have cm := hT.mapC
  have hml := hT.mp.lt
  obtain ⟨D, hown, h1, h2, h3⟩ := hT.mp
  have H1 := Lib.hid h1
  have H2 := Lib.hid h2
  have H3 := Keep.mk h3
  obtain ⟨i0, hi, hz0, hz1, hz2⟩ := info_parts infoT
  have HI0 : Keep (Tryz.prog.info? 129 = some i0 ∧ i0.zero = some (.agg #[.int .u32 0, .int .i64 0, .bool false, .int .i64 0]) ∧ i0.size = 4 ∧ i0.bytes = 32) := ⟨hi, hz0, hz1, hz2⟩
  have HK := Keep.mk hk
  clear hT h1 h2 h3 hi hz0 hz1 hz2 hk
  go_enter Tryz.func58, Tryz.ntmps58
  go_wp2_with (first
    | (at_range; refine wpList_range_own _ rfl _ 87 rfl 91 129 keyedU Tryz.underlying87 enR m nb _ rfl hown ?_; intro w0 hrg0 hg0 hs0)
    | fail)
  try go_frame
  have HS0 : Keep (Al w0 w m nb M k (Maps.size D) (.slice none 0 0)) := ⟨⟨D, [], _, hrg0, H1.out, H2.out, World.ownsRow_nil _ _ _ _, ⟨hg0.os, hg0.tape, hg0.output, hg0.size, fun j hj => hg0.block j hj (by simp)⟩, List.nodup_nil, by simp, (fun t ht hl => by rw [H1.out, ht] at hl; cases hl), by rw [H3.out]; simp, by omega⟩⟩
  clear hrg0 hg0 hs0 hown H1 H2 H3
  go_loopw [3] (fun out wr => ∃ cnt : Nat, Keep (Al wr w m nb M k cnt out)) (fun _ wr => wr.rangeLeft m w.heap.size)
  case atStart => exact ⟨_, HS0⟩
  case round =>
    obtain ⟨cnt, ⟨⟨D1, ts, left, hrg, v1, v2, v3, v4, v5, v6, v7, v8, v9⟩⟩⟩ := hrel
    have V1 := Lib.hid v1
    have V2 := Lib.hid v2
    have V3 := Keep.mk v3
    have V4 := Keep.mk v4
    have V5 := Keep.mk v5
    have V6 := Lib.hid v6
    have V7 := Lib.hid v7
    have V8 := Keep.mk v8
    have V9 := Keep.mk v9
    clear v1 v2 v3 v4 v5 v6 v7 v8 v9
    go_wp2_with (first
      | (at_next; refine wpList_next_ranges _ rfl _ rfl 91 keyedU enR id id (fun key _ _ => ⟨key, rfl⟩) (fun v _ _ => ⟨v, rfl⟩) m w.heap.size nb _ _ _ rfl hrg ?_ ?_)
      | fail)
    · intro _ hl0
      obtain ⟨A5, c5, rfl, -⟩ := own_slice V3.out
      have HSD := Keep.mk (sort_ent (fOf M) (w.heap.size + 1) A5 c5 ts wr V3.out (by have := V8.out; have := HK.out; omega))
      have HL0 := Lib.hid hl0
      clear hl0
      go_wp2_with (first
        | (go_at_call 91
           go_loud (refine HSD.out.mono ?_; rintro e w2 ⟨rfl, ho2, hg2⟩)
           have HO2 := Lib.hid ho2
           have HG2 := Lib.hid hg2
           clear ho2 hg2)
        | fail)
      go_ret
      have hp := sortT_perm ts
      refine ⟨_, sortT ts, rfl, fun t => ?_, hp.nodup_iff.2 V5.out, sortT_sorted ts, by rw [hp.length_eq]; have := V8.out; omega, by rw [hp.length_eq]; exact HO2.out, V4.out.trans ⟨HG2.out.os, HG2.out.tape, HG2.out.output, HG2.out.size, fun j hj => HG2.out.block j (by have := V4.out.size; omega) (fun e => by have := (V3.out.lt j e.symm).1; omega)⟩⟩
      rw [hp.mem_iff]
      exact ⟨fun h => (V6.out t h).1, fun h => V7.out t h (HL0.out _)⟩
    · intro key val kl yd yp w1 cnt1 hkey hlx hv hat hrg1 hlt hg1 hs1 hen
      obtain ⟨t, rfl, rfl, hwt⟩ := Maps.keyOf_int_inv Tryz.underlying91 hkey
      obtain ⟨t', x, rfl, hy⟩ := enR_inv hv
      obtain rfl : yd = enD t' x := congrArg Prod.fst hy
      have hMt : M t = some x ∧ t' = t := by
        have hh := has_true_of_atKey hat
        rw [V1.out] at hh
        obtain ⟨x1, e1⟩ := Option.isSome_iff_exists.1 hh
        have a := hat (enD 0 x)
        rw [V2.out t x1 e1] at a
        obtain ⟨rfl, rfl⟩ := enD_inj a
        exact ⟨e1, rfl⟩
      obtain ⟨hMt, rfl⟩ := hMt
      have hf : fOf M t' = x := by unfold fOf; rw [hMt]; rfl
      obtain ⟨xo, xl, xu⟩ := x
      have hk2 : ∀ h, (left (.int .u32 h) && !(Lit.int .u32 h).sameKey (.int .u32 t')) = false → h = t' ∨ left (.int .u32 h) = false := fun h hh => by
        by_cases e : h = t'
        · exact .inl e
        · simp [Lit.sameKey, e] at hh
          exact .inr hh
      have hnr : u3.ownBlock = none ∨ u3.ownBlock ≠ some w.heap.size := by
        cases h : u3.ownBlock with
        | none => exact .inl rfl
        | some j => exact .inr (fun e => by cases e; have := (V3.out.lt _ h).1; omega)
      have OWN3 := Keep.mk (((V3.out.kept hg1 hnr).alloc (.cells #[.int .u32 t', .int .i64 xo, .bool xl, .int .i64 xu] 129)).alloc (.cells #[.int .u32 t', .int .i64 xo, .bool xl, .int .i64 xu] 129))
      have HR3 := Keep.mk ((hrg1.alloc (.cells #[.int .u32 t', .int .i64 xo, .bool xl, .int .i64 xu] 129)).alloc (.cells #[.int .u32 t', .int .i64 xo, .bool xl, .int .i64 xu] 129))
      have hgb : ((w1.alloc (.cells #[.int .u32 t', .int .i64 xo, .bool xl, .int .i64 xu] 129)).alloc (.cells #[.int .u32 t', .int .i64 xo, .bool xl, .int .i64 xu] 129)).heap[w1.heap.size + 1]? = some (.cells #[.int .u32 t', .int .i64 xo, .bool xl, .int .i64 xu] 129 (0, 0)) := by
        rw [show w1.heap.size + 1 = (w1.alloc (.cells #[.int .u32 t', .int .i64 xo, .bool xl, .int .i64 xu] 129)).heap.size by simp]
        exact heap_alloc_new _ _
      have RD : Keep (Rd ((w1.alloc (.cells #[.int .u32 t', .int .i64 xo, .bool xl, .int .i64 xu] 129)).alloc (.cells #[.int .u32 t', .int .i64 xo, .bool xl, .int .i64 xu] 129)) ((w1.alloc (.cells #[.int .u32 t', .int .i64 xo, .bool xl, .int .i64 xu] 129)).alloc (.cells #[.int .u32 t', .int .i64 xo, .bool xl, .int .i64 xu] 129)).heap.size 4 (encE (fOf M)) (some ⟨w1.heap.size + 1, 0, none⟩) [t']) := ⟨fun _ => ⟨_, 0, rfl, lt_of_block hgb, fun i y hy j u hu => by
        cases i with
        | zero =>
          obtain rfl : t' = y := by simpa using hy
          rw [cell_of_row _ _ _ _ 129 (0, 0) hgb]
          unfold encE at hu
          rw [hf] at hu
          simpa using hu
        | succ i => simp at hy⟩⟩
      have B3 : Keep (Below w.heap.size w ((w1.alloc (.cells #[.int .u32 t', .int .i64 xo, .bool xl, .int .i64 xu] 129)).alloc (.cells #[.int .u32 t', .int .i64 xo, .bool xl, .int .i64 xu] 129))) := by
        have b1 : Below w.heap.size w w1 := V4.out.trans ⟨hg1.os, hg1.tape, hg1.output, hg1.size, fun j hj => hg1.block j (by have := V4.out.size; omega) (by simp; omega)⟩
        have b2 := b1.alloc b1.size (.cells #[.int .u32 t', .int .i64 xo, .bool xl, .int .i64 xu] 129)
        exact ⟨b2.alloc b2.size _⟩
      have HLE := Keep.mk hlt
      have HRO := Keep.mk hrg
      have HLX := Keep.mk hlx
      have HMT := Keep.mk hMt
      have K2 := Lib.hid hk2
      have HSZ : Keep (w.heap.size + 1 ≤ ((w1.alloc (.cells #[.int .u32 t', .int .i64 xo, .bool xl, .int .i64 xu] 129)).alloc (.cells #[.int .u32 t', .int .i64 xo, .bool xl, .int .i64 xu] 129)).heap.size) := ⟨by have := V9.out; have := hg1.size; simp; omega⟩
      have hen2 : (Instr.entry (.pointer (some ⟨w.heap.size, 0, none⟩))).run Tryz.prog w1 = .ok (.tuple #[.int .u32 t', .agg #[.int .u32 t', .int .i64 xo, .bool xl, .int .i64 xu]]) w1 := hen
      try rw [show enV t' ⟨xo, xl, xu⟩ = .agg #[.int .u32 t', .int .i64 xo, .bool xl, .int .i64 xu] from rfl]
      clear hen hk2 hrg hlt hMt hkey hrg1 hat hlx hg1 hs1 hwt hv hy hf hgb hnr
      go_wp2_with (first
        | (refine wpList_append_rd rfl (.tmp 17) (.tmp 19) 56 rfl (w.heap.size + 1) 129 i0 _ 4 32 Tryz.underlying56 HI0.out.1 HI0.out.2.1 HI0.out.2.2.1 HI0.out.2.2.2 rfl (by decide) u3 _ _ rfl OWN3.out (some ⟨w1.heap.size + 1, 0, none⟩) 1 1 _ (encE (fOf M)) [t'] rfl (by intro e; cases e) rfl (encE_length _) RD.out (encEOne _) (by have := V8.out; have := HK.out; unfold maxLen; omega) (by have := V8.out; have := HK.out; omega) HSZ.out ?_
           intro v4 w4 ho4 hg4 ha4
           have HR4 := Keep.mk (HR3.out.kept hg4 (fun e => by have := (V3.out.lt _ e.symm).1; omega) (fun e => by have := (V3.out.lt _ e.symm).1; omega))
           have HO4 : Keep (w4.ownsRow (w.heap.size + 1) 129 4 v4 (ts ++ [t']).length ((ts ++ [t']).flatMap (encE (fOf M)))) := ⟨by rw [List.length_append, List.flatMap_append]; exact ho4⟩
           have B4 : Keep (Below w.heap.size w w4) := ⟨B3.out.grown hg4 B3.out.size fun j e => by have := (V3.out.lt j e).1; omega⟩
           have S4 : Keep (w.heap.size + 1 ≤ w4.heap.size) := ⟨Nat.le_trans HSZ.out hg4.size⟩
           clear ho4 hg4 ha4)
        | fail)
      go_roundw
      case rel => exact ⟨cnt1, ⟨⟨D1, ts ++ [t'], _, HR4.out, V1.out, V2.out, HO4.out, B4.out, by
        rw [List.nodup_append]
        exact ⟨V5.out, by simp, fun a ha c hc e => by
          obtain rfl : c = t' := by simpa using hc
          have := (V6.out a ha).2
          rw [e, HLX.out] at this
          cases this⟩, fun h hh => by
        rcases List.mem_append.1 hh with h1 | h1
        · exact ⟨(V6.out h h1).1, by rw [(V6.out h h1).2]; rfl⟩
        · obtain rfl : h = t' := by simpa using h1
          exact ⟨by rw [HMT.out]; rfl, by simp [Lit.sameKey]⟩, fun h h1 hh => by
        rcases K2.out h hh with rfl | h2
        · simp
        · exact List.mem_append_left _ (V7.out h h1 h2), by rw [List.length_append, List.length_singleton]; have := V8.out; have := HLE.out; omega, S4.out⟩⟩⟩
      case measure => rw [HR4.out.left_eq, HRO.out.left_eq]; exact HLE.out
end Go.Proofs.YtplhjemlbadkmaaGreatDoor
