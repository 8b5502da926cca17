/-
  Walks and laws, one behind the other (part 25).
-/
import Derived.Test.YtjpokeakemlffaaGreatDoorS20
import Derived.Test.YtjpokeakemlffaaGreatDoorS22
import Derived.Test.YtjpokeakemlffaaGreatDoorS23
import Derived.Test.YtjpokeakemlffaaGreatDoorS24
set_option linter.unusedSimpArgs false
set_option linter.unusedVariables false
/-
  Options as bytes: the fields of an option.
-/
namespace Go.Proofs.YtjpokeakemlffaaGreatDoor
open Go.RowKit
def plc (b : Nat) (x : Nat × Nat × Int) : List Value :=
  [.pointer (if x.1 = 0 then some ⟨b, x.2.1, none⟩ else none), .pointer (if x.1 = 1 then some ⟨b, x.2.1, none⟩ else none), .pointer (if x.1 = 2 then some ⟨b, x.2.1, none⟩ else none), .pointer (if x.1 = 3 then some ⟨b, x.2.1, none⟩ else none), .int .i64 x.2.2]
def fieldsOf : Nat → List (Nat × Nat × Int)
  | 1 => [(0, 1, 8)]
  | 2 => [(1, 3, 4), (1, 4, 4), (2, 5, 1), (3, 7, 1)]
  | 3 => [(0, 2, 8), (1, 4, 4)]
  | 4 => [(0, 2, 8)]
  | 5 => [(3, 8, 1), (2, 9, 4), (3, 10, 1), (2, 11, 4), (2, 12, 1), (3, 13, 1)]
  | 6 => [(2, 5, 1)]
  | 7 => [(2, 5, 1)]
  | 8 => [(3, 7, 1)]
  | 9 => [(2, 11, 4)]
  | 10 => [(0, 1, 8)]
  | 11 => [(2, 6, 1)]
  | _ => []
def rowOf (b k : Nat) : Array Value := ((fieldsOf k).flatMap (plc b)).toArray
def kindAt (r : Nat) : Nat := if r = 4 then 1 else if r = 21 then 2 else if r = 30 then 3 else if r = 35 then 4 else if r = 60 then 5 else if r = 65 then 6 else if r = 70 then 7 else if r = 75 then 8 else if r = 80 then 9 else if r = 85 then 10 else 11
def nilA : Array Value := #[.slice none 0 0, .slice none 0 0, .slice none 0 0, .slice none 0 0, .slice none 0 0, .slice none 0 0, .slice none 0 0, .slice none 0 0, .slice none 0 0, .slice none 0 0, .slice none 0 0, .slice none 0 0]
def tblA (g : Nat → Nat) : Array Value := #[.slice none 0 0, .slice (some ⟨g 4, 0, none⟩) 1 1, .slice (some ⟨g 21, 0, none⟩) 4 4, .slice (some ⟨g 30, 0, none⟩) 2 2, .slice (some ⟨g 35, 0, none⟩) 1 1, .slice (some ⟨g 60, 0, none⟩) 6 6, .slice (some ⟨g 65, 0, none⟩) 1 1, .slice (some ⟨g 70, 0, none⟩) 1 1, .slice (some ⟨g 75, 0, none⟩) 1 1, .slice (some ⟨g 80, 0, none⟩) 1 1, .slice (some ⟨g 85, 0, none⟩) 1 1, .slice (some ⟨g 90, 0, none⟩) 1 1]
def rAt (kn : Nat) : Nat := if kn = 1 then 4 else if kn = 2 then 21 else if kn = 3 then 30 else if kn = 4 then 35 else if kn = 5 then 60 else if kn = 6 then 65 else if kn = 7 then 70 else if kn = 8 then 75 else if kn = 9 then 80 else if kn = 10 then 85 else 90
def slA (g : Nat → Nat) (kn : Nat) : Option Addr := if kn = 0 then none else some ⟨g (rAt kn), 0, none⟩
def nA (kn : Nat) : Nat := (fieldsOf kn).length
theorem tblA_at (g : Nat → Nat) {kn : Nat} (h : kn < 12) : (tblA g)[kn]? = some (.slice (slA g kn) (nA kn) (nA kn)) := by
  obtain rfl | rfl | rfl | rfl | rfl | rfl | rfl | rfl | rfl | rfl | rfl | rfl : kn = 0 ∨ kn = 1 ∨ kn = 2 ∨ kn = 3 ∨ kn = 4 ∨ kn = 5 ∨ kn = 6 ∨ kn = 7 ∨ kn = 8 ∨ kn = 9 ∨ kn = 10 ∨ kn = 11 := by omega
  all_goals rfl
theorem index_plc (ga kn : Nat) (h : kn < 12) : ∀ X : World, (Instr.indexAt 311 (.pointer (some ⟨ga, 0, none⟩)) (.int .i64 (kn : Int))).run Tryz.prog X = .ok (.pointer (some ⟨ga, kn, none⟩)) X := fun X => by
  obtain rfl | rfl | rfl | rfl | rfl | rfl | rfl | rfl | rfl | rfl | rfl | rfl : kn = 0 ∨ kn = 1 ∨ kn = 2 ∨ kn = 3 ∨ kn = 4 ∨ kn = 5 ∨ kn = 6 ∨ kn = 7 ∨ kn = 8 ∨ kn = 9 ∨ kn = 10 ∨ kn = 11 := by omega
  all_goals kernel_rfl
theorem plc_end {w W : World} {b : Nat} (g : Nat → Nat) (kn : Nat) (h : kn < 12) (hr : ∀ r ∈ [4, 21, 30, 35, 60, 65, 70, 75, 80, 85, 90], w.heap.size ≤ g r ∧ Bk W (g r) (rowOf b (kindAt r)) 237) (hb : Below w.heap.size w W) {sA : Option Addr} {sn : Nat} (h1 : slA g kn = sA) (h2 : nA kn = sn) :
    (((kn : Int) < 1 ∨ 11 < (kn : Int)) ∧ Ending.returned (.slice sA sn sn) = .returned (.slice none 0 0) ∧ Below w.heap.size w W) ∨
      ∃ (kn' g' : Nat), (kn : Int) = (kn' : Int) ∧ 1 ≤ kn' ∧ kn' ≤ 11 ∧ Ending.returned (.slice sA sn sn) = .returned (.slice (some ⟨g', 0, none⟩) (fieldsOf kn').length (fieldsOf kn').length) ∧ w.heap.size ≤ g' ∧ Bk W g' (rowOf b kn') 237 ∧ Below w.heap.size w W := by
  subst h1 h2
  rcases Nat.eq_zero_or_pos kn with rfl | hp
  · exact .inl ⟨.inl (by omega), rfl, hb⟩
  · have hm : rAt kn ∈ [4, 21, 30, 35, 60, 65, 70, 75, 80, 85, 90] ∧ kindAt (rAt kn) = kn := by
      obtain rfl | rfl | rfl | rfl | rfl | rfl | rfl | rfl | rfl | rfl | rfl : kn = 1 ∨ kn = 2 ∨ kn = 3 ∨ kn = 4 ∨ kn = 5 ∨ kn = 6 ∨ kn = 7 ∨ kn = 8 ∨ kn = 9 ∨ kn = 10 ∨ kn = 11 := by omega
      all_goals decide
    have := hr _ hm.1
    rw [hm.2] at this
    refine .inr ⟨kn, g (rAt kn), rfl, hp, by omega, ?_, this.1, this.2, hb⟩
    unfold slA nA
    rw [if_neg (by omega)]
def obAt (b r : Nat) : Obj := if r = 92 then .cells nilA 311 else .cells (rowOf b (kindAt r)) 237
def valAt (r g : Nat) : Value := if r = 92 then .pointer (some ⟨g, 0, none⟩) else .slice (some ⟨g, 0, none⟩) (fieldsOf (kindAt r)).length (fieldsOf (kindAt r)).length
def dstAt (r : Nat) : Nat := if r = 92 then 3 else r + 4
set_option maxRecDepth 100000 in
set_option maxHeartbeats 6400000 in
theorem places_any (b : Nat) (k : Int) (w : World) (h0 : w.cell? ⟨b, 0, none⟩ = some (.int .i64 k)) :
    Calls Tryz.prog 177 #[.pointer (some ⟨b, 0, none⟩)] w fun e w' => ((k < 1 ∨ 11 < k) ∧ e = .returned (.slice none 0 0) ∧ Below w.heap.size w w') ∨
      ∃ (kn g : Nat), k = (kn : Int) ∧ 1 ≤ kn ∧ kn ≤ 11 ∧ e = .returned (.slice (some ⟨g, 0, none⟩) (fieldsOf kn).length (fieldsOf kn).length) ∧ w.heap.size ≤ g ∧ Bk w' g (rowOf b kn) 237 ∧ Below w.heap.size w w' := by
  have hlt := World.block_lt_of_cell? _ _ h0
  simp only at hlt
  go_enter Tryz.func177, Tryz.ntmps177
  go_wp2_with fail
  simp only [List.append_eq, List.cons_append, List.nil_append]
  -- reg places
  refine wp_region_noPanic ?_
  refine wp_region_held_drew (S := fun X => X.cell? ⟨b, 0, none⟩ = some (.int .i64 k)) (by kernel_rfl) h0 (fun hHeld => ?_)
  refine wpAnyH_pures' (fun d => if d = 3 then 92 else if 4 ≤ d then d - 4 else 1000) [0, 1, 2, 3, 5, 6, 7, 8, 9, 10, 11, 12, 13, 14, 15, 16, 17, 18, 19, 20, 22, 23, 24, 25, 26, 27, 28, 29, 31, 32, 33, 34, 36, 37, 38, 39, 40, 41, 42, 43, 44, 45, 46, 47, 48, 49, 50, 51, 52, 53, 54, 55, 56, 57, 58, 59, 61, 62, 63, 64, 66, 67, 68, 69, 71, 72, 73, 74, 76, 77, 78, 79, 81, 82, 83, 84, 86, 87, 88, 89] 14 (by kernel_rfl) (by kernel_rfl) (by kernel_rfl) (fun _ _ _ _ _ h => h) hHeld (fun K hK => ?_)
  iterate 80 (refine Ys_cons (v := ?_) rfl (Or.inl ⟨by rfl, ?_⟩) ?_; rotate_left; (focus (intro w hSw; go_simp; (try with_reducible rfl))); try simp only [Act.put, List.setIfInBounds_toArray, List.set_cons_zero, List.set_cons_succ, List.getElem_toArray, List.getElem_cons_zero, List.getElem_cons_succ])
  refine hK _ ?_
  clear hK K
  change wpAnyH _ _ _ _ _ _ #[true, true, true, true, false, true, true, true, true, true, true, true, true, true, true, true, true, true, true, true, true, false, true, true, true, true, true, true, true, true, false, true, true, true, true, false, true, true, true, true, true, true, true, true, true, true, true, true, true, true, true, true, true, true, true, true, true, true, true, true, false, true, true, true, true, false, true, true, true, true, false, true, true, true, true, false, true, true, true, true, false, true, true, true, true, false, true, true, true, true, false, false, false, false] _ _
  -- end reg
  refine wpAnyH_allocs (R0 := [4, 21, 30, 35, 60, 65, 70, 75, 80, 85, 90]) (x := 92) (fuel := 2) dstAt (obAt b) valAt (by decide) ?_ (by kernel_rfl) ?_ ?_ ?_ ?_ ?_
  · intro r hr
    simp only [List.mem_append, List.mem_cons, List.not_mem_nil, or_false] at hr
    rcases hr with (rfl | rfl | rfl | rfl | rfl | rfl | rfl | rfl | rfl | rfl | rfl) | rfl <;> exact Nat.lt_of_lt_of_le (by decide : _ < 100) (by simp)
  · intro r hr K a' w' hs hK
    have g := fun s (hs' : s ∉ ([4, 21, 30, 35, 60, 65, 70, 75, 80, 85, 90] ++ [92]).map dstAt) => hs s hs'
    simp only [List.mem_append, List.mem_cons, List.not_mem_nil, or_false] at hr
    rcases hr with (rfl | rfl | rfl | rfl | rfl | rfl | rfl | rfl | rfl | rfl | rfl) | rfl
    · have e7 := g 7 (by decide)
      simp only [Array.getD_eq_getD_getElem?] at e7
      change a'.tmps[7]?.getD undef = Value.agg _ at e7
      refine wpOp_step rfl (fun K' hK' => ?_)
      rw [if_pos (by rfl)]
      clear g hs
      go_simp
      exact hK' _ _ hK
    · have e12 := g 12 (by decide)
      simp only [Array.getD_eq_getD_getElem?] at e12
      change a'.tmps[12]?.getD undef = Value.agg _ at e12
      have e16 := g 16 (by decide)
      simp only [Array.getD_eq_getD_getElem?] at e16
      change a'.tmps[16]?.getD undef = Value.agg _ at e16
      have e20 := g 20 (by decide)
      simp only [Array.getD_eq_getD_getElem?] at e20
      change a'.tmps[20]?.getD undef = Value.agg _ at e20
      have e24 := g 24 (by decide)
      simp only [Array.getD_eq_getD_getElem?] at e24
      change a'.tmps[24]?.getD undef = Value.agg _ at e24
      refine wpOp_step rfl (fun K' hK' => ?_)
      rw [if_pos (by rfl)]
      clear g hs
      go_simp
      exact hK' _ _ hK
    · have e29 := g 29 (by decide)
      simp only [Array.getD_eq_getD_getElem?] at e29
      change a'.tmps[29]?.getD undef = Value.agg _ at e29
      have e33 := g 33 (by decide)
      simp only [Array.getD_eq_getD_getElem?] at e33
      change a'.tmps[33]?.getD undef = Value.agg _ at e33
      refine wpOp_step rfl (fun K' hK' => ?_)
      rw [if_pos (by rfl)]
      clear g hs
      go_simp
      exact hK' _ _ hK
    · have e38 := g 38 (by decide)
      simp only [Array.getD_eq_getD_getElem?] at e38
      change a'.tmps[38]?.getD undef = Value.agg _ at e38
      refine wpOp_step rfl (fun K' hK' => ?_)
      rw [if_pos (by rfl)]
      clear g hs
      go_simp
      exact hK' _ _ hK
    · have e43 := g 43 (by decide)
      simp only [Array.getD_eq_getD_getElem?] at e43
      change a'.tmps[43]?.getD undef = Value.agg _ at e43
      have e47 := g 47 (by decide)
      simp only [Array.getD_eq_getD_getElem?] at e47
      change a'.tmps[47]?.getD undef = Value.agg _ at e47
      have e51 := g 51 (by decide)
      simp only [Array.getD_eq_getD_getElem?] at e51
      change a'.tmps[51]?.getD undef = Value.agg _ at e51
      have e55 := g 55 (by decide)
      simp only [Array.getD_eq_getD_getElem?] at e55
      change a'.tmps[55]?.getD undef = Value.agg _ at e55
      have e59 := g 59 (by decide)
      simp only [Array.getD_eq_getD_getElem?] at e59
      change a'.tmps[59]?.getD undef = Value.agg _ at e59
      have e63 := g 63 (by decide)
      simp only [Array.getD_eq_getD_getElem?] at e63
      change a'.tmps[63]?.getD undef = Value.agg _ at e63
      refine wpOp_step rfl (fun K' hK' => ?_)
      rw [if_pos (by rfl)]
      clear g hs
      go_simp
      exact hK' _ _ hK
    · have e68 := g 68 (by decide)
      simp only [Array.getD_eq_getD_getElem?] at e68
      change a'.tmps[68]?.getD undef = Value.agg _ at e68
      refine wpOp_step rfl (fun K' hK' => ?_)
      rw [if_pos (by rfl)]
      clear g hs
      go_simp
      exact hK' _ _ hK
    · have e73 := g 73 (by decide)
      simp only [Array.getD_eq_getD_getElem?] at e73
      change a'.tmps[73]?.getD undef = Value.agg _ at e73
      refine wpOp_step rfl (fun K' hK' => ?_)
      rw [if_pos (by rfl)]
      clear g hs
      go_simp
      exact hK' _ _ hK
    · have e78 := g 78 (by decide)
      simp only [Array.getD_eq_getD_getElem?] at e78
      change a'.tmps[78]?.getD undef = Value.agg _ at e78
      refine wpOp_step rfl (fun K' hK' => ?_)
      rw [if_pos (by rfl)]
      clear g hs
      go_simp
      exact hK' _ _ hK
    · have e83 := g 83 (by decide)
      simp only [Array.getD_eq_getD_getElem?] at e83
      change a'.tmps[83]?.getD undef = Value.agg _ at e83
      refine wpOp_step rfl (fun K' hK' => ?_)
      rw [if_pos (by rfl)]
      clear g hs
      go_simp
      exact hK' _ _ hK
    · have e88 := g 88 (by decide)
      simp only [Array.getD_eq_getD_getElem?] at e88
      change a'.tmps[88]?.getD undef = Value.agg _ at e88
      refine wpOp_step rfl (fun K' hK' => ?_)
      rw [if_pos (by rfl)]
      clear g hs
      go_simp
      exact hK' _ _ hK
    · have e93 := g 93 (by decide)
      simp only [Array.getD_eq_getD_getElem?] at e93
      change a'.tmps[93]?.getD undef = Value.agg _ at e93
      refine wpOp_step rfl (fun K' hK' => ?_)
      rw [if_pos (by rfl)]
      clear g hs
      go_simp
      exact hK' _ _ hK
    · refine wpOp_step rfl (fun K' hK' => ?_)
      rw [if_pos (by rfl)]
      clear g hs
      go_simp
      exact hK' _ _ hK
  · intro w' o h
    rw [World.cell?_alloc_lt _ _ _ (World.block_lt_of_cell? _ _ h)]
    exact h
  · intro g w' hg hb hS
    have hga := hg 92 (by simp)
    simp only [obAt, if_true] at hga
    have hgl := fun r hr => (hg r (List.mem_append_left _ hr))
    have hgz : w.heap.size ≤ g 92 := hga.1
    have HG := Lib.hid hgl
    have HB := Keep.mk hb
    clear hg hgl hb
    obtain ⟨ga, hgae⟩ : ∃ ga, g 92 = ga := ⟨_, rfl⟩
    rw [hgae] at hga hgz
    have HA : Keep (Bk w' ga nilA 311) := ⟨⟨hga.2⟩⟩
    clear hga
    simp only [List.cons_append, List.nil_append, List.foldl_cons, List.foldl_nil, dstAt, valAt, kindAt, fieldsOf, List.length_cons, List.length_nil, Nat.reduceEqDiff, Nat.reduceAdd, if_true, if_false]
    simp only [Act.put, List.setIfInBounds_toArray, List.set_cons_zero, List.set_cons_succ]
    rw [hgae]
    refine wpAnyH_take (i := 91) (v := ?_) rfl (by kernel_rfl) (by kernel_rfl) (by kernel_rfl) (fun _ _ _ h => h) (Or.inl ⟨by rfl, ?_⟩) hS ?_
    rotate_left
    · intro w hSw; go_simp; (try with_reducible rfl)
    try simp only [Act.put, List.setIfInBounds_toArray, List.set_cons_zero, List.set_cons_succ, List.getElem_toArray, List.getElem_cons_zero, List.getElem_cons_succ]
    refine wpAnyH_ready (rs := [93]) (by kernel_rfl) (by simp) ?_
    refine AllReadyH.cons rfl (fun K hK => ?_) AllReadyH.nil
    refine step_store_row rfl 311 (.tmp 3) (.tmp 95) rfl ga (tblA g) rfl rfl 311 nilA HA.out.eq (by kernel_rfl) rfl (by simp [tblA, Value.oneCell']) ?_
    have FR := Fz.row w' ga (tblA g)
    have hTW : Bk (w'.setRow ga (tblA g)) ga (tblA g) 311 := ⟨setRow_heap _ _ _ _ _ _ HA.out.eq⟩
    have hKR : ∀ r ∈ [4, 21, 30, 35, 60, 65, 70, 75, 80, 85, 90], w.heap.size ≤ g r ∧ Bk (w'.setRow ga (tblA g)) (g r) (rowOf b (kindAt r)) 237 := fun r hr => by
      obtain ⟨q1, q2⟩ := HG.out r hr
      have q3 : Bk w' (g r) (rowOf b (kindAt r)) 237 := ⟨by rw [q2]; unfold obAt; rw [if_neg (by simp at hr; omega)]⟩
      exact ⟨q1, q3.fz FR (by simp; exact fun e => HA.out.ne_ty q3 (by decide) e.symm)⟩
    have hKL : Below w.heap.size w (w'.setRow ga (tblA g)) := ((Below.refl _ w).drew.trans (show Below w.heap.size w.drew w' from HB.out)).trans (FR.toBelow HB.out.size (by simp; exact hgz))
    have hS2 : (w'.setRow ga (tblA g)).cell? ⟨b, 0, none⟩ = some (.int .i64 k) := (World.cell?_of_block (FR.block b (Nat.lt_of_lt_of_le hlt HB.out.size) (by simp; omega))).trans hS
    obtain ⟨W, hWe⟩ : ∃ W, w'.setRow ga (tblA g) = W := ⟨_, rfl⟩
    rw [hWe] at hTW hKR hKL hS2 ⊢
    clear hWe FR
    have TW : Keep (Bk W ga (tblA g) 311) := ⟨hTW⟩
    have KR : Hid (∀ r ∈ [4, 21, 30, 35, 60, 65, 70, 75, 80, 85, 90], w.heap.size ≤ g r ∧ Bk W (g r) (rowOf b (kindAt r)) 237) := hKR
    have KL : Keep (Below w.heap.size w W) := ⟨hKL⟩
    clear hTW hKR hKL
    refine hK.out _ _ hS2 (fun hHeld2 => ?_)
    clear hK K hHeld2
    try simp only [Act.put, List.setIfInBounds_toArray, List.set_cons_zero, List.set_cons_succ, List.getElem_toArray, List.getElem_cons_zero, List.getElem_cons_succ]
    refine wpAnyH_done (by kernel_rfl) ?_ _
    refine NoPanic.normal ?_
    have e0 : W.cell? ⟨b, 0, none⟩ = some (.int .i64 k) := hS2
    clear hS2 hHeld HG HB HA hS h0
    rcases Int.lt_or_le k 0 with hk | hk
    · go_wp2_with fail
      go_ret
      exact .inl ⟨.inl (by omega), rfl, KL.out⟩
    rcases Int.lt_or_le 11 k with hk2 | hk2
    · go_wp2_with fail
      go_ret
      exact .inl ⟨.inr hk2, rfl, KL.out⟩
    obtain ⟨kn, rfl⟩ := Int.eq_ofNat_of_zero_le hk
    have hkn : kn < 12 := by omega
    have ix := index_plc ga kn hkn
    have e1 : W.cell? ⟨ga, kn, none⟩ = some (.slice (slA g kn) (nA kn) (nA kn)) := (TW.out.c kn).trans (tblA_at g hkn)
    have KN := Keep.mk hkn
    have hk3 : ((kn : Nat) : Int) ≤ 11 := hk2
    obtain ⟨sA, hsA⟩ : ∃ sA, slA g kn = sA := ⟨_, rfl⟩
    obtain ⟨sn, hsn⟩ : ∃ sn, nA kn = sn := ⟨_, rfl⟩
    rw [hsA, hsn] at e1
    have HSA := Keep.mk hsA
    have HSN := Keep.mk hsn
    clear hk2 hkn hsA hsn
    go_wp2_with fail
    go_ret
    exact plc_end (w := w) g kn KN.out KR.out KL.out HSA.out HSN.out
  · intro g w' hg hb hS
    have hgl := fun r hr => hg r hr
    have HG := Lib.hid hgl
    have HB := Keep.mk hb
    clear hg hgl hb
    simp only [List.cons_append, List.nil_append, List.foldl_cons, List.foldl_nil, dstAt, valAt, kindAt, fieldsOf, List.length_cons, List.length_nil, Nat.reduceEqDiff, Nat.reduceAdd, if_true, if_false]
    simp only [Act.put, List.setIfInBounds_toArray, List.set_cons_zero, List.set_cons_succ]
    refine wpAnyH_take (i := 91) (v := ?_) rfl (by kernel_rfl) (by kernel_rfl) (by kernel_rfl) (fun _ _ _ h => h) (Or.inl ⟨by rfl, ?_⟩) hS ?_
    rotate_left
    · intro w hSw; go_simp; (try with_reducible rfl)
    try simp only [Act.put, List.setIfInBounds_toArray, List.set_cons_zero, List.set_cons_succ, List.getElem_toArray, List.getElem_cons_zero, List.getElem_cons_succ]
    refine wpAnyH_ready (rs := [92]) (by kernel_rfl) (by simp) ?_
    refine AllReadyH.cons rfl (fun K hK => ?_) AllReadyH.nil
    go_simp
    show K _ (w'.alloc (.cells nilA 311))
    have HA : Keep (Bk (w'.alloc (.cells nilA 311)) w'.heap.size nilA 311) := ⟨Bk.new _ _ _⟩
    have hS1 : (w'.alloc (.cells nilA 311)).cell? ⟨b, 0, none⟩ = some (.int .i64 k) := (World.cell?_alloc_lt _ _ _ (World.block_lt_of_cell? _ _ hS)).trans hS
    refine hK.out _ _ hS1 (fun hHeld1 => ?_)
    clear hK K hHeld1
    try simp only [Act.put, List.setIfInBounds_toArray, List.set_cons_zero, List.set_cons_succ, List.getElem_toArray, List.getElem_cons_zero, List.getElem_cons_succ]
    refine wpAnyH_ready (rs := [93]) (by kernel_rfl) (by simp) ?_
    refine AllReadyH.cons rfl (fun K hK => ?_) AllReadyH.nil
    refine step_store_row rfl 311 (.tmp 3) (.tmp 95) rfl w'.heap.size (tblA g) rfl rfl 311 nilA HA.out.eq (by kernel_rfl) rfl (by simp [tblA, Value.oneCell']) ?_
    have FR := (Fz.alloc w' (.cells nilA 311)).trans (Fz.row (w'.alloc (.cells nilA 311)) w'.heap.size (tblA g))
    have hTW : Bk ((w'.alloc (.cells nilA 311)).setRow w'.heap.size (tblA g)) w'.heap.size (tblA g) 311 := ⟨setRow_heap _ _ _ _ _ _ HA.out.eq⟩
    have hKR : ∀ r ∈ [4, 21, 30, 35, 60, 65, 70, 75, 80, 85, 90], w.heap.size ≤ g r ∧ Bk ((w'.alloc (.cells nilA 311)).setRow w'.heap.size (tblA g)) (g r) (rowOf b (kindAt r)) 237 := fun r hr => by
      obtain ⟨q1, q2⟩ := HG.out r hr
      have q3 : Bk w' (g r) (rowOf b (kindAt r)) 237 := ⟨by rw [q2]; unfold obAt; rw [if_neg (by simp at hr; omega)]⟩
      exact ⟨q1, q3.fz FR (by simp; have := q3.lt; omega)⟩
    have hKL : Below w.heap.size w ((w'.alloc (.cells nilA 311)).setRow w'.heap.size (tblA g)) := ((Below.refl _ w).drew.trans (show Below w.heap.size w.drew w' from HB.out)).trans (FR.toBelow HB.out.size (by simp; exact HB.out.size))
    have hS2 : ((w'.alloc (.cells nilA 311)).setRow w'.heap.size (tblA g)).cell? ⟨b, 0, none⟩ = some (.int .i64 k) := (World.cell?_of_block (FR.block b (World.block_lt_of_cell? _ _ hS) (by simp; have := World.block_lt_of_cell? _ _ hS; simp at this; omega))).trans hS
    obtain ⟨ga, hgae⟩ : ∃ ga, w'.heap.size = ga := ⟨_, rfl⟩
    obtain ⟨W, hWe⟩ : ∃ W, (w'.alloc (.cells nilA 311)).setRow w'.heap.size (tblA g) = W := ⟨_, rfl⟩
    rw [hWe] at hTW hKR hKL hS2 ⊢
    rw [hgae] at hTW ⊢
    clear hWe FR hS1 hgae
    have TW : Keep (Bk W ga (tblA g) 311) := ⟨hTW⟩
    have KR : Hid (∀ r ∈ [4, 21, 30, 35, 60, 65, 70, 75, 80, 85, 90], w.heap.size ≤ g r ∧ Bk W (g r) (rowOf b (kindAt r)) 237) := hKR
    have KL : Keep (Below w.heap.size w W) := ⟨hKL⟩
    clear hTW hKR hKL
    refine hK.out _ _ hS2 (fun hHeld2 => ?_)
    clear hK K hHeld2
    try simp only [Act.put, List.setIfInBounds_toArray, List.set_cons_zero, List.set_cons_succ, List.getElem_toArray, List.getElem_cons_zero, List.getElem_cons_succ]
    refine wpAnyH_done (by kernel_rfl) ?_ _
    refine NoPanic.normal ?_
    have e0 : W.cell? ⟨b, 0, none⟩ = some (.int .i64 k) := hS2
    clear hS2 hHeld HG HB HA hS h0
    rcases Int.lt_or_le k 0 with hk | hk
    · go_wp2_with fail
      go_ret
      exact .inl ⟨.inl (by omega), rfl, KL.out⟩
    rcases Int.lt_or_le 11 k with hk2 | hk2
    · go_wp2_with fail
      go_ret
      exact .inl ⟨.inr hk2, rfl, KL.out⟩
    obtain ⟨kn, rfl⟩ := Int.eq_ofNat_of_zero_le hk
    have hkn : kn < 12 := by omega
    have ix := index_plc ga kn hkn
    have e1 : W.cell? ⟨ga, kn, none⟩ = some (.slice (slA g kn) (nA kn) (nA kn)) := (TW.out.c kn).trans (tblA_at g hkn)
    have KN := Keep.mk hkn
    have hk3 : ((kn : Nat) : Int) ≤ 11 := hk2
    obtain ⟨sA, hsA⟩ : ∃ sA, slA g kn = sA := ⟨_, rfl⟩
    obtain ⟨sn, hsn⟩ : ∃ sn, nA kn = sn := ⟨_, rfl⟩
    rw [hsA, hsn] at e1
    have HSA := Keep.mk hsA
    have HSN := Keep.mk hsn
    clear hk2 hkn hsA hsn
    go_wp2_with fail
    go_ret
    exact plc_end (w := w) g kn KN.out KR.out KL.out HSA.out HSN.out
  · exact hHeld
end Go.Proofs.YtjpokeakemlffaaGreatDoor
