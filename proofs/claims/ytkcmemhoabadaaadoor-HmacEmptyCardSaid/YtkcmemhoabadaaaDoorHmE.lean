/-
  Layer 4: the law HmacEmpty, walked.
-/
import Derived.Deep.MidRow
import Derived.Deep.RegionHeld3
import Derived.Test.YtkcmemhoabadaaaDoorHmK
namespace Go.Proofs.YtkcmemhoabadaaaDoor
open Go.RowKit

theorem eqCs_run (cs : List Value) (D : List Int) (h : D.map (Value.int .u8) = cs) (hl : D.length = 32) (w : World) : (binOp .eql 24 (.agg cs.toArray) (.agg cs.toArray)).run Tryd.prog w = .ok (.bool true) w := by
  subst h
  exact run_eql_arr 24 5 32 .u8 Tryd.underlying24 Tryd.underlying5 infoB1 D hl w
theorem eqCsIn_run (cs : List Value) (D : List Int) (h : D.map (Value.int .u8) = cs) (hl : D.length = 32) (w : World) : (Op.equalIn 10000 24 (.agg cs.toArray) (.agg cs.toArray)).run Tryd.prog w = .ok true w := by
  subst h
  rw [show (10000 : Nat) = 9998 + 1 + 1 from rfl]
  exact run_equalIn_arr 9998 24 5 32 .u8 Tryd.underlying24 Tryd.underlying5 infoB1 D hl w
theorem range_keep {W W' : World} {g : Nat} {cs : List Value} (h : W.rangeAt g 0 cs) (hg : g < W.heap.size) (hb : Below W.heap.size W W') : W'.rangeAt g 0 cs := fun j v hv => (hb.cell (p := ⟨g, 0 + j, none⟩) hg).trans (h j v hv)

/-- The 32 cells of a block. -/
def rowAt (W : World) (g : Nat) : Array Value := ((List.range 32).map fun i => (W.cell? ⟨g, i, none⟩).getD undef).toArray
def RowIn (W : World) (g : Nat) : Prop := ∃ cs : List Value, cs.length = 32 ∧ W.rangeAt g 0 cs
theorem rowAt_eq {W : World} {g : Nat} {cs : List Value} (h : W.rangeAt g 0 cs) (hl : cs.length = 32) : rowAt W g = cs.toArray := by
  rw [rowAt]
  congr 1
  apply List.ext_getElem
  · simp [hl]
  · intro i h1 h2
    have := h i _ (List.getElem?_eq_getElem h2)
    rw [Nat.zero_add] at this
    simp [this]
theorem ld_rule (W : World) (g : Nat) (h : RowIn W g) : (Instr.loadAt 24 (.pointer (some ⟨g, 0, none⟩))).run Tryd.prog W = .ok (.agg (rowAt W g)) W := by
  obtain ⟨cs, hl, hr⟩ := h
  rw [rowAt_eq hr hl]
  exact run_loadAt_mid W g 0 24 cs _ hr Tryd.underlying24 rfl (by rw [hl]; exact infoA32)
theorem both_of {W : World} {g : Nat} {cs : List Value} (h : W.rangeAt g 0 cs) (hl : cs.length = 32) : RowIn W g ∧ rowAt W g = cs.toArray := ⟨⟨cs, hl, h⟩, rowAt_eq h hl⟩
theorem keepS {w W : World} {g : Nat} {cs : List Value} (h : w.rangeAt g 0 cs) (hg : g < w.heap.size) (hb : Below w.heap.size w W) : Below w.heap.size w W ∧ W.rangeAt g 0 cs := ⟨hb, range_keep h hg hb⟩

set_option maxRecDepth 100000 in
set_option maxHeartbeats 2000000 in
theorem hmacEmpty_low (A : Option Addr) (n c : Nat) (l : List Int) (B : Option Addr) (m d : Nat) (t : List Int) (w : World) (ha : Arg w 1 encB A n c l) (hl : ∀ z ∈ l, 0 ≤ z ∧ z ≤ 255) (hb : Arg w 1 encB B m d t) (ht : ∀ z ∈ t, 0 ≤ z ∧ z ≤ 255) (h64 : n < 64) (h300 : m ≤ 300) :
    Calls Tryd.prog 11 #[.slice A n c, .slice B m d] w fun e w' => e = .returned (.bool true) ∧ Below w.heap.size w w' := by
  have HA := Keep.mk ha
  have HBt := Keep.mk hb
  have HLb := Lib.hid hl
  have HTb := Lib.hid ht
  have hc1 := ha.hcap
  have hc2 := hb.hcap
  have HLl := Keep.mk ha.hlen
  have HTl := Keep.mk hb.hlen
  clear ha hl hb ht
  go_enter Tryd.func11, Tryd.ntmps11
  go_wp2_with (go_at_call 22; refine (wakes04_any _).mono ?_; rintro e w1 ⟨rfl, hb1⟩; have HB1 := Keep.mk hb1; have HA1 := Keep.mk (HA.out.below hb1); have HT1 := Keep.mk (HBt.out.below hb1); clear hb1)
  refine (hm_new A n c l w1 _ 1 [⟨B, m, d, t⟩] t rfl rfl HA1.out HLb.out (by omega) (PcsOk.one HT1.out) (glue_one _ _ _ _) (by omega) (by rw [HTl.out]; omega) HTb.out).mono ?_
  rintro e w4 ⟨rfl, hb4⟩
  obtain ⟨D, hD⟩ : ∃ D, hmB l t = D := ⟨_, rfl⟩
  have hDl : D.length = 32 := by rw [← hD, hmB_length]
  rw [hD]
  have HD := Keep.mk hD
  have HDl := Keep.mk hDl
  have HB4 := Keep.mk (HB1.out.trans (hb4.mono HB1.out.size))
  have HA4 := Keep.mk (HA1.out.below hb4)
  have HT4 := Keep.mk (HT1.out.below hb4)
  have H32 : Hid ((Tryd.prog.info? 24).map (·.size) = some (bArr D).size) := Lib.hid (by rw [bArr_size, hDl]; exact infoA32)
  have HSz : Hid ((bArr (List.replicate 32 0)).size = (bArr D).size) := Lib.hid (by rw [bArr_size, bArr_size, hDl]; rfl)
  have hA : Keep ((w4.alloc (.cells (bArr (List.replicate 32 0)) 24)).heap[w4.heap.size]? = some (.cells (bArr (List.replicate 32 0)) 24 (0, 0))) := ⟨heap_alloc_new _ _⟩
  have hB : ((w4.alloc (.cells (bArr (List.replicate 32 0)) 24)).setRow w4.heap.size (bArr D)).heap[w4.heap.size]? = some (.cells (bArr D) 24 (0, 0)) := setRow_heap _ _ _ _ _ _ hA.out
  have hb5 : Below w4.heap.size w4 ((w4.alloc (.cells (bArr (List.replicate 32 0)) 24)).setRow w4.heap.size (bArr D)) := below_setRow ((Below.refl _ w4).alloc (Nat.le_refl _) _) (Nat.le_refl _) _
  obtain ⟨W5, hW5⟩ : ∃ W5, (w4.alloc (.cells (bArr (List.replicate 32 0)) 24)).setRow w4.heap.size (bArr D) = W5 := ⟨_, rfl⟩
  have HW5 := Keep.mk hW5
  rw [hW5] at hB hb5
  have HRow := Keep.mk hB
  have HA5 := Keep.mk (HA4.out.below hb5)
  have HT5 := Keep.mk (HT4.out.below hb5)
  have HB5 := Keep.mk (HB4.out.trans (hb5.mono HB4.out.size))
  clear hD hDl hb4 HA1 HT1 HB1 hB hb5 hW5 HA4 HT4 HB4
  go_wp2_with (first
    | (refine wpList_store_row rfl 24 _ _ rfl w4.heap.size 24 (bArr (List.replicate 32 0)) (bArr D) rfl rfl hA.out H32.out HSz.out (bArr_one _) ?_
       change wpList _ _ _ _ _ ((w4.alloc (.cells (bArr (List.replicate 32 0)) 24)).setRow w4.heap.size (bArr D))
       rw [HW5.out])
    | (refine wpList_append_came rfl (.tmp 21) (.tmp 22) 22 rfl Tryd.underlying22 W5.heap.size (.slice (some ⟨W5.heap.size, 0, none⟩) 0 0) 0 [] rfl (World.ownsRow_lit W5 #[] 0 (Nat.le_refl _) (by decide) rfl) A n c l rfl (HA5.out.alloc _) (by omega) (by omega) (by simp) W5 ((Below.refl _ W5).alloc (Nat.le_refl _) _) ?_
       intro v6 w6 hown6 hb6
       rw [List.nil_append, Nat.zero_add] at hown6
       have HO6 := Keep.mk hown6
       have HB6 := Keep.mk hb6
       clear hown6 hb6)
    | (refine wpList_append_bytes rfl (.tmp 23) (.tmp 24) 22 rfl Tryd.underlying22 W5.heap.size _ n _ rfl (HO6.out.alloc _) w6.heap.size 1 [0] rfl 5 (heap_alloc_new _ _) rfl (by omega) (by omega) ?_ ?_
       · have := HB6.out.size; simp; omega
       intro v7 w7 hown7 hgr7 hat7
       have hb7 : Below W5.heap.size W5 w7 := (HB6.out.alloc HB6.out.size _).grown hgr7 (by have := HB6.out.size; simp; omega) (fun j e => (HO6.out.lt j e).1)
       obtain ⟨A7, c7, rfl, ha7⟩ := Arg.of_own (by decide) encB_length hown7
       have HK7 := Keep.mk ha7
       have HB7 := Keep.mk (HB5.out.trans (hb7.mono HB5.out.size))
       have HA7 := Keep.mk (HA5.out.below hb7)
       have HT7 := Keep.mk (HT5.out.below hb7)
       have HRow7 := Keep.mk ((hb7.block _ (lt_of_block HRow.out)).trans HRow.out)
       clear hgr7 hat7 hown7 hb7 ha7)
    | fail)
  obtain ⟨cs, hcs⟩ : ∃ cs, D.map (Value.int .u8) = cs := ⟨_, rfl⟩
  have hrng : w7.rangeAt w4.heap.size 0 cs := fun j v hv => by
    rw [Nat.zero_add, cell_of_row w7 _ _ _ _ _ HRow7.out, ← hv, ← hcs]
    simp [bArr]
  have HRng := Keep.mk hrng
  have HGlt := Keep.mk (lt_of_block HRow7.out)
  have HCs : Keep (bArr D = cs.toArray) := ⟨by rw [← hcs]; rfl⟩
  have hcl : cs.length = 32 := by rw [← hcs, List.length_map, HDl.out]
  have hOne : ∀ v ∈ cs, v.oneCell' = true := fun v hv => by rw [← hcs] at hv; obtain ⟨z, _, rfl⟩ := List.mem_map.1 hv; rfl
  have hI : (Tryd.prog.info? 24).map (·.size) = some cs.length := by rw [hcl]; exact infoA32
  have hU : Tryd.prog.underlying 24 = some (.array 32 5) := Tryd.underlying24
  have hm := eqGuard32
  have hEq := eqCs_run cs D hcs HDl.out
  have hEq2 := eqCsIn_run cs D hcs HDl.out
  have hz1 : hmB (l ++ [0]) t = hmB l t := hmB_zeros l t 1 (by rw [HLl.out]; omega)
  have HZ1 := Keep.mk hz1
  have HLB1 : Hid (∀ z ∈ l ++ [0], 0 ≤ z ∧ z ≤ 255) := Lib.hid fun z hz => by
    rcases List.mem_append.1 hz with h | h
    · exact HLb.out z h
    · simp only [List.mem_singleton] at h; omega
  clear hcs hrng hz1 HRow HRow7 H32 HSz hA HW5 HO6 HB6 HA5 HT5 HB5
  have hge : ((64 : Int) ≤ (n : Int)) = False := by simp; omega
  have HCl := Keep.mk hcl
  have HU := Keep.mk hU
  have HI := Keep.mk hI
  clear hU hI hOne hcl
  refine wp_region_noPanic ?_
  refine wp_region_held_drew (S := fun W => Below w7.heap.size w7 W ∧ W.rangeAt w4.heap.size 0 cs) (by kernel_rfl) (keepS HRng.out HGlt.out (Below.refl _ _).drew) (fun hHeld => ?_)
  refine wpAnyH_take (i := 0) (v := ?_) rfl (by kernel_rfl) (by kernel_rfl) (by kernel_rfl) (fun _ _ _ h => h) (Or.inl ⟨by rfl, ?_⟩) (by assumption) ?_
  rotate_left
  · intro w hSw; go_simp; (try with_reducible rfl)
  try simp only [Act.put, List.setIfInBounds_toArray, List.set_cons_zero, List.set_cons_succ, List.getElem_toArray, List.getElem_cons_zero, List.getElem_cons_succ]
  refine wpAnyH_take (i := 1) (v := ?_) rfl (by kernel_rfl) (by kernel_rfl) (by kernel_rfl) (fun _ _ _ h => h) (Or.inl ⟨by rfl, ?_⟩) (by assumption) ?_
  rotate_left
  · intro w hSw; go_simp; (try with_reducible rfl)
  try simp only [Act.put, List.setIfInBounds_toArray, List.set_cons_zero, List.set_cons_succ, List.getElem_toArray, List.getElem_cons_zero, List.getElem_cons_succ]
  refine wpAnyH_take (i := 5) rfl (by kernel_rfl) (by kernel_rfl) (by kernel_rfl) (fun _ _ _ h => h) (yieldsIf_load_mid (by rfl) _ _ rfl _ _ rfl _ _ (fun w h => h.2) HU.out rfl HI.out) (by assumption) ?_
  try simp only [Act.put, List.setIfInBounds_toArray, List.set_cons_zero, List.set_cons_succ, List.getElem_toArray, List.getElem_cons_zero, List.getElem_cons_succ]
  refine wpAnyH_ready (rs := [2]) (by kernel_rfl) (by simp) ?_
  refine AllReadyH.cons rfl (fun K hK => ?_) AllReadyH.nil
  go_simp
  refine hK.out _ _ ?_ (fun hHeld => ?_)
  · exact keepS HRng.out HGlt.out ((Below.refl _ w7).alloc (Nat.le_refl _) _).drew
  clear hK K
  try simp only [Act.put, List.setIfInBounds_toArray, List.set_cons_zero, List.set_cons_succ, List.getElem_toArray, List.getElem_cons_zero, List.getElem_cons_succ]
  refine wpAnyH_ready (rs := [3]) (by kernel_rfl) (by simp) ?_
  refine AllReadyH.cons rfl (fun K hK => ?_) AllReadyH.nil
  go_simp
  refine hK.out _ _ ?_ (fun hHeld => ?_)
  · exact keepS HRng.out HGlt.out (((Below.refl _ w7).alloc (Nat.le_refl _) _).alloc (by simp) _).drew
  clear hK K
  try simp only [Act.put, List.setIfInBounds_toArray, List.set_cons_zero, List.set_cons_succ, List.getElem_toArray, List.getElem_cons_zero, List.getElem_cons_succ]
  refine wpAnyH_ready (rs := [4]) (by kernel_rfl) (by simp) ?_
  refine AllReadyH.cons rfl (fun K hK => ?_) AllReadyH.nil
  go_simp
  refine (hmOf_any A n c l _ 3 3 [⟨none, 0, 0, []⟩, ⟨B, m, d, t⟩, ⟨some ⟨w7.heap.size, 0, none⟩, 0, 0, []⟩] _ (HA7.out.below (((Below.refl _ w7).alloc (Nat.le_refl _) _).alloc (by simp) _).drew) HLb.out (by omega) (Arg.new' (w7.alloc _) (w7.heap.size + 1) (World.size_alloc _ _) 22 (0, 0) 1 encP encP_length [⟨none, 0, 0, []⟩, ⟨B, m, d, t⟩, ⟨some ⟨w7.heap.size, 0, none⟩, 0, 0, []⟩] 3 rfl (by decide)).drew ?ok (by omega) (by rw [show glue [(⟨none, 0, 0, []⟩ : Pc), ⟨B, m, d, t⟩, ⟨some ⟨w7.heap.size, 0, none⟩, 0, 0, []⟩] = t by simp [glue], HTl.out]; omega) (by rw [show glue [(⟨none, 0, 0, []⟩ : Pc), ⟨B, m, d, t⟩, ⟨some ⟨w7.heap.size, 0, none⟩, 0, 0, []⟩] = t by simp [glue]]; exact HTb.out)).mono ?_
  case ok =>
    intro p hp
    simp only [List.mem_cons, List.not_mem_nil, or_false] at hp
    rcases hp with rfl | rfl | rfl
    · exact Arg.empty _ _ _ _
    · exact HT7.out.below (((Below.refl _ w7).alloc (Nat.le_refl _) _).alloc (by simp) _).drew
    · exact Arg.empty _ _ _ _
  rintro e w8 ⟨rfl, hb8⟩
  rw [show glue [(⟨none, 0, 0, []⟩ : Pc), ⟨B, m, d, t⟩, ⟨some ⟨w7.heap.size, 0, none⟩, 0, 0, []⟩] = t by simp [glue], HD.out, HCs.out]
  have HW8 : Below w7.heap.size w7 w8 := (((Below.refl _ w7).alloc (Nat.le_refl _) _).alloc (by simp) _).drew.trans (hb8.mono (by simp; omega))
  refine hK.out _ _ ?_ (fun hHeld => ?_)
  · exact keepS HRng.out HGlt.out HW8
  clear hK K
  try simp only [Act.put, List.setIfInBounds_toArray, List.set_cons_zero, List.set_cons_succ, List.getElem_toArray, List.getElem_cons_zero, List.getElem_cons_succ]
  refine wpAnyH_take (i := 6) (v := ?_) rfl (by kernel_rfl) (by kernel_rfl) (by kernel_rfl) (fun _ _ _ h => h) (Or.inl ⟨by rfl, ?_⟩) (by assumption) ?_
  rotate_left
  · intro w hSw; go_simp; (try with_reducible rfl)
  try simp only [Act.put, List.setIfInBounds_toArray, List.set_cons_zero, List.set_cons_succ, List.getElem_toArray, List.getElem_cons_zero, List.getElem_cons_succ]
  refine wpAnyH_take (i := 7) (v := ?_) rfl (by kernel_rfl) (by kernel_rfl) (by kernel_rfl) (fun _ _ _ h => h) (Or.inl ⟨by rfl, ?_⟩) (by assumption) ?_
  rotate_left
  · intro w hSw; go_simp; (try with_reducible rfl)
  try simp only [Act.put, List.setIfInBounds_toArray, List.set_cons_zero, List.set_cons_succ, List.getElem_toArray, List.getElem_cons_zero, List.getElem_cons_succ]
  refine wpAnyH_take (i := 8) (v := ?_) rfl (by kernel_rfl) (by kernel_rfl) (by kernel_rfl) (fun _ _ _ h => h) (Or.inl ⟨by rfl, ?_⟩) (by assumption) ?_
  rotate_left
  · intro w hSw; go_simp; (try with_reducible rfl)
  try simp only [Act.put, List.setIfInBounds_toArray, List.set_cons_zero, List.set_cons_succ, List.getElem_toArray, List.getElem_cons_zero, List.getElem_cons_succ]
  refine wpAnyH_take (i := 9) (v := ?_) rfl (by kernel_rfl) (by kernel_rfl) (by kernel_rfl) (fun _ _ _ h => h) (Or.inl ⟨by rfl, ?_⟩) (by assumption) ?_
  rotate_left
  · intro w hSw; go_simp; (try with_reducible rfl)
  try simp only [Act.put, List.setIfInBounds_toArray, List.set_cons_zero, List.set_cons_succ, List.getElem_toArray, List.getElem_cons_zero, List.getElem_cons_succ]
  refine wpAnyH_take (i := 10) (v := ?_) rfl (by kernel_rfl) (by kernel_rfl) (by kernel_rfl) (fun _ _ _ h => h) (Or.inl ⟨by rfl, ?_⟩) (by assumption) ?_
  rotate_left
  · intro w hSw; go_simp; (try with_reducible rfl)
  try simp only [Act.put, List.setIfInBounds_toArray, List.set_cons_zero, List.set_cons_succ, List.getElem_toArray, List.getElem_cons_zero, List.getElem_cons_succ]
  refine wpAnyH_take (i := 11) (v := ?_) rfl (by kernel_rfl) (by kernel_rfl) (by kernel_rfl) (fun _ _ _ h => h) (Or.inl ⟨by rfl, ?_⟩) (by assumption) ?_
  rotate_left
  · intro w hSw; go_simp; (try with_reducible rfl)
  try simp only [Act.put, List.setIfInBounds_toArray, List.set_cons_zero, List.set_cons_succ, List.getElem_toArray, List.getElem_cons_zero, List.getElem_cons_succ]
  refine wpAnyH_take (i := 12) (v := ?_) rfl (by kernel_rfl) (by kernel_rfl) (by kernel_rfl) (fun _ _ _ h => h) (Or.inl ⟨by rfl, ?_⟩) (by assumption) ?_
  rotate_left
  · intro w hSw; go_simp; (try with_reducible rfl)
  try simp only [Act.put, List.setIfInBounds_toArray, List.set_cons_zero, List.set_cons_succ, List.getElem_toArray, List.getElem_cons_zero, List.getElem_cons_succ]
  refine wpAnyH_take (i := 13) (v := ?_) rfl (by kernel_rfl) (by kernel_rfl) (by kernel_rfl) (fun _ _ _ h => h) (Or.inl ⟨by rfl, ?_⟩) (by assumption) ?_
  rotate_left
  · intro w hSw; go_simp; (try with_reducible rfl)
  try simp only [Act.put, List.setIfInBounds_toArray, List.set_cons_zero, List.set_cons_succ, List.getElem_toArray, List.getElem_cons_zero, List.getElem_cons_succ]
  refine wpAnyH_take (i := 16) rfl (by kernel_rfl) (by kernel_rfl) (by kernel_rfl) (fun _ _ _ h => h) (yieldsIf_load_mid (by rfl) _ _ rfl _ _ rfl _ _ (fun w h => h.2) HU.out rfl HI.out) (by assumption) ?_
  try simp only [Act.put, List.setIfInBounds_toArray, List.set_cons_zero, List.set_cons_succ, List.getElem_toArray, List.getElem_cons_zero, List.getElem_cons_succ]
  refine wpAnyH_ready (rs := [14]) (by kernel_rfl) (by simp) ?_
  refine AllReadyH.cons rfl (fun K hK => ?_) AllReadyH.nil
  go_simp
  refine hK.out _ _ ?_ (fun hHeld => ?_)
  · exact keepS HRng.out HGlt.out (HW8.alloc HW8.size _)
  clear hK K
  try simp only [Act.put, List.setIfInBounds_toArray, List.set_cons_zero, List.set_cons_succ, List.getElem_toArray, List.getElem_cons_zero, List.getElem_cons_succ]
  refine wpAnyH_ready (rs := [15]) (by kernel_rfl) (by simp) ?_
  refine AllReadyH.cons rfl (fun K hK => ?_) AllReadyH.nil
  go_simp
  refine (hmOf_any A7 (n + 1) c7 (l ++ [0]) _ 1 1 [⟨B, m, d, t⟩] _ (HK7.out.below (HW8.alloc HW8.size _)) HLB1.out (by omega) (Arg.new' w8 _ rfl 22 (0, 0) 1 encP encP_length [⟨B, m, d, t⟩] 1 rfl (by decide)) (PcsOk.one ((HT7.out.below (HW8.alloc HW8.size _)))) (by omega) (by rw [glue_one, HTl.out]; omega) (by rw [glue_one]; exact HTb.out)).mono ?_
  rintro e w9 ⟨rfl, hb9⟩
  rw [glue_one, HZ1.out, HD.out, HCs.out]
  have HW9 : Below w7.heap.size w7 w9 := (HW8.alloc HW8.size _).trans (hb9.mono (by have := HW8.size; simp; omega))
  refine hK.out _ _ ?_ (fun hHeld => ?_)
  · exact keepS HRng.out HGlt.out HW9
  clear hK K
  try simp only [Act.put, List.setIfInBounds_toArray, List.set_cons_zero, List.set_cons_succ, List.getElem_toArray, List.getElem_cons_zero, List.getElem_cons_succ]
  refine wpAnyH_take (i := 17) (v := ?_) rfl (by kernel_rfl) (by kernel_rfl) (by kernel_rfl) (fun _ _ _ h => h) (Or.inl ⟨by rfl, ?_⟩) (by assumption) ?_
  rotate_left
  · intro w hSw; go_simp; (try with_reducible rfl)
  try simp only [Act.put, List.setIfInBounds_toArray, List.set_cons_zero, List.set_cons_succ, List.getElem_toArray, List.getElem_cons_zero, List.getElem_cons_succ]
  refine wpAnyH_take (i := 18) (v := ?_) rfl (by kernel_rfl) (by kernel_rfl) (by kernel_rfl) (fun _ _ _ h => h) (Or.inl ⟨by rfl, ?_⟩) (by assumption) ?_
  rotate_left
  · intro w hSw; go_simp; (try with_reducible rfl)
  try simp only [Act.put, List.setIfInBounds_toArray, List.set_cons_zero, List.set_cons_succ, List.getElem_toArray, List.getElem_cons_zero, List.getElem_cons_succ]
  refine wpAnyH_take (i := 19) (v := ?_) rfl (by kernel_rfl) (by kernel_rfl) (by kernel_rfl) (fun _ _ _ h => h) (Or.inl ⟨by rfl, ?_⟩) (by assumption) ?_
  rotate_left
  · intro w hSw; go_simp; (try with_reducible rfl)
  try simp only [Act.put, List.setIfInBounds_toArray, List.set_cons_zero, List.set_cons_succ, List.getElem_toArray, List.getElem_cons_zero, List.getElem_cons_succ]
  refine wpAnyH_take (i := 20) (v := ?_) rfl (by kernel_rfl) (by kernel_rfl) (by kernel_rfl) (fun _ _ _ h => h) (Or.inl ⟨by rfl, ?_⟩) (by assumption) ?_
  rotate_left
  · intro w hSw; go_simp; (try with_reducible rfl)
  try simp only [Act.put, List.setIfInBounds_toArray, List.set_cons_zero, List.set_cons_succ, List.getElem_toArray, List.getElem_cons_zero, List.getElem_cons_succ]
  refine wpAnyH_done (by kernel_rfl) ?_ _
  refine NoPanic.normal ?_
  go_wp2_with fail
  go_ret
  exact ⟨rfl, HB7.out.trans (HW9.mono HB7.out.size)⟩
set_option maxRecDepth 100000 in
set_option maxHeartbeats 2000000 in
theorem hmacEmpty_high (A : Option Addr) (n c : Nat) (l : List Int) (B : Option Addr) (m d : Nat) (t : List Int) (w : World) (ha : Arg w 1 encB A n c l) (hl : ∀ z ∈ l, 0 ≤ z ∧ z ≤ 255) (hb : Arg w 1 encB B m d t) (ht : ∀ z ∈ t, 0 ≤ z ∧ z ≤ 255) (h64 : 64 ≤ n) (h3 : n ≤ 300) (h300 : m ≤ 300) :
    Calls Tryd.prog 11 #[.slice A n c, .slice B m d] w fun e w' => e = .returned (.bool true) ∧ Below w.heap.size w w' := by
  have HA := Keep.mk ha
  have HBt := Keep.mk hb
  have HLb := Lib.hid hl
  have HTb := Lib.hid ht
  have hc1 := ha.hcap
  have hc2 := hb.hcap
  have HLl := Keep.mk ha.hlen
  have HTl := Keep.mk hb.hlen
  clear ha hl hb ht
  go_enter Tryd.func11, Tryd.ntmps11
  go_wp2_with (go_at_call 22; refine (wakes04_any _).mono ?_; rintro e w1 ⟨rfl, hb1⟩; have HB1 := Keep.mk hb1; have HA1 := Keep.mk (HA.out.below hb1); have HT1 := Keep.mk (HBt.out.below hb1); clear hb1)
  refine (hm_new A n c l w1 _ 1 [⟨B, m, d, t⟩] t rfl rfl HA1.out HLb.out (by omega) (PcsOk.one HT1.out) (glue_one _ _ _ _) (by omega) (by rw [HTl.out]; omega) HTb.out).mono ?_
  rintro e w4 ⟨rfl, hb4⟩
  obtain ⟨D, hD⟩ : ∃ D, hmB l t = D := ⟨_, rfl⟩
  have hDl : D.length = 32 := by rw [← hD, hmB_length]
  rw [hD]
  have HD := Keep.mk hD
  have HDl := Keep.mk hDl
  have HB4 := Keep.mk (HB1.out.trans (hb4.mono HB1.out.size))
  have HA4 := Keep.mk (HA1.out.below hb4)
  have HT4 := Keep.mk (HT1.out.below hb4)
  have H32 : Hid ((Tryd.prog.info? 24).map (·.size) = some (bArr D).size) := Lib.hid (by rw [bArr_size, hDl]; exact infoA32)
  have HSz : Hid ((bArr (List.replicate 32 0)).size = (bArr D).size) := Lib.hid (by rw [bArr_size, bArr_size, hDl]; rfl)
  have hA : Keep ((w4.alloc (.cells (bArr (List.replicate 32 0)) 24)).heap[w4.heap.size]? = some (.cells (bArr (List.replicate 32 0)) 24 (0, 0))) := ⟨heap_alloc_new _ _⟩
  have hB : ((w4.alloc (.cells (bArr (List.replicate 32 0)) 24)).setRow w4.heap.size (bArr D)).heap[w4.heap.size]? = some (.cells (bArr D) 24 (0, 0)) := setRow_heap _ _ _ _ _ _ hA.out
  have hb5 : Below w4.heap.size w4 ((w4.alloc (.cells (bArr (List.replicate 32 0)) 24)).setRow w4.heap.size (bArr D)) := below_setRow ((Below.refl _ w4).alloc (Nat.le_refl _) _) (Nat.le_refl _) _
  obtain ⟨W5, hW5⟩ : ∃ W5, (w4.alloc (.cells (bArr (List.replicate 32 0)) 24)).setRow w4.heap.size (bArr D) = W5 := ⟨_, rfl⟩
  have HW5 := Keep.mk hW5
  rw [hW5] at hB hb5
  have HRow := Keep.mk hB
  have HA5 := Keep.mk (HA4.out.below hb5)
  have HT5 := Keep.mk (HT4.out.below hb5)
  have HB5 := Keep.mk (HB4.out.trans (hb5.mono HB4.out.size))
  clear hD hDl hb4 HA1 HT1 HB1 hB hb5 hW5 HA4 HT4 HB4
  go_wp2_with (first
    | (refine wpList_store_row rfl 24 _ _ rfl w4.heap.size 24 (bArr (List.replicate 32 0)) (bArr D) rfl rfl hA.out H32.out HSz.out (bArr_one _) ?_
       change wpList _ _ _ _ _ ((w4.alloc (.cells (bArr (List.replicate 32 0)) 24)).setRow w4.heap.size (bArr D))
       rw [HW5.out])
    | (refine wpList_append_came rfl (.tmp 21) (.tmp 22) 22 rfl Tryd.underlying22 W5.heap.size (.slice (some ⟨W5.heap.size, 0, none⟩) 0 0) 0 [] rfl (World.ownsRow_lit W5 #[] 0 (Nat.le_refl _) (by decide) rfl) A n c l rfl (HA5.out.alloc _) (by omega) (by omega) (by simp) W5 ((Below.refl _ W5).alloc (Nat.le_refl _) _) ?_
       intro v6 w6 hown6 hb6
       rw [List.nil_append, Nat.zero_add] at hown6
       have HO6 := Keep.mk hown6
       have HB6 := Keep.mk hb6
       clear hown6 hb6)
    | (refine wpList_append_bytes rfl (.tmp 23) (.tmp 24) 22 rfl Tryd.underlying22 W5.heap.size _ n _ rfl (HO6.out.alloc _) w6.heap.size 1 [0] rfl 5 (heap_alloc_new _ _) rfl (by omega) (by omega) ?_ ?_
       · have := HB6.out.size; simp; omega
       intro v7 w7 hown7 hgr7 hat7
       have hb7 : Below W5.heap.size W5 w7 := (HB6.out.alloc HB6.out.size _).grown hgr7 (by have := HB6.out.size; simp; omega) (fun j e => (HO6.out.lt j e).1)
       obtain ⟨A7, c7, rfl, ha7⟩ := Arg.of_own (by decide) encB_length hown7
       have HK7 := Keep.mk ha7
       have HB7 := Keep.mk (HB5.out.trans (hb7.mono HB5.out.size))
       have HA7 := Keep.mk (HA5.out.below hb7)
       have HT7 := Keep.mk (HT5.out.below hb7)
       have HRow7 := Keep.mk ((hb7.block _ (lt_of_block HRow.out)).trans HRow.out)
       clear hgr7 hat7 hown7 hb7 ha7)
    | fail)
  obtain ⟨cs, hcs⟩ : ∃ cs, D.map (Value.int .u8) = cs := ⟨_, rfl⟩
  have hrng : w7.rangeAt w4.heap.size 0 cs := fun j v hv => by
    rw [Nat.zero_add, cell_of_row w7 _ _ _ _ _ HRow7.out, ← hv, ← hcs]
    simp [bArr]
  have HRng := Keep.mk hrng
  have HGlt := Keep.mk (lt_of_block HRow7.out)
  have HCs : Keep (bArr D = cs.toArray) := ⟨by rw [← hcs]; rfl⟩
  have hcl : cs.length = 32 := by rw [← hcs, List.length_map, HDl.out]
  have hOne : ∀ v ∈ cs, v.oneCell' = true := fun v hv => by rw [← hcs] at hv; obtain ⟨z, _, rfl⟩ := List.mem_map.1 hv; rfl
  have hI : (Tryd.prog.info? 24).map (·.size) = some cs.length := by rw [hcl]; exact infoA32
  have hU : Tryd.prog.underlying 24 = some (.array 32 5) := Tryd.underlying24
  have hm := eqGuard32
  have hEq := eqCs_run cs D hcs HDl.out
  have hEq2 := eqCsIn_run cs D hcs HDl.out
  clear hcs hrng HRow HRow7 H32 HSz hA HW5 HO6 HB6 HA5 HT5 HB5
  have hge : ((64 : Int) ≤ (n : Int)) = True := by simp; omega
  have HCl := Keep.mk hcl
  have HU := Keep.mk hU
  have HI := Keep.mk hI
  clear hU hI hOne hcl
  refine wp_region_noPanic ?_
  refine wp_region_held_drew (S := fun W => Below w7.heap.size w7 W ∧ W.rangeAt w4.heap.size 0 cs) (by kernel_rfl) (keepS HRng.out HGlt.out (Below.refl _ _).drew) (fun hHeld => ?_)
  refine wpAnyH_take (i := 0) (v := ?_) rfl (by kernel_rfl) (by kernel_rfl) (by kernel_rfl) (fun _ _ _ h => h) (Or.inl ⟨by rfl, ?_⟩) (by assumption) ?_
  rotate_left
  · intro w hSw; go_simp; (try with_reducible rfl)
  try simp only [Act.put, List.setIfInBounds_toArray, List.set_cons_zero, List.set_cons_succ, List.getElem_toArray, List.getElem_cons_zero, List.getElem_cons_succ]
  refine wpAnyH_take (i := 1) (v := ?_) rfl (by kernel_rfl) (by kernel_rfl) (by kernel_rfl) (fun _ _ _ h => h) (Or.inl ⟨by rfl, ?_⟩) (by assumption) ?_
  rotate_left
  · intro w hSw; go_simp; (try with_reducible rfl)
  try simp only [Act.put, List.setIfInBounds_toArray, List.set_cons_zero, List.set_cons_succ, List.getElem_toArray, List.getElem_cons_zero, List.getElem_cons_succ]
  refine wpAnyH_take (i := 5) rfl (by kernel_rfl) (by kernel_rfl) (by kernel_rfl) (fun _ _ _ h => h) (yieldsIf_load_mid (by rfl) _ _ rfl _ _ rfl _ _ (fun w h => h.2) HU.out rfl HI.out) (by assumption) ?_
  try simp only [Act.put, List.setIfInBounds_toArray, List.set_cons_zero, List.set_cons_succ, List.getElem_toArray, List.getElem_cons_zero, List.getElem_cons_succ]
  refine wpAnyH_ready (rs := [2]) (by kernel_rfl) (by simp) ?_
  refine AllReadyH.cons rfl (fun K hK => ?_) AllReadyH.nil
  go_simp
  refine hK.out _ _ ?_ (fun hHeld => ?_)
  · exact keepS HRng.out HGlt.out ((Below.refl _ w7).alloc (Nat.le_refl _) _).drew
  clear hK K
  try simp only [Act.put, List.setIfInBounds_toArray, List.set_cons_zero, List.set_cons_succ, List.getElem_toArray, List.getElem_cons_zero, List.getElem_cons_succ]
  refine wpAnyH_ready (rs := [3]) (by kernel_rfl) (by simp) ?_
  refine AllReadyH.cons rfl (fun K hK => ?_) AllReadyH.nil
  go_simp
  refine hK.out _ _ ?_ (fun hHeld => ?_)
  · exact keepS HRng.out HGlt.out (((Below.refl _ w7).alloc (Nat.le_refl _) _).alloc (by simp) _).drew
  clear hK K
  try simp only [Act.put, List.setIfInBounds_toArray, List.set_cons_zero, List.set_cons_succ, List.getElem_toArray, List.getElem_cons_zero, List.getElem_cons_succ]
  refine wpAnyH_ready (rs := [4]) (by kernel_rfl) (by simp) ?_
  refine AllReadyH.cons rfl (fun K hK => ?_) AllReadyH.nil
  go_simp
  refine (hmOf_any A n c l _ 3 3 [⟨none, 0, 0, []⟩, ⟨B, m, d, t⟩, ⟨some ⟨w7.heap.size, 0, none⟩, 0, 0, []⟩] _ (HA7.out.below (((Below.refl _ w7).alloc (Nat.le_refl _) _).alloc (by simp) _).drew) HLb.out (by omega) (Arg.new' (w7.alloc _) (w7.heap.size + 1) (World.size_alloc _ _) 22 (0, 0) 1 encP encP_length [⟨none, 0, 0, []⟩, ⟨B, m, d, t⟩, ⟨some ⟨w7.heap.size, 0, none⟩, 0, 0, []⟩] 3 rfl (by decide)).drew ?ok (by omega) (by rw [show glue [(⟨none, 0, 0, []⟩ : Pc), ⟨B, m, d, t⟩, ⟨some ⟨w7.heap.size, 0, none⟩, 0, 0, []⟩] = t by simp [glue], HTl.out]; omega) (by rw [show glue [(⟨none, 0, 0, []⟩ : Pc), ⟨B, m, d, t⟩, ⟨some ⟨w7.heap.size, 0, none⟩, 0, 0, []⟩] = t by simp [glue]]; exact HTb.out)).mono ?_
  case ok =>
    intro p hp
    simp only [List.mem_cons, List.not_mem_nil, or_false] at hp
    rcases hp with rfl | rfl | rfl
    · exact Arg.empty _ _ _ _
    · exact HT7.out.below (((Below.refl _ w7).alloc (Nat.le_refl _) _).alloc (by simp) _).drew
    · exact Arg.empty _ _ _ _
  rintro e w8 ⟨rfl, hb8⟩
  rw [show glue [(⟨none, 0, 0, []⟩ : Pc), ⟨B, m, d, t⟩, ⟨some ⟨w7.heap.size, 0, none⟩, 0, 0, []⟩] = t by simp [glue], HD.out, HCs.out]
  have HW8 : Below w7.heap.size w7 w8 := (((Below.refl _ w7).alloc (Nat.le_refl _) _).alloc (by simp) _).drew.trans (hb8.mono (by simp; omega))
  refine hK.out _ _ ?_ (fun hHeld => ?_)
  · exact keepS HRng.out HGlt.out HW8
  clear hK K
  try simp only [Act.put, List.setIfInBounds_toArray, List.set_cons_zero, List.set_cons_succ, List.getElem_toArray, List.getElem_cons_zero, List.getElem_cons_succ]
  refine wpAnyH_take (i := 6) (v := ?_) rfl (by kernel_rfl) (by kernel_rfl) (by kernel_rfl) (fun _ _ _ h => h) (Or.inl ⟨by rfl, ?_⟩) (by assumption) ?_
  rotate_left
  · intro w hSw; go_simp; (try with_reducible rfl)
  try simp only [Act.put, List.setIfInBounds_toArray, List.set_cons_zero, List.set_cons_succ, List.getElem_toArray, List.getElem_cons_zero, List.getElem_cons_succ]
  refine wpAnyH_take (i := 7) (v := ?_) rfl (by kernel_rfl) (by kernel_rfl) (by kernel_rfl) (fun _ _ _ h => h) (Or.inl ⟨by rfl, ?_⟩) (by assumption) ?_
  rotate_left
  · intro w hSw; go_simp; (try with_reducible rfl)
  try simp only [Act.put, List.setIfInBounds_toArray, List.set_cons_zero, List.set_cons_succ, List.getElem_toArray, List.getElem_cons_zero, List.getElem_cons_succ]
  refine wpAnyH_take (i := 8) (v := ?_) rfl (by kernel_rfl) (by kernel_rfl) (by kernel_rfl) (fun _ _ _ h => h) (Or.inl ⟨by rfl, ?_⟩) (by assumption) ?_
  rotate_left
  · intro w hSw; go_simp; (try with_reducible rfl)
  try simp only [Act.put, List.setIfInBounds_toArray, List.set_cons_zero, List.set_cons_succ, List.getElem_toArray, List.getElem_cons_zero, List.getElem_cons_succ]
  refine wpAnyH_take (i := 9) (v := ?_) rfl (by kernel_rfl) (by kernel_rfl) (by kernel_rfl) (fun _ _ _ h => h) (Or.inl ⟨by rfl, ?_⟩) (by assumption) ?_
  rotate_left
  · intro w hSw; go_simp; (try with_reducible rfl)
  try simp only [Act.put, List.setIfInBounds_toArray, List.set_cons_zero, List.set_cons_succ, List.getElem_toArray, List.getElem_cons_zero, List.getElem_cons_succ]
  refine wpAnyH_take (i := 10) (v := ?_) rfl (by kernel_rfl) (by kernel_rfl) (by kernel_rfl) (fun _ _ _ h => h) (Or.inl ⟨by rfl, ?_⟩) (by assumption) ?_
  rotate_left
  · intro w hSw; go_simp; (try with_reducible rfl)
  try simp only [Act.put, List.setIfInBounds_toArray, List.set_cons_zero, List.set_cons_succ, List.getElem_toArray, List.getElem_cons_zero, List.getElem_cons_succ]
  refine wpAnyH_take (i := 11) (v := ?_) rfl (by kernel_rfl) (by kernel_rfl) (by kernel_rfl) (fun _ _ _ h => h) (Or.inl ⟨by rfl, ?_⟩) (by assumption) ?_
  rotate_left
  · intro w hSw; go_simp; (try with_reducible rfl)
  try simp only [Act.put, List.setIfInBounds_toArray, List.set_cons_zero, List.set_cons_succ, List.getElem_toArray, List.getElem_cons_zero, List.getElem_cons_succ]
  refine wpAnyH_take (i := 12) rfl (by kernel_rfl) (by kernel_rfl) (by kernel_rfl) (fun _ _ _ h => h) (Or.inr ⟨by rfl, rfl⟩) (by assumption) ?_
  try simp only [Act.put, List.setIfInBounds_toArray, List.set_cons_zero, List.set_cons_succ, List.getElem_toArray, List.getElem_cons_zero, List.getElem_cons_succ]
  refine wpAnyH_take (i := 13) rfl (by kernel_rfl) (by kernel_rfl) (by kernel_rfl) (fun _ _ _ h => h) (Or.inr ⟨by rfl, rfl⟩) (by assumption) ?_
  try simp only [Act.put, List.setIfInBounds_toArray, List.set_cons_zero, List.set_cons_succ, List.getElem_toArray, List.getElem_cons_zero, List.getElem_cons_succ]
  refine wpAnyH_take (i := 14) rfl (by kernel_rfl) (by kernel_rfl) (by kernel_rfl) (fun _ _ _ h => h) (Or.inr ⟨by rfl, rfl⟩) (by assumption) ?_
  try simp only [Act.put, List.setIfInBounds_toArray, List.set_cons_zero, List.set_cons_succ, List.getElem_toArray, List.getElem_cons_zero, List.getElem_cons_succ]
  refine wpAnyH_take (i := 15) rfl (by kernel_rfl) (by kernel_rfl) (by kernel_rfl) (fun _ _ _ h => h) (Or.inr ⟨by rfl, rfl⟩) (by assumption) ?_
  try simp only [Act.put, List.setIfInBounds_toArray, List.set_cons_zero, List.set_cons_succ, List.getElem_toArray, List.getElem_cons_zero, List.getElem_cons_succ]
  refine wpAnyH_take (i := 16) rfl (by kernel_rfl) (by kernel_rfl) (by kernel_rfl) (fun _ _ _ h => h) (Or.inr ⟨by rfl, rfl⟩) (by assumption) ?_
  try simp only [Act.put, List.setIfInBounds_toArray, List.set_cons_zero, List.set_cons_succ, List.getElem_toArray, List.getElem_cons_zero, List.getElem_cons_succ]
  refine wpAnyH_take (i := 17) rfl (by kernel_rfl) (by kernel_rfl) (by kernel_rfl) (fun _ _ _ h => h) (Or.inr ⟨by rfl, rfl⟩) (by assumption) ?_
  try simp only [Act.put, List.setIfInBounds_toArray, List.set_cons_zero, List.set_cons_succ, List.getElem_toArray, List.getElem_cons_zero, List.getElem_cons_succ]
  refine wpAnyH_take (i := 18) (v := ?_) rfl (by kernel_rfl) (by kernel_rfl) (by kernel_rfl) (fun _ _ _ h => h) (Or.inl ⟨by rfl, ?_⟩) (by assumption) ?_
  rotate_left
  · intro w hSw; go_simp; (try with_reducible rfl)
  try simp only [Act.put, List.setIfInBounds_toArray, List.set_cons_zero, List.set_cons_succ, List.getElem_toArray, List.getElem_cons_zero, List.getElem_cons_succ]
  refine wpAnyH_take (i := 19) (v := ?_) rfl (by kernel_rfl) (by kernel_rfl) (by kernel_rfl) (fun _ _ _ h => h) (Or.inl ⟨by rfl, ?_⟩) (by assumption) ?_
  rotate_left
  · intro w hSw; go_simp; (try with_reducible rfl)
  try simp only [Act.put, List.setIfInBounds_toArray, List.set_cons_zero, List.set_cons_succ, List.getElem_toArray, List.getElem_cons_zero, List.getElem_cons_succ]
  refine wpAnyH_take (i := 20) (v := ?_) rfl (by kernel_rfl) (by kernel_rfl) (by kernel_rfl) (fun _ _ _ h => h) (Or.inl ⟨by rfl, ?_⟩) (by assumption) ?_
  rotate_left
  · intro w hSw; go_simp; (try with_reducible rfl)
  try simp only [Act.put, List.setIfInBounds_toArray, List.set_cons_zero, List.set_cons_succ, List.getElem_toArray, List.getElem_cons_zero, List.getElem_cons_succ]
  refine wpAnyH_done (by kernel_rfl) ?_ _
  refine NoPanic.normal ?_
  go_wp2_with fail
  go_ret
  exact ⟨rfl, HB7.out.trans (HW8.mono HB7.out.size)⟩

theorem hmacEmpty_walk (A : Option Addr) (n c : Nat) (l : List Int) (B : Option Addr) (m d : Nat) (t : List Int) (w : World) (ha : Arg w 1 encB A n c l) (hl : ∀ z ∈ l, 0 ≤ z ∧ z ≤ 255) (hb : Arg w 1 encB B m d t) (ht : ∀ z ∈ t, 0 ≤ z ∧ z ≤ 255) :
    Calls Tryd.prog 11 #[.slice A n c, .slice B m d] w fun e w' => e = .returned (.bool true) ∧ Below w.heap.size w w' := by
  by_cases h300 : 300 < n
  · have hc1 := ha.hcap
    have hm1 := ha.hmax
    have hc2 := hb.hcap
    have hm2 := hb.hmax
    unfold maxLen at hm1 hm2
    clear ha hl hb ht
    go_enter Tryd.func11, Tryd.ntmps11
    go_wp2_with (go_at_call 22; refine (wakes04_any _).mono ?_; rintro e w1 ⟨rfl, hb1⟩)
    go_ret
    exact ⟨rfl, hb1⟩
  by_cases h3 : 300 < m
  · have hc1 := ha.hcap
    have hm1 := ha.hmax
    have hc2 := hb.hcap
    have hm2 := hb.hmax
    unfold maxLen at hm1 hm2
    clear ha hl hb ht
    go_enter Tryd.func11, Tryd.ntmps11
    go_wp2_with (go_at_call 22; refine (wakes04_any _).mono ?_; rintro e w1 ⟨rfl, hb1⟩)
    go_ret
    exact ⟨rfl, hb1⟩
  by_cases h64 : n < 64
  · exact hmacEmpty_low A n c l B m d t w ha hl hb ht h64 (by omega)
  · exact hmacEmpty_high A n c l B m d t w ha hl hb ht (by omega) (by omega) (by omega)
end Go.Proofs.YtkcmemhoabadaaaDoor
