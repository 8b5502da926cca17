/-
  Walks and laws, one behind the other (part 48).
-/
import Derived.Test.YtfjdhdeiaakbaaaGreatDoorS22
import Derived.Test.YtfjdhdeiaakbaaaGreatDoorS24
import Derived.Test.YtfjdhdeiaakbaaaGreatDoorS40
import Derived.Test.YtfjdhdeiaakbaaaGreatDoorS47
set_option linter.unusedSimpArgs false
set_option linter.unusedVariables false
/-
  The document's Fits; AuditFits holds.
-/
namespace Go.Proofs.YtfjdhdeiaakbaaaGreatDoor
open Go.RowKit

abbrev rrC (A : Option Addr) (n c : Nat) (ov : Bool) : Array Value := #[.slice none 0 0, .slice A n c, .bool false, .bool false, .bool ov, .int .i64 0]
abbrev zero8 : Array Value := #[.int .i64 0, .int .i64 0, .slice none 0 0, .slice none 0 0, .bool false, .bool false, .bool false, .int .i64 0]
abbrev rwC (A : Option Addr) (n c : Nat) (sh : Bool) : Array Value := #[.slice A n c, .slice none 0 0, .bool sh, .bool false, .bool false, .int .i64 0]
set_option maxRecDepth 100000 in
set_option maxHeartbeats 6400000 in
theorem rfits_any {w : World} {A1 A2 : Option Addr} {n1 c1 n2 c2 : Nat} {ws rs : List Int} (ov sh : Bool) (h1 : Arg w 1 encB A1 n1 c1 ws) (h2 : Arg w 1 encB A2 n2 c2 rs) (hn1 : n1 ≤ 200) (hn2 : n2 ≤ 200) :
    Calls Tryz.prog 11 #[.agg (rrC A2 n2 c2 ov), .agg (rwC A1 n1 c1 sh)] w fun e w' => e = .returned (.bool (fitB ws rs ov sh)) ∧ Below w.heap.size w w' := by
  obtain ⟨oA, hoA⟩ : ∃ o, Obj.cells (rrC A2 n2 c2 ov) 41 = o := ⟨_, rfl⟩
  obtain ⟨oB, hoB⟩ : ∃ o, Obj.cells (rwC A1 n1 c1 sh) 41 = o := ⟨_, rfl⟩
  obtain ⟨V, hV⟩ : ∃ V, (w.alloc oA).alloc oB = V := ⟨_, rfl⟩
  have F2 : Fz w V [] := hV ▸ ((Fz.alloc w oA).trans (Fz.alloc _ oB)).mono (by simp)
  have BB : Keep (∀ q, Below w.heap.size w (V.drewN q)) := ⟨fun q => below_drewN (F2.toBelow (Nat.le_refl _) (by simp)) q⟩
  have bA : Bk V w.heap.size (rrC A2 n2 c2 ov) 41 := hV ▸ (hoA ▸ Bk.new w (rrC A2 n2 c2 ov) 41).fz (Fz.alloc _ oB) (by simp)
  have bB : Bk V (w.heap.size + 1) (rwC A1 n1 c1 sh) 41 := by
    have := Bk.new (w.alloc oA) (rwC A1 n1 c1 sh) 41
    rw [show (w.alloc oA).heap.size = w.heap.size + 1 by simp, hoB, hV] at this
    exact this
  have e1 : ∀ q, (V.drewN q).cell? ⟨w.heap.size, 1, none⟩ = some (.slice A2 n2 c2) := fun q => bA.c 1
  have e4 : ∀ q, (V.drewN q).cell? ⟨w.heap.size, 4, none⟩ = some (.bool ov) := fun q => bA.c 4
  have g0 : ∀ q, (V.drewN q).cell? ⟨w.heap.size + 1, 0, none⟩ = some (.slice A1 n1 c1) := fun q => bB.c 0
  have g2 : ∀ q, (V.drewN q).cell? ⟨w.heap.size + 1, 2, none⟩ = some (.bool sh) := fun q => bB.c 2
  have E := Keep.mk (And.intro e1 (And.intro e4 (And.intro g0 g2)))
  obtain ⟨q, hq⟩ : ∃ q, (((n2 : Nat) : Int) == ((n1 : Nat) : Int)) = q := ⟨_, rfl⟩
  have hq2 : decide (rs.length = ws.length) = q := by
    rw [← hq, h1.hlen, h2.hlen, Bool.eq_iff_iff, decide_eq_true_iff, beq_iff_eq]
    omega
  by_cases hnn : n1 < n2
  · have d1n : decide (n1 < n2) = true := by simp [hnn]
    have hp : pfx ws rs = false := by unfold pfx; rw [h1.hlen, h2.hlen]; simp <;> omega
    have HF : Keep (fitB ws rs ov sh = false) := ⟨by unfold fitB; rw [hp]; rfl⟩
    have d1 : decide ((n1 : Int) < (n2 : Int)) = true := by simp [hnn]
    clear h1 h2 hq hq2 hp bA bB F2 hnn e1 e4 g0 g2
    go_enter Tryz.func11, Tryz.ntmps11
    go_wp2_with fail
    have e1 := E.out.1 1
    have g0 := E.out.2.2.1 1
    -- reg rfitsA
    refine wp_region_noPanic ?_
    refine wp_region_held_drew (S := fun X => X.cell? ⟨w.heap.size, 1, none⟩ = some (.slice A2 n2 c2) ∧ X.cell? ⟨w.heap.size + 1, 0, none⟩ = some (.slice A1 n1 c1)) (by kernel_rfl) ⟨e1, g0⟩ (fun hHeld => ?_)
    refine wpAnyH_pures' (fun d => ([1000, 1000, 1000, 1000, 1000, 0, 1, 2, 3, 4, 5, 6, 7, 8, 9, 10, 11, 12, 13, 14, 15, 16, 17, 18] : List Nat).getD d 1000) [0, 1, 2, 3, 4, 5, 6, 7, 8, 9, 10, 11, 12, 13, 14, 15, 16, 17, 18] 0 (by kernel_rfl) (by kernel_rfl) (by kernel_rfl) (fun _ _ _ _ _ h => h) (by assumption) (fun K hK => ?_)
    refine Ys_cons (v := ?_) rfl (Or.inl ⟨by rfl, ?_⟩) ?_
    rotate_left
    · intro w hSw; go_simp; (try with_reducible rfl)
    try simp only [Act.put, List.setIfInBounds_toArray, List.set_cons_zero, List.set_cons_succ, List.getElem_toArray, List.getElem_cons_zero, List.getElem_cons_succ]
    refine Ys_cons (v := ?_) rfl (Or.inl ⟨by rfl, ?_⟩) ?_
    rotate_left
    · intro w hSw; go_simp; (try with_reducible rfl)
    try simp only [Act.put, List.setIfInBounds_toArray, List.set_cons_zero, List.set_cons_succ, List.getElem_toArray, List.getElem_cons_zero, List.getElem_cons_succ]
    refine Ys_cons (v := ?_) rfl (Or.inl ⟨by rfl, ?_⟩) ?_
    rotate_left
    · intro w hSw; go_simp; (try with_reducible rfl)
    try simp only [Act.put, List.setIfInBounds_toArray, List.set_cons_zero, List.set_cons_succ, List.getElem_toArray, List.getElem_cons_zero, List.getElem_cons_succ]
    refine Ys_cons (v := ?_) rfl (Or.inl ⟨by rfl, ?_⟩) ?_
    rotate_left
    · intro w hSw; go_simp; (try with_reducible rfl)
    try simp only [Act.put, List.setIfInBounds_toArray, List.set_cons_zero, List.set_cons_succ, List.getElem_toArray, List.getElem_cons_zero, List.getElem_cons_succ]
    refine Ys_cons (v := ?_) rfl (Or.inl ⟨by rfl, ?_⟩) ?_
    rotate_left
    · intro w hSw; go_simp; (try with_reducible rfl)
    try simp only [Act.put, List.setIfInBounds_toArray, List.set_cons_zero, List.set_cons_succ, List.getElem_toArray, List.getElem_cons_zero, List.getElem_cons_succ]
    refine Ys_cons (v := ?_) rfl (Or.inl ⟨by rfl, ?_⟩) ?_
    rotate_left
    · intro w hSw; go_simp; (try with_reducible rfl)
    try simp only [Act.put, List.setIfInBounds_toArray, List.set_cons_zero, List.set_cons_succ, List.getElem_toArray, List.getElem_cons_zero, List.getElem_cons_succ]
    refine Ys_cons (v := ?_) rfl (Or.inl ⟨by rfl, ?_⟩) ?_
    rotate_left
    · intro w hSw; go_simp; (try with_reducible rfl)
    try simp only [Act.put, List.setIfInBounds_toArray, List.set_cons_zero, List.set_cons_succ, List.getElem_toArray, List.getElem_cons_zero, List.getElem_cons_succ]
    refine Ys_cons (v := ?_) rfl (Or.inl ⟨by rfl, ?_⟩) ?_
    rotate_left
    · intro w hSw; go_simp; (try with_reducible rfl)
    try simp only [Act.put, List.setIfInBounds_toArray, List.set_cons_zero, List.set_cons_succ, List.getElem_toArray, List.getElem_cons_zero, List.getElem_cons_succ]
    refine Ys_cons rfl (Or.inr ⟨by rfl, rfl⟩) ?_
    try simp only [Act.put, List.setIfInBounds_toArray, List.set_cons_zero, List.set_cons_succ, List.getElem_toArray, List.getElem_cons_zero, List.getElem_cons_succ]
    refine Ys_cons rfl (Or.inr ⟨by rfl, rfl⟩) ?_
    try simp only [Act.put, List.setIfInBounds_toArray, List.set_cons_zero, List.set_cons_succ, List.getElem_toArray, List.getElem_cons_zero, List.getElem_cons_succ]
    refine Ys_cons rfl (Or.inr ⟨by rfl, rfl⟩) ?_
    try simp only [Act.put, List.setIfInBounds_toArray, List.set_cons_zero, List.set_cons_succ, List.getElem_toArray, List.getElem_cons_zero, List.getElem_cons_succ]
    refine Ys_cons rfl (Or.inr ⟨by rfl, rfl⟩) ?_
    try simp only [Act.put, List.setIfInBounds_toArray, List.set_cons_zero, List.set_cons_succ, List.getElem_toArray, List.getElem_cons_zero, List.getElem_cons_succ]
    refine Ys_cons rfl (Or.inr ⟨by rfl, rfl⟩) ?_
    try simp only [Act.put, List.setIfInBounds_toArray, List.set_cons_zero, List.set_cons_succ, List.getElem_toArray, List.getElem_cons_zero, List.getElem_cons_succ]
    refine Ys_cons rfl (Or.inr ⟨by rfl, rfl⟩) ?_
    try simp only [Act.put, List.setIfInBounds_toArray, List.set_cons_zero, List.set_cons_succ, List.getElem_toArray, List.getElem_cons_zero, List.getElem_cons_succ]
    refine Ys_cons rfl (Or.inr ⟨by rfl, rfl⟩) ?_
    try simp only [Act.put, List.setIfInBounds_toArray, List.set_cons_zero, List.set_cons_succ, List.getElem_toArray, List.getElem_cons_zero, List.getElem_cons_succ]
    refine Ys_cons rfl (Or.inr ⟨by rfl, rfl⟩) ?_
    try simp only [Act.put, List.setIfInBounds_toArray, List.set_cons_zero, List.set_cons_succ, List.getElem_toArray, List.getElem_cons_zero, List.getElem_cons_succ]
    refine Ys_cons rfl (Or.inr ⟨by rfl, rfl⟩) ?_
    try simp only [Act.put, List.setIfInBounds_toArray, List.set_cons_zero, List.set_cons_succ, List.getElem_toArray, List.getElem_cons_zero, List.getElem_cons_succ]
    refine Ys_cons rfl (Or.inr ⟨by rfl, rfl⟩) ?_
    try simp only [Act.put, List.setIfInBounds_toArray, List.set_cons_zero, List.set_cons_succ, List.getElem_toArray, List.getElem_cons_zero, List.getElem_cons_succ]
    refine Ys_cons (v := ?_) rfl (Or.inl ⟨by rfl, ?_⟩) ?_
    rotate_left
    · intro w hSw; go_simp; (try with_reducible rfl)
    try simp only [Act.put, List.setIfInBounds_toArray, List.set_cons_zero, List.set_cons_succ, List.getElem_toArray, List.getElem_cons_zero, List.getElem_cons_succ]
    refine hK _ ?_
    clear hK K
    change wpAnyH _ _ _ _ _ _ #[true, true, true, true, true, true, true, true, true, true, true, true, true, true, true, true, true, true, true] _ _
    refine wpAnyH_done (by kernel_rfl) ?_ _
    refine NoPanic.normal ?_
    go_wp2_with fail
    go_ret
    exact ⟨by rw [HF.out]; rfl, BB.out 1⟩
    -- end reg
  · have d1 : decide ((n1 : Int) < (n2 : Int)) = false := by simp <;> omega
    have d1n : decide (n1 < n2) = false := by simp <;> omega
    have d2 : (n2 : Int) ≤ (n1 : Int) := by omega
    obtain ⟨p, hp⟩ : ∃ p, decide (ws.take rs.length = rs) = p := ⟨_, rfl⟩
    have hp2 : pfx ws rs = p := by
      unfold pfx
      rw [hp, h1.hlen, h2.hlen]
      have : decide (n2 ≤ n1) = true := by simp <;> omega
      rw [this, Bool.true_and]
    have HF : Keep (fitB ws rs ov sh = (p && (!ov || (sh && q)))) := ⟨by unfold fitB; rw [hp2, hq2]⟩
    have hle : n2 ≤ n1 := by omega
    have d3 : n2 ≤ c1 := Nat.le_trans hle h1.hcap
    have SM : Keep (∀ k, Calls Tryz.prog 20 #[.slice A1 n2 c1, .slice A2 n2 c2] (V.drewN k) fun r w' => r = .returned (.bool p) ∧ ∃ j, w' = (V.drewN k).drewN j) := ⟨fun k => by
      have hb := BB.out k
      have l1 : (ws.take rs.length).length = n2 := by rw [List.length_take, h1.hlen, h2.hlen]; omega
      have s := refSame_any A1 A2 (ws.take rs.length) rs c1 c2 (V.drewN k) ((h1.below hb).rd.take _) (h2.below hb).rd (by omega) (by rw [h2.hlen]; omega)
      rw [l1, hp, h2.hlen] at s
      exact s⟩
    clear h1 h2 hq2 hp hp2 bA bB F2 hnn hle e1 e4 g0 g2
    go_enter Tryz.func11, Tryz.ntmps11
    go_wp2_with fail
    have e1 := E.out.1 1
    have g0 := E.out.2.2.1 1
    -- reg rfitsB
    refine wp_region_noPanic ?_
    refine wp_region_held_drew (S := fun X => X.cell? ⟨w.heap.size, 1, none⟩ = some (.slice A2 n2 c2) ∧ X.cell? ⟨w.heap.size + 1, 0, none⟩ = some (.slice A1 n1 c1)) (by kernel_rfl) ⟨e1, g0⟩ (fun hHeld => ?_)
    refine wpAnyH_pures' (fun d => ([1000, 1000, 1000, 1000, 1000, 0, 1, 2, 3, 4, 5, 6, 7, 8, 9, 10, 11, 12, 13, 14, 15, 16, 17, 18] : List Nat).getD d 1000) [0, 1, 2, 3, 4, 5, 6, 7, 8, 9, 10, 11, 12, 13, 14, 15] 3 (by kernel_rfl) (by kernel_rfl) (by kernel_rfl) (fun _ _ _ _ _ h => h) (by assumption) (fun K hK => ?_)
    refine Ys_cons (v := ?_) rfl (Or.inl ⟨by rfl, ?_⟩) ?_
    rotate_left
    · intro w hSw; go_simp; (try with_reducible rfl)
    try simp only [Act.put, List.setIfInBounds_toArray, List.set_cons_zero, List.set_cons_succ, List.getElem_toArray, List.getElem_cons_zero, List.getElem_cons_succ]
    refine Ys_cons (v := ?_) rfl (Or.inl ⟨by rfl, ?_⟩) ?_
    rotate_left
    · intro w hSw; go_simp; (try with_reducible rfl)
    try simp only [Act.put, List.setIfInBounds_toArray, List.set_cons_zero, List.set_cons_succ, List.getElem_toArray, List.getElem_cons_zero, List.getElem_cons_succ]
    refine Ys_cons (v := ?_) rfl (Or.inl ⟨by rfl, ?_⟩) ?_
    rotate_left
    · intro w hSw; go_simp; (try with_reducible rfl)
    try simp only [Act.put, List.setIfInBounds_toArray, List.set_cons_zero, List.set_cons_succ, List.getElem_toArray, List.getElem_cons_zero, List.getElem_cons_succ]
    refine Ys_cons (v := ?_) rfl (Or.inl ⟨by rfl, ?_⟩) ?_
    rotate_left
    · intro w hSw; go_simp; (try with_reducible rfl)
    try simp only [Act.put, List.setIfInBounds_toArray, List.set_cons_zero, List.set_cons_succ, List.getElem_toArray, List.getElem_cons_zero, List.getElem_cons_succ]
    refine Ys_cons (v := ?_) rfl (Or.inl ⟨by rfl, ?_⟩) ?_
    rotate_left
    · intro w hSw; go_simp; (try with_reducible rfl)
    try simp only [Act.put, List.setIfInBounds_toArray, List.set_cons_zero, List.set_cons_succ, List.getElem_toArray, List.getElem_cons_zero, List.getElem_cons_succ]
    refine Ys_cons (v := ?_) rfl (Or.inl ⟨by rfl, ?_⟩) ?_
    rotate_left
    · intro w hSw; go_simp; (try with_reducible rfl)
    try simp only [Act.put, List.setIfInBounds_toArray, List.set_cons_zero, List.set_cons_succ, List.getElem_toArray, List.getElem_cons_zero, List.getElem_cons_succ]
    refine Ys_cons (v := ?_) rfl (Or.inl ⟨by rfl, ?_⟩) ?_
    rotate_left
    · intro w hSw; go_simp; (try with_reducible rfl)
    try simp only [Act.put, List.setIfInBounds_toArray, List.set_cons_zero, List.set_cons_succ, List.getElem_toArray, List.getElem_cons_zero, List.getElem_cons_succ]
    refine Ys_cons (v := ?_) rfl (Or.inl ⟨by rfl, ?_⟩) ?_
    rotate_left
    · intro w hSw; go_simp; (try with_reducible rfl)
    try simp only [Act.put, List.setIfInBounds_toArray, List.set_cons_zero, List.set_cons_succ, List.getElem_toArray, List.getElem_cons_zero, List.getElem_cons_succ]
    refine Ys_cons (v := ?_) rfl (Or.inl ⟨by rfl, ?_⟩) ?_
    rotate_left
    · intro w hSw; go_simp; (try with_reducible rfl)
    try simp only [Act.put, List.setIfInBounds_toArray, List.set_cons_zero, List.set_cons_succ, List.getElem_toArray, List.getElem_cons_zero, List.getElem_cons_succ]
    refine Ys_cons (v := ?_) rfl (Or.inl ⟨by rfl, ?_⟩) ?_
    rotate_left
    · intro w hSw; go_simp; (try with_reducible rfl)
    try simp only [Act.put, List.setIfInBounds_toArray, List.set_cons_zero, List.set_cons_succ, List.getElem_toArray, List.getElem_cons_zero, List.getElem_cons_succ]
    refine Ys_cons (v := ?_) rfl (Or.inl ⟨by rfl, ?_⟩) ?_
    rotate_left
    · intro w hSw; go_simp; (try with_reducible rfl)
    try simp only [Act.put, List.setIfInBounds_toArray, List.set_cons_zero, List.set_cons_succ, List.getElem_toArray, List.getElem_cons_zero, List.getElem_cons_succ]
    refine Ys_cons (v := ?_) rfl (Or.inl ⟨by rfl, ?_⟩) ?_
    rotate_left
    · intro w hSw; go_simp; (try with_reducible rfl)
    try simp only [Act.put, List.setIfInBounds_toArray, List.set_cons_zero, List.set_cons_succ, List.getElem_toArray, List.getElem_cons_zero, List.getElem_cons_succ]
    refine Ys_cons (v := ?_) rfl (Or.inl ⟨by rfl, ?_⟩) ?_
    rotate_left
    · intro w hSw; go_simp; (try with_reducible rfl)
    try simp only [Act.put, List.setIfInBounds_toArray, List.set_cons_zero, List.set_cons_succ, List.getElem_toArray, List.getElem_cons_zero, List.getElem_cons_succ]
    refine Ys_cons (v := ?_) rfl (Or.inl ⟨by rfl, ?_⟩) ?_
    rotate_left
    · intro w hSw; go_simp; (try with_reducible rfl)
    try simp only [Act.put, List.setIfInBounds_toArray, List.set_cons_zero, List.set_cons_succ, List.getElem_toArray, List.getElem_cons_zero, List.getElem_cons_succ]
    refine Ys_cons (v := ?_) rfl (Or.inl ⟨by rfl, ?_⟩) ?_
    rotate_left
    · intro w hSw; go_simp; (try with_reducible rfl)
    try simp only [Act.put, List.setIfInBounds_toArray, List.set_cons_zero, List.set_cons_succ, List.getElem_toArray, List.getElem_cons_zero, List.getElem_cons_succ]
    refine Ys_cons (v := ?_) rfl (Or.inl ⟨by rfl, ?_⟩) ?_
    rotate_left
    · intro w hSw; go_simp; (try with_reducible rfl)
    try simp only [Act.put, List.setIfInBounds_toArray, List.set_cons_zero, List.set_cons_succ, List.getElem_toArray, List.getElem_cons_zero, List.getElem_cons_succ]
    refine hK _ ?_
    clear hK K
    change wpAnyH _ _ _ _ _ _ #[true, true, true, true, true, true, true, true, true, true, true, true, true, true, true, true, false, false, false] _ _
    refine wpAnyH_ready (rs := [16]) (by kernel_rfl) (by simp) ?_
    refine AllReadyH.cons rfl (fun K hK => ?_) AllReadyH.nil
    go_simp
    refine (SM.out 1).mono ?_
    rintro e X ⟨rfl, j, hX⟩
    have x1 : X.cell? ⟨w.heap.size, 1, none⟩ = some (.slice A2 n2 c2) := by rw [hX]; exact E.out.1 0
    have x4 : X.cell? ⟨w.heap.size, 4, none⟩ = some (.bool ov) := by rw [hX]; exact E.out.2.1 0
    have y0 : X.cell? ⟨w.heap.size + 1, 0, none⟩ = some (.slice A1 n1 c1) := by rw [hX]; exact E.out.2.2.1 0
    have y2 : X.cell? ⟨w.heap.size + 1, 2, none⟩ = some (.bool sh) := by rw [hX]; exact E.out.2.2.2 0
    have BX : Keep (Below w.heap.size w X) := ⟨by rw [hX]; exact below_drewN (BB.out 1) j⟩
    clear hX
    refine hK.out _ _ ?_ (fun hHeld => ?_)
    · first | exact ⟨x1, y0⟩ | exact ⟨e1, g0⟩
    clear hK K
    try simp only [Act.put, List.setIfInBounds_toArray, List.set_cons_zero, List.set_cons_succ, List.getElem_toArray, List.getElem_cons_zero, List.getElem_cons_succ]
    refine wpAnyH_pures' (fun d => ([1000, 1000, 1000, 1000, 1000, 0, 1, 2, 3, 4, 5, 6, 7, 8, 9, 10, 11, 12, 13, 14, 15, 16, 17, 18] : List Nat).getD d 1000) [17, 18] 0 (by kernel_rfl) (by kernel_rfl) (by kernel_rfl) (fun _ _ _ _ _ h => h) (by assumption) (fun K hK => ?_)
    refine Ys_cons (v := ?_) rfl (Or.inl ⟨by rfl, ?_⟩) ?_
    rotate_left
    · intro w hSw; go_simp; (try with_reducible rfl)
    try simp only [Act.put, List.setIfInBounds_toArray, List.set_cons_zero, List.set_cons_succ, List.getElem_toArray, List.getElem_cons_zero, List.getElem_cons_succ]
    refine Ys_cons (v := ?_) rfl (Or.inl ⟨by rfl, ?_⟩) ?_
    rotate_left
    · intro w hSw; go_simp; (try with_reducible rfl)
    try simp only [Act.put, List.setIfInBounds_toArray, List.set_cons_zero, List.set_cons_succ, List.getElem_toArray, List.getElem_cons_zero, List.getElem_cons_succ]
    refine hK _ ?_
    clear hK K
    change wpAnyH _ _ _ _ _ _ #[true, true, true, true, true, true, true, true, true, true, true, true, true, true, true, true, true, true, true] _ _
    refine wpAnyH_done (by kernel_rfl) ?_ _
    refine NoPanic.normal ?_
    cases p
    · go_wp2_with fail
      go_ret
      exact ⟨by rw [HF.out]; rfl, BX.out⟩
    · cases ov
      · go_wp2_with fail
        go_ret
        exact ⟨by rw [HF.out]; rfl, BX.out⟩
      · cases sh
        · go_wp2_with fail
          go_ret
          exact ⟨by rw [HF.out]; rfl, BX.out⟩
        · go_wp2_with fail
          go_ret
          exact ⟨by rw [HF.out]; cases q <;> rfl, BX.out⟩
    -- end reg
set_option maxRecDepth 100000 in
set_option maxHeartbeats 6400000 in
theorem auditFits_walk (A1 : Option Addr) (n1 c1 : Nat) (ws : List Int) (A2 : Option Addr) (n2 c2 : Nat) (rs : List Int) (ov sh : Bool) (w : World) (hG : Gw w) (h1 : Arg w 1 encB A1 n1 c1 ws) (h2 : Arg w 1 encB A2 n2 c2 rs) (b1 : ∀ x ∈ ws, 0 ≤ x ∧ x ≤ 255) (b2 : ∀ x ∈ rs, 0 ≤ x ∧ x ≤ 255) :
    Calls Tryz.prog 5 #[.agg #[.slice A1 n1 c1, .slice A2 n2 c2, .bool ov, .bool sh]] w fun e w' => e = .returned (.bool true) ∧ Below w.heap.size w w' := by
  have hg0 : 1 < w.heap.size := hG.1
  obtain ⟨oP, hoP⟩ : ∃ o, Obj.cells #[.slice A1 n1 c1, .slice A2 n2 c2, .bool ov, .bool sh] 34 = o := ⟨_, rfl⟩
  obtain ⟨w0, hw0⟩ : ∃ w0, w.alloc oP = w0 := ⟨_, rfl⟩
  have B0 : Below w.heap.size w w0 := hw0 ▸ (Below.refl _ w).alloc (Nat.le_refl _) _
  have bP : Bk w0 w.heap.size #[.slice A1 n1 c1, .slice A2 n2 c2, .bool ov, .bool sh] 34 := hw0 ▸ hoP ▸ Bk.new w _ _
  have WK := Keep.mk (awakes_any w0 (hG.past B0 hg0))
  have HH := Keep.mk (And.intro h1 (And.intro h2 (And.intro b1 b2)))
  have KB0 := Keep.mk B0
  have KP := Keep.mk bP
  clear hG hg0 h1 h2 b1 b2 B0 bP
  by_cases l1 : 200 < n1
  · have l1' : decide ((200 : Int) < (n1 : Int)) = true := by simp <;> omega
    clear l1
    go_enter Tryz.func5, Tryz.ntmps5
    go_wp2_with (first
      | (go_at_call 6
         go_loud (refine WK.out.mono ?_; rintro e w1 ⟨rfl, hb1⟩)
         have k0 : w1.cell? ⟨w.heap.size, 0, none⟩ = some (.slice A1 n1 c1) := (KP.out.fz (Fz.below hb1 (Nat.le_refl _)) (by simp)).c 0
         have B1 := Keep.mk (KB0.out.trans (hb1.mono KB0.out.size))
         clear hb1)
      | fail)
    go_ret
    exact ⟨rfl, B1.out⟩
  by_cases l2 : 200 < n2
  · have l1' : decide ((200 : Int) < (n1 : Int)) = false := by simp <;> omega
    have l2' : decide ((200 : Int) < (n2 : Int)) = true := by simp <;> omega
    clear l1 l2
    go_enter Tryz.func5, Tryz.ntmps5
    go_wp2_with (first
      | (go_at_call 6
         go_loud (refine WK.out.mono ?_; rintro e w1 ⟨rfl, hb1⟩)
         have k0 : w1.cell? ⟨w.heap.size, 0, none⟩ = some (.slice A1 n1 c1) := (KP.out.fz (Fz.below hb1 (Nat.le_refl _)) (by simp)).c 0
         have k1 : w1.cell? ⟨w.heap.size, 1, none⟩ = some (.slice A2 n2 c2) := (KP.out.fz (Fz.below hb1 (Nat.le_refl _)) (by simp)).c 1
         have B1 := Keep.mk (KB0.out.trans (hb1.mono KB0.out.size))
         clear hb1)
      | fail)
    go_ret
    exact ⟨rfl, B1.out⟩
  have l1' : decide ((200 : Int) < (n1 : Int)) = false := by simp <;> omega
  have l2' : decide ((200 : Int) < (n2 : Int)) = false := by simp <;> omega
  have HN : Keep (n1 ≤ 200 ∧ n2 ≤ 200) := ⟨by omega, by omega⟩
  obtain ⟨fb, hfb0⟩ : ∃ b, fitB ws rs ov sh = b := ⟨_, rfl⟩
  have hfb := Keep.mk hfb0
  clear l1 l2 hfb0
  go_enter Tryz.func5, Tryz.ntmps5
  go_wp2_with (first
    | (go_at_call 6
       go_loud (refine WK.out.mono ?_; rintro e w1 ⟨rfl, hb1⟩)
       have KP1 := Keep.mk (KP.out.fz (Fz.below hb1 (Nat.le_refl _)) (by simp))
       have k0 : w1.cell? ⟨w.heap.size, 0, none⟩ = some (.slice A1 n1 c1) := KP1.out.c 0
       have k1 : w1.cell? ⟨w.heap.size, 1, none⟩ = some (.slice A2 n2 c2) := KP1.out.c 1
       have k2 : w1.cell? ⟨w.heap.size, 2, none⟩ = some (.bool ov) := KP1.out.c 2
       have k3 : w1.cell? ⟨w.heap.size, 3, none⟩ = some (.bool sh) := KP1.out.c 3
       have B1 := Keep.mk (KB0.out.trans (hb1.mono KB0.out.size))
       clear hb1)
    | fail)
  -- reg fitlaw
  refine wp_region_noPanic ?_
  refine wp_region_held_drew (S := fun X => X.cell? ⟨w.heap.size, 0, none⟩ = some (.slice A1 n1 c1) ∧ X.cell? ⟨w.heap.size, 1, none⟩ = some (.slice A2 n2 c2) ∧ X.cell? ⟨w.heap.size, 2, none⟩ = some (.bool ov) ∧ X.cell? ⟨w.heap.size, 3, none⟩ = some (.bool sh)) (by kernel_rfl) ⟨k0, k1, k2, k3⟩ (fun hHeld => ?_)
  refine wpAnyH_pures' (fun d => ([1000, 1000, 1000, 10, 11, 1000, 1000, 1000, 1000, 1000, 1000, 1000, 1000, 1000, 1000, 1000, 1000, 0, 1, 2, 3, 4, 5, 6, 7, 8, 9] : List Nat).getD d 1000) [0, 1, 2, 3, 4, 5, 6, 7, 8, 9] 4 (by kernel_rfl) (by kernel_rfl) (by kernel_rfl) (fun _ _ _ _ _ h => h) (by assumption) (fun K hK => ?_)
  refine Ys_cons (v := ?_) rfl (Or.inl ⟨by rfl, ?_⟩) ?_
  rotate_left
  · intro w hSw; go_simp; (try with_reducible rfl)
  try simp only [Act.put, List.setIfInBounds_toArray, List.set_cons_zero, List.set_cons_succ, List.getElem_toArray, List.getElem_cons_zero, List.getElem_cons_succ]
  refine Ys_cons (v := ?_) rfl (Or.inl ⟨by rfl, ?_⟩) ?_
  rotate_left
  · intro w hSw; go_simp; (try with_reducible rfl)
  try simp only [Act.put, List.setIfInBounds_toArray, List.set_cons_zero, List.set_cons_succ, List.getElem_toArray, List.getElem_cons_zero, List.getElem_cons_succ]
  refine Ys_cons (v := ?_) rfl (Or.inl ⟨by rfl, ?_⟩) ?_
  rotate_left
  · intro w hSw; go_simp; (try with_reducible rfl)
  try simp only [Act.put, List.setIfInBounds_toArray, List.set_cons_zero, List.set_cons_succ, List.getElem_toArray, List.getElem_cons_zero, List.getElem_cons_succ]
  refine Ys_cons (v := ?_) rfl (Or.inl ⟨by rfl, ?_⟩) ?_
  rotate_left
  · intro w hSw; go_simp; (try with_reducible rfl)
  try simp only [Act.put, List.setIfInBounds_toArray, List.set_cons_zero, List.set_cons_succ, List.getElem_toArray, List.getElem_cons_zero, List.getElem_cons_succ]
  refine Ys_cons (v := ?_) rfl (Or.inl ⟨by rfl, ?_⟩) ?_
  rotate_left
  · intro w hSw; go_simp; (try with_reducible rfl)
  try simp only [Act.put, List.setIfInBounds_toArray, List.set_cons_zero, List.set_cons_succ, List.getElem_toArray, List.getElem_cons_zero, List.getElem_cons_succ]
  refine Ys_cons (v := ?_) rfl (Or.inl ⟨by rfl, ?_⟩) ?_
  rotate_left
  · intro w hSw; go_simp; (try with_reducible rfl)
  try simp only [Act.put, List.setIfInBounds_toArray, List.set_cons_zero, List.set_cons_succ, List.getElem_toArray, List.getElem_cons_zero, List.getElem_cons_succ]
  refine Ys_cons (v := ?_) rfl (Or.inl ⟨by rfl, ?_⟩) ?_
  rotate_left
  · intro w hSw; go_simp; (try with_reducible rfl)
  try simp only [Act.put, List.setIfInBounds_toArray, List.set_cons_zero, List.set_cons_succ, List.getElem_toArray, List.getElem_cons_zero, List.getElem_cons_succ]
  refine Ys_cons (v := ?_) rfl (Or.inl ⟨by rfl, ?_⟩) ?_
  rotate_left
  · intro w hSw; go_simp; (try with_reducible rfl)
  try simp only [Act.put, List.setIfInBounds_toArray, List.set_cons_zero, List.set_cons_succ, List.getElem_toArray, List.getElem_cons_zero, List.getElem_cons_succ]
  refine Ys_cons (v := ?_) rfl (Or.inl ⟨by rfl, ?_⟩) ?_
  rotate_left
  · intro w hSw; go_simp; (try with_reducible rfl)
  try simp only [Act.put, List.setIfInBounds_toArray, List.set_cons_zero, List.set_cons_succ, List.getElem_toArray, List.getElem_cons_zero, List.getElem_cons_succ]
  refine Ys_cons (v := ?_) rfl (Or.inl ⟨by rfl, ?_⟩) ?_
  rotate_left
  · intro w hSw; go_simp; (try with_reducible rfl)
  try simp only [Act.put, List.setIfInBounds_toArray, List.set_cons_zero, List.set_cons_succ, List.getElem_toArray, List.getElem_cons_zero, List.getElem_cons_succ]
  refine hK _ ?_
  clear hK K
  change wpAnyH _ _ _ _ _ _ #[true, true, true, true, true, true, true, true, true, true, false, false, false, false] _ _
  refine wpAnyH_ready (rs := [10, 11]) (by kernel_rfl) (by simp) ?_
  refine AllReadyH.cons rfl (fun K hK => ?_) (AllReadyH.cons rfl (fun K hK => ?_) AllReadyH.nil)
  · go_simp
    obtain ⟨V1, hV1⟩ : ∃ V1, (w1.alloc (.cells zero8 37)).drew = V1 := ⟨_, rfl⟩
    obtain ⟨na, hna⟩ : ∃ n : Nat, w1.heap.size = n := ⟨_, rfl⟩
    have FV1 : Fz w1 V1 [] := hV1 ▸ ((Fz.alloc w1 _).trans (Fz.drew _ 1)).mono (by simp)
    have ZnaV1 : Keep (Bk V1 na zero8 37) := ⟨hna ▸ hV1 ▸ (Bk.new w1 zero8 37).fz (Fz.drew _ 1) (by simp)⟩
    have Lna : Keep (w.heap.size ≤ na) := ⟨hna ▸ B1.out.size⟩
    have KBV1 : Keep (Below w.heap.size w V1) := ⟨B1.out.trans (FV1.toBelow B1.out.size (by simp))⟩
    have KPV1 := Keep.mk (KP1.out.fz FV1 (by simp))
    rw [hV1, hna]
    clear hV1 hna FV1
    refine hK.out _ _ ?_ (fun hHeld => ?_)
    · first | exact ⟨KPV4.out.c 0, KPV4.out.c 1, KPV4.out.c 2, KPV4.out.c 3⟩ | exact ⟨KPV3.out.c 0, KPV3.out.c 1, KPV3.out.c 2, KPV3.out.c 3⟩ | exact ⟨KPV2.out.c 0, KPV2.out.c 1, KPV2.out.c 2, KPV2.out.c 3⟩ | exact ⟨KPV1.out.c 0, KPV1.out.c 1, KPV1.out.c 2, KPV1.out.c 3⟩ | exact ⟨k0, k1, k2, k3⟩
    clear hK K
    try simp only [Act.put, List.setIfInBounds_toArray, List.set_cons_zero, List.set_cons_succ, List.getElem_toArray, List.getElem_cons_zero, List.getElem_cons_succ]
    refine wpAnyH_ready (rs := [11]) (by kernel_rfl) (by simp) ?_
    refine AllReadyH.cons rfl (fun K hK => ?_) AllReadyH.nil
    go_simp
    obtain ⟨V2, hV2⟩ : ∃ V2, V1.alloc (.cells zero8 37) = V2 := ⟨_, rfl⟩
    obtain ⟨nb, hnb⟩ : ∃ n : Nat, V1.heap.size = n := ⟨_, rfl⟩
    have FV2 : Fz V1 V2 [] := hV2 ▸ Fz.alloc _ _
    have ZnbV2 : Keep (Bk V2 nb zero8 37) := ⟨hnb ▸ hV2 ▸ Bk.new V1 zero8 37⟩
    have Lnb : Keep (w.heap.size ≤ nb) := ⟨hnb ▸ KBV1.out.size⟩
    have KBV2 : Keep (Below w.heap.size w V2) := ⟨KBV1.out.trans (FV2.toBelow KBV1.out.size (by simp))⟩
    have KPV2 := Keep.mk (KPV1.out.fz FV2 (by simp))
    have ZnaV2 := Keep.mk (ZnaV1.out.fz FV2 (by simp))
    have NE : Keep (na ≠ nb) := ⟨by have := ZnaV1.out.lt; rw [hnb] at this; omega⟩
    rw [hV2, hnb]
    clear hV2 hnb FV2
    refine hK.out _ _ ?_ (fun hHeld => ?_)
    · first | exact ⟨KPV4.out.c 0, KPV4.out.c 1, KPV4.out.c 2, KPV4.out.c 3⟩ | exact ⟨KPV3.out.c 0, KPV3.out.c 1, KPV3.out.c 2, KPV3.out.c 3⟩ | exact ⟨KPV2.out.c 0, KPV2.out.c 1, KPV2.out.c 2, KPV2.out.c 3⟩ | exact ⟨KPV1.out.c 0, KPV1.out.c 1, KPV1.out.c 2, KPV1.out.c 3⟩ | exact ⟨k0, k1, k2, k3⟩
    clear hK K
    try simp only [Act.put, List.setIfInBounds_toArray, List.set_cons_zero, List.set_cons_succ, List.getElem_toArray, List.getElem_cons_zero, List.getElem_cons_succ]
    refine wpAnyH_ready (rs := [12]) (by kernel_rfl) (by simp) ?_
    refine AllReadyH.cons rfl (fun K hK => ?_) AllReadyH.nil
    refine step_store_row rfl 37 (.tmp 3) (.tmp 21) rfl na (rdC A2 n2 c2 ov) rfl rfl 37 zero8 ZnaV2.out.eq (by kernel_rfl) rfl (by simp [Value.oneCell']) ?_
    obtain ⟨V3, hV3⟩ : ∃ V3, V2.setRow na (rdC A2 n2 c2 ov) = V3 := ⟨_, rfl⟩
    have FV3 : Fz V2 V3 [na] := hV3 ▸ Fz.row _ _ _
    have ZnaV3 : Keep (Bk V3 na (rdC A2 n2 c2 ov) 37) := ⟨hV3 ▸ ⟨setRow_heap _ _ _ _ _ _ ZnaV2.out.eq⟩⟩
    have KBV3 : Keep (Below w.heap.size w V3) := ⟨KBV2.out.trans (FV3.toBelow KBV2.out.size (by simp; exact Lna.out))⟩
    have KPV3 := Keep.mk (KPV2.out.fz FV3 (by simp; exact KPV2.out.ne_ty ZnaV2.out (by decide)))
    have ZnbV3 := Keep.mk (ZnbV2.out.fz FV3 (by simp; exact fun e => NE.out e.symm))
    rw [hV3]
    clear hV3 FV3
    refine hK.out _ _ ?_ (fun hHeld => ?_)
    · first | exact ⟨KPV4.out.c 0, KPV4.out.c 1, KPV4.out.c 2, KPV4.out.c 3⟩ | exact ⟨KPV3.out.c 0, KPV3.out.c 1, KPV3.out.c 2, KPV3.out.c 3⟩ | exact ⟨KPV2.out.c 0, KPV2.out.c 1, KPV2.out.c 2, KPV2.out.c 3⟩ | exact ⟨KPV1.out.c 0, KPV1.out.c 1, KPV1.out.c 2, KPV1.out.c 3⟩ | exact ⟨k0, k1, k2, k3⟩
    clear hK K
    try simp only [Act.put, List.setIfInBounds_toArray, List.set_cons_zero, List.set_cons_succ, List.getElem_toArray, List.getElem_cons_zero, List.getElem_cons_succ]
    refine wpAnyH_ready (rs := [13]) (by kernel_rfl) (by simp) ?_
    refine AllReadyH.cons rfl (fun K hK => ?_) AllReadyH.nil
    refine step_store_row rfl 37 (.tmp 4) (.tmp 26) rfl nb (wrC A1 n1 c1 sh) rfl rfl 37 zero8 ZnbV3.out.eq (by kernel_rfl) rfl (by simp [Value.oneCell']) ?_
    obtain ⟨V4, hV4⟩ : ∃ V4, V3.setRow nb (wrC A1 n1 c1 sh) = V4 := ⟨_, rfl⟩
    have FV4 : Fz V3 V4 [nb] := hV4 ▸ Fz.row _ _ _
    have ZnbV4 : Keep (Bk V4 nb (wrC A1 n1 c1 sh) 37) := ⟨hV4 ▸ ⟨setRow_heap _ _ _ _ _ _ ZnbV3.out.eq⟩⟩
    have KBV4 : Keep (Below w.heap.size w V4) := ⟨KBV3.out.trans (FV4.toBelow KBV3.out.size (by simp; exact Lnb.out))⟩
    have KPV4 := Keep.mk (KPV3.out.fz FV4 (by simp; exact KPV3.out.ne_ty ZnbV3.out (by decide)))
    have ZnaV4 := Keep.mk (ZnaV3.out.fz FV4 (by simp; exact NE.out))
    rw [hV4]
    clear hV4 FV4
    refine hK.out _ _ ?_ (fun hHeld => ?_)
    · first | exact ⟨KPV4.out.c 0, KPV4.out.c 1, KPV4.out.c 2, KPV4.out.c 3⟩ | exact ⟨KPV3.out.c 0, KPV3.out.c 1, KPV3.out.c 2, KPV3.out.c 3⟩ | exact ⟨KPV2.out.c 0, KPV2.out.c 1, KPV2.out.c 2, KPV2.out.c 3⟩ | exact ⟨KPV1.out.c 0, KPV1.out.c 1, KPV1.out.c 2, KPV1.out.c 3⟩ | exact ⟨k0, k1, k2, k3⟩
    clear hK K
    try simp only [Act.put, List.setIfInBounds_toArray, List.set_cons_zero, List.set_cons_succ, List.getElem_toArray, List.getElem_cons_zero, List.getElem_cons_succ]
    refine wpAnyH_done (by kernel_rfl) ?_ _
    refine NoPanic.normal ?_
    go_wp2_with fail
    have AF : Keep (∀ q, Calls Tryz.prog 10 #[.agg (rdC A2 n2 c2 ov), .agg (wrC A1 n1 c1 sh)] (V4.drewN q) fun e w' => e = .returned (.bool fb) ∧ Below (V4.drewN q).heap.size (V4.drewN q) w') := ⟨fun q => by
      have := afits_any ov sh (HH.out.1.below (below_drewN KBV4.out q)) (HH.out.2.1.below (below_drewN KBV4.out q)) HH.out.2.2.1 HH.out.2.2.2
      rw [hfb.out] at this
      exact this⟩
    refine wp_region_noPanic ?_
    refine wp_region_held_drew (S := fun X => X.cell? ⟨w.heap.size, 0, none⟩ = some (.slice A1 n1 c1) ∧ X.cell? ⟨w.heap.size, 1, none⟩ = some (.slice A2 n2 c2) ∧ X.cell? ⟨w.heap.size, 2, none⟩ = some (.bool ov) ∧ X.cell? ⟨w.heap.size, 3, none⟩ = some (.bool sh) ∧ X.cell? ⟨na, 0, none⟩ = some (.int .i64 0) ∧ X.cell? ⟨na, 1, none⟩ = some (.int .i64 0) ∧ X.cell? ⟨na, 2, none⟩ = some (.slice none 0 0) ∧ X.cell? ⟨na, 3, none⟩ = some (.slice A2 n2 c2) ∧ X.cell? ⟨na, 4, none⟩ = some (.bool false) ∧ X.cell? ⟨na, 5, none⟩ = some (.bool false) ∧ X.cell? ⟨na, 6, none⟩ = some (.bool ov) ∧ X.cell? ⟨na, 7, none⟩ = some (.int .i64 0) ∧ X.cell? ⟨nb, 0, none⟩ = some (.int .i64 0) ∧ X.cell? ⟨nb, 1, none⟩ = some (.int .i64 0) ∧ X.cell? ⟨nb, 2, none⟩ = some (.slice A1 n1 c1) ∧ X.cell? ⟨nb, 3, none⟩ = some (.slice none 0 0) ∧ X.cell? ⟨nb, 4, none⟩ = some (.bool sh) ∧ X.cell? ⟨nb, 5, none⟩ = some (.bool false) ∧ X.cell? ⟨nb, 6, none⟩ = some (.bool false) ∧ X.cell? ⟨nb, 7, none⟩ = some (.int .i64 0)) (by kernel_rfl) ⟨KPV4.out.c 0, KPV4.out.c 1, KPV4.out.c 2, KPV4.out.c 3, ZnaV4.out.c 0, ZnaV4.out.c 1, ZnaV4.out.c 2, ZnaV4.out.c 3, ZnaV4.out.c 4, ZnaV4.out.c 5, ZnaV4.out.c 6, ZnaV4.out.c 7, ZnbV4.out.c 0, ZnbV4.out.c 1, ZnbV4.out.c 2, ZnbV4.out.c 3, ZnbV4.out.c 4, ZnbV4.out.c 5, ZnbV4.out.c 6, ZnbV4.out.c 7⟩ (fun hHeld => ?_)
    refine wpAnyH_pures' (fun d => ([1000, 1000, 15, 1000, 1000, 1000, 1000, 1000, 1000, 1000, 1000, 1000, 1000, 1000, 1000, 1000, 1000, 1000, 1000, 1000, 1000, 1000, 1000, 1000, 1000, 1000, 1000, 0, 1, 2, 3, 4, 5, 6, 7, 8, 9, 10, 11, 12, 13, 14] : List Nat).getD d 1000) [0, 1, 3, 4, 5, 6, 7, 8, 9, 10, 11, 12] 4 (by kernel_rfl) (by kernel_rfl) (by kernel_rfl) (fun _ _ _ _ _ h => h) (by assumption) (fun K hK => ?_)
    refine Ys_cons (v := ?_) rfl (Or.inl ⟨by rfl, ?_⟩) ?_
    rotate_left
    · intro w hSw; go_simp; (try with_reducible rfl)
    try simp only [Act.put, List.setIfInBounds_toArray, List.set_cons_zero, List.set_cons_succ, List.getElem_toArray, List.getElem_cons_zero, List.getElem_cons_succ]
    refine Ys_cons (v := ?_) rfl (Or.inl ⟨by rfl, ?_⟩) ?_
    rotate_left
    · intro w hSw; go_simp; (try with_reducible rfl)
    try simp only [Act.put, List.setIfInBounds_toArray, List.set_cons_zero, List.set_cons_succ, List.getElem_toArray, List.getElem_cons_zero, List.getElem_cons_succ]
    refine Ys_cons (v := ?_) rfl (Or.inl ⟨by rfl, ?_⟩) ?_
    rotate_left
    · intro w hSw; go_simp; (try with_reducible rfl)
    try simp only [Act.put, List.setIfInBounds_toArray, List.set_cons_zero, List.set_cons_succ, List.getElem_toArray, List.getElem_cons_zero, List.getElem_cons_succ]
    refine Ys_cons (v := ?_) rfl (Or.inl ⟨by rfl, ?_⟩) ?_
    rotate_left
    · intro w hSw; go_simp; (try with_reducible rfl)
    try simp only [Act.put, List.setIfInBounds_toArray, List.set_cons_zero, List.set_cons_succ, List.getElem_toArray, List.getElem_cons_zero, List.getElem_cons_succ]
    refine Ys_cons (v := ?_) rfl (Or.inl ⟨by rfl, ?_⟩) ?_
    rotate_left
    · intro w hSw; go_simp; (try with_reducible rfl)
    try simp only [Act.put, List.setIfInBounds_toArray, List.set_cons_zero, List.set_cons_succ, List.getElem_toArray, List.getElem_cons_zero, List.getElem_cons_succ]
    refine Ys_cons (v := ?_) rfl (Or.inl ⟨by rfl, ?_⟩) ?_
    rotate_left
    · intro w hSw; go_simp; (try with_reducible rfl)
    try simp only [Act.put, List.setIfInBounds_toArray, List.set_cons_zero, List.set_cons_succ, List.getElem_toArray, List.getElem_cons_zero, List.getElem_cons_succ]
    refine Ys_cons (v := ?_) rfl (Or.inl ⟨by rfl, ?_⟩) ?_
    rotate_left
    · intro w hSw; go_simp; (try with_reducible rfl)
    try simp only [Act.put, List.setIfInBounds_toArray, List.set_cons_zero, List.set_cons_succ, List.getElem_toArray, List.getElem_cons_zero, List.getElem_cons_succ]
    refine Ys_cons (v := ?_) rfl (Or.inl ⟨by rfl, ?_⟩) ?_
    rotate_left
    · intro w hSw; go_simp; (try with_reducible rfl)
    try simp only [Act.put, List.setIfInBounds_toArray, List.set_cons_zero, List.set_cons_succ, List.getElem_toArray, List.getElem_cons_zero, List.getElem_cons_succ]
    refine Ys_cons (v := ?_) rfl (Or.inl ⟨by rfl, ?_⟩) ?_
    rotate_left
    · intro w hSw; go_simp; (try with_reducible rfl)
    try simp only [Act.put, List.setIfInBounds_toArray, List.set_cons_zero, List.set_cons_succ, List.getElem_toArray, List.getElem_cons_zero, List.getElem_cons_succ]
    refine Ys_cons (v := ?_) rfl (Or.inl ⟨by rfl, ?_⟩) ?_
    rotate_left
    · intro w hSw; go_simp; (try with_reducible rfl)
    try simp only [Act.put, List.setIfInBounds_toArray, List.set_cons_zero, List.set_cons_succ, List.getElem_toArray, List.getElem_cons_zero, List.getElem_cons_succ]
    refine Ys_cons (v := ?_) rfl (Or.inl ⟨by rfl, ?_⟩) ?_
    rotate_left
    · intro w hSw; go_simp; (try with_reducible rfl)
    try simp only [Act.put, List.setIfInBounds_toArray, List.set_cons_zero, List.set_cons_succ, List.getElem_toArray, List.getElem_cons_zero, List.getElem_cons_succ]
    refine Ys_cons (v := ?_) rfl (Or.inl ⟨by rfl, ?_⟩) ?_
    rotate_left
    · intro w hSw; go_simp; (try with_reducible rfl)
    try simp only [Act.put, List.setIfInBounds_toArray, List.set_cons_zero, List.set_cons_succ, List.getElem_toArray, List.getElem_cons_zero, List.getElem_cons_succ]
    refine hK _ ?_
    clear hK K
    change wpAnyH _ _ _ _ _ _ #[true, true, false, true, true, true, true, true, true, true, true, true, true, false, false, false] _ _
    refine wpAnyH_ready (rs := [2]) (by kernel_rfl) (by simp) ?_
    refine AllReadyH.cons rfl (fun K hK => ?_) AllReadyH.nil
    go_simp
    refine (AF.out 1).mono ?_
    rintro e w5 ⟨rfl, b5⟩
    have F5 := Fz.below b5 (Nat.le_refl _)
    have KPw5 := Keep.mk ((KPV4.out.fz (Fz.drew V4 1) (by simp)).fz F5 (by simp))
    have Znaw5 := Keep.mk ((ZnaV4.out.fz (Fz.drew V4 1) (by simp)).fz F5 (by simp))
    have Znbw5 := Keep.mk ((ZnbV4.out.fz (Fz.drew V4 1) (by simp)).fz F5 (by simp))
    have KB5 : Keep (Below w.heap.size w w5) := ⟨(below_drewN KBV4.out 1).trans (b5.mono KBV4.out.size)⟩
    have RF : Keep (Calls Tryz.prog 11 #[.agg (rrC A2 n2 c2 ov), .agg (rwC A1 n1 c1 sh)] w5 fun e w' => e = .returned (.bool fb) ∧ Below w5.heap.size w5 w') := ⟨by
      have := rfits_any ov sh (HH.out.1.below KB5.out) (HH.out.2.1.below KB5.out) HN.out.1 HN.out.2
      rw [hfb.out] at this
      exact this⟩
    clear b5 F5
    refine hK.out _ _ ?_ (fun hHeld => ?_)
    · first | exact ⟨KPw6.out.c 0, KPw6.out.c 1, KPw6.out.c 2, KPw6.out.c 3, Znaw6.out.c 0, Znaw6.out.c 1, Znaw6.out.c 2, Znaw6.out.c 3, Znaw6.out.c 4, Znaw6.out.c 5, Znaw6.out.c 6, Znaw6.out.c 7, Znbw6.out.c 0, Znbw6.out.c 1, Znbw6.out.c 2, Znbw6.out.c 3, Znbw6.out.c 4, Znbw6.out.c 5, Znbw6.out.c 6, Znbw6.out.c 7⟩ | exact ⟨KPw5.out.c 0, KPw5.out.c 1, KPw5.out.c 2, KPw5.out.c 3, Znaw5.out.c 0, Znaw5.out.c 1, Znaw5.out.c 2, Znaw5.out.c 3, Znaw5.out.c 4, Znaw5.out.c 5, Znaw5.out.c 6, Znaw5.out.c 7, Znbw5.out.c 0, Znbw5.out.c 1, Znbw5.out.c 2, Znbw5.out.c 3, Znbw5.out.c 4, Znbw5.out.c 5, Znbw5.out.c 6, Znbw5.out.c 7⟩ | exact ⟨KPV4.out.c 0, KPV4.out.c 1, KPV4.out.c 2, KPV4.out.c 3, ZnaV4.out.c 0, ZnaV4.out.c 1, ZnaV4.out.c 2, ZnaV4.out.c 3, ZnaV4.out.c 4, ZnaV4.out.c 5, ZnaV4.out.c 6, ZnaV4.out.c 7, ZnbV4.out.c 0, ZnbV4.out.c 1, ZnbV4.out.c 2, ZnbV4.out.c 3, ZnbV4.out.c 4, ZnbV4.out.c 5, ZnbV4.out.c 6, ZnbV4.out.c 7⟩
    clear hK K
    try simp only [Act.put, List.setIfInBounds_toArray, List.set_cons_zero, List.set_cons_succ, List.getElem_toArray, List.getElem_cons_zero, List.getElem_cons_succ]
    refine wpAnyH_ready (rs := [13]) (by kernel_rfl) (by simp) ?_
    refine AllReadyH.cons rfl (fun K hK => ?_) AllReadyH.nil
    go_simp
    refine RF.out.mono ?_
    rintro e w6 ⟨rfl, b6⟩
    have F6 := Fz.below b6 (Nat.le_refl _)
    have KPw6 := Keep.mk (KPw5.out.fz F6 (by simp))
    have Znaw6 := Keep.mk (Znaw5.out.fz F6 (by simp))
    have Znbw6 := Keep.mk (Znbw5.out.fz F6 (by simp))
    have KB6 : Keep (Below w.heap.size w w6) := ⟨KB5.out.trans (b6.mono KB5.out.size)⟩
    clear b6 F6
    refine hK.out _ _ ?_ (fun hHeld => ?_)
    · first | exact ⟨KPw6.out.c 0, KPw6.out.c 1, KPw6.out.c 2, KPw6.out.c 3, Znaw6.out.c 0, Znaw6.out.c 1, Znaw6.out.c 2, Znaw6.out.c 3, Znaw6.out.c 4, Znaw6.out.c 5, Znaw6.out.c 6, Znaw6.out.c 7, Znbw6.out.c 0, Znbw6.out.c 1, Znbw6.out.c 2, Znbw6.out.c 3, Znbw6.out.c 4, Znbw6.out.c 5, Znbw6.out.c 6, Znbw6.out.c 7⟩ | exact ⟨KPw5.out.c 0, KPw5.out.c 1, KPw5.out.c 2, KPw5.out.c 3, Znaw5.out.c 0, Znaw5.out.c 1, Znaw5.out.c 2, Znaw5.out.c 3, Znaw5.out.c 4, Znaw5.out.c 5, Znaw5.out.c 6, Znaw5.out.c 7, Znbw5.out.c 0, Znbw5.out.c 1, Znbw5.out.c 2, Znbw5.out.c 3, Znbw5.out.c 4, Znbw5.out.c 5, Znbw5.out.c 6, Znbw5.out.c 7⟩ | exact ⟨KPV4.out.c 0, KPV4.out.c 1, KPV4.out.c 2, KPV4.out.c 3, ZnaV4.out.c 0, ZnaV4.out.c 1, ZnaV4.out.c 2, ZnaV4.out.c 3, ZnaV4.out.c 4, ZnaV4.out.c 5, ZnaV4.out.c 6, ZnaV4.out.c 7, ZnbV4.out.c 0, ZnbV4.out.c 1, ZnbV4.out.c 2, ZnbV4.out.c 3, ZnbV4.out.c 4, ZnbV4.out.c 5, ZnbV4.out.c 6, ZnbV4.out.c 7⟩
    clear hK K
    try simp only [Act.put, List.setIfInBounds_toArray, List.set_cons_zero, List.set_cons_succ, List.getElem_toArray, List.getElem_cons_zero, List.getElem_cons_succ]
    refine wpAnyH_pures' (fun d => ([1000, 1000, 15, 1000, 1000, 1000, 1000, 1000, 1000, 1000, 1000, 1000, 1000, 1000, 1000, 1000, 1000, 1000, 1000, 1000, 1000, 1000, 1000, 1000, 1000, 1000, 1000, 0, 1, 2, 3, 4, 5, 6, 7, 8, 9, 10, 11, 12, 13, 14] : List Nat).getD d 1000) [14, 15] 0 (by kernel_rfl) (by kernel_rfl) (by kernel_rfl) (fun _ _ _ _ _ h => h) (by assumption) (fun K hK => ?_)
    refine Ys_cons (v := ?_) rfl (Or.inl ⟨by rfl, ?_⟩) ?_
    rotate_left
    · intro w hSw; go_simp; (try with_reducible rfl)
    try simp only [Act.put, List.setIfInBounds_toArray, List.set_cons_zero, List.set_cons_succ, List.getElem_toArray, List.getElem_cons_zero, List.getElem_cons_succ]
    refine Ys_cons (v := ?_) rfl (Or.inl ⟨by rfl, ?_⟩) ?_
    rotate_left
    · intro w hSw; go_simp; (try with_reducible rfl)
    try simp only [Act.put, List.setIfInBounds_toArray, List.set_cons_zero, List.set_cons_succ, List.getElem_toArray, List.getElem_cons_zero, List.getElem_cons_succ]
    refine hK _ ?_
    clear hK K
    change wpAnyH _ _ _ _ _ _ #[true, true, true, true, true, true, true, true, true, true, true, true, true, true, true, true] _ _
    refine wpAnyH_done (by kernel_rfl) ?_ _
    refine NoPanic.normal ?_
    go_wp2_with fail
    go_ret
    exact ⟨by cases fb <;> rfl, KB6.out⟩
  · go_simp
    obtain ⟨V1, hV1⟩ : ∃ V1, (w1.alloc (.cells zero8 37)).drew = V1 := ⟨_, rfl⟩
    obtain ⟨nb, hnb⟩ : ∃ n : Nat, w1.heap.size = n := ⟨_, rfl⟩
    have FV1 : Fz w1 V1 [] := hV1 ▸ ((Fz.alloc w1 _).trans (Fz.drew _ 1)).mono (by simp)
    have ZnbV1 : Keep (Bk V1 nb zero8 37) := ⟨hnb ▸ hV1 ▸ (Bk.new w1 zero8 37).fz (Fz.drew _ 1) (by simp)⟩
    have Lnb : Keep (w.heap.size ≤ nb) := ⟨hnb ▸ B1.out.size⟩
    have KBV1 : Keep (Below w.heap.size w V1) := ⟨B1.out.trans (FV1.toBelow B1.out.size (by simp))⟩
    have KPV1 := Keep.mk (KP1.out.fz FV1 (by simp))
    rw [hV1, hnb]
    clear hV1 hnb FV1
    refine hK.out _ _ ?_ (fun hHeld => ?_)
    · first | exact ⟨KPV4.out.c 0, KPV4.out.c 1, KPV4.out.c 2, KPV4.out.c 3⟩ | exact ⟨KPV3.out.c 0, KPV3.out.c 1, KPV3.out.c 2, KPV3.out.c 3⟩ | exact ⟨KPV2.out.c 0, KPV2.out.c 1, KPV2.out.c 2, KPV2.out.c 3⟩ | exact ⟨KPV1.out.c 0, KPV1.out.c 1, KPV1.out.c 2, KPV1.out.c 3⟩ | exact ⟨k0, k1, k2, k3⟩
    clear hK K
    try simp only [Act.put, List.setIfInBounds_toArray, List.set_cons_zero, List.set_cons_succ, List.getElem_toArray, List.getElem_cons_zero, List.getElem_cons_succ]
    refine wpAnyH_ready (rs := [10]) (by kernel_rfl) (by simp) ?_
    refine AllReadyH.cons rfl (fun K hK => ?_) AllReadyH.nil
    go_simp
    obtain ⟨V2, hV2⟩ : ∃ V2, V1.alloc (.cells zero8 37) = V2 := ⟨_, rfl⟩
    obtain ⟨na, hna⟩ : ∃ n : Nat, V1.heap.size = n := ⟨_, rfl⟩
    have FV2 : Fz V1 V2 [] := hV2 ▸ Fz.alloc _ _
    have ZnaV2 : Keep (Bk V2 na zero8 37) := ⟨hna ▸ hV2 ▸ Bk.new V1 zero8 37⟩
    have Lna : Keep (w.heap.size ≤ na) := ⟨hna ▸ KBV1.out.size⟩
    have KBV2 : Keep (Below w.heap.size w V2) := ⟨KBV1.out.trans (FV2.toBelow KBV1.out.size (by simp))⟩
    have KPV2 := Keep.mk (KPV1.out.fz FV2 (by simp))
    have ZnbV2 := Keep.mk (ZnbV1.out.fz FV2 (by simp))
    have NE : Keep (na ≠ nb) := ⟨by have := ZnbV1.out.lt; rw [hna] at this; omega⟩
    rw [hV2, hna]
    clear hV2 hna FV2
    refine hK.out _ _ ?_ (fun hHeld => ?_)
    · first | exact ⟨KPV4.out.c 0, KPV4.out.c 1, KPV4.out.c 2, KPV4.out.c 3⟩ | exact ⟨KPV3.out.c 0, KPV3.out.c 1, KPV3.out.c 2, KPV3.out.c 3⟩ | exact ⟨KPV2.out.c 0, KPV2.out.c 1, KPV2.out.c 2, KPV2.out.c 3⟩ | exact ⟨KPV1.out.c 0, KPV1.out.c 1, KPV1.out.c 2, KPV1.out.c 3⟩ | exact ⟨k0, k1, k2, k3⟩
    clear hK K
    try simp only [Act.put, List.setIfInBounds_toArray, List.set_cons_zero, List.set_cons_succ, List.getElem_toArray, List.getElem_cons_zero, List.getElem_cons_succ]
    refine wpAnyH_ready (rs := [12]) (by kernel_rfl) (by simp) ?_
    refine AllReadyH.cons rfl (fun K hK => ?_) AllReadyH.nil
    refine step_store_row rfl 37 (.tmp 3) (.tmp 21) rfl na (rdC A2 n2 c2 ov) rfl rfl 37 zero8 ZnaV2.out.eq (by kernel_rfl) rfl (by simp [Value.oneCell']) ?_
    obtain ⟨V3, hV3⟩ : ∃ V3, V2.setRow na (rdC A2 n2 c2 ov) = V3 := ⟨_, rfl⟩
    have FV3 : Fz V2 V3 [na] := hV3 ▸ Fz.row _ _ _
    have ZnaV3 : Keep (Bk V3 na (rdC A2 n2 c2 ov) 37) := ⟨hV3 ▸ ⟨setRow_heap _ _ _ _ _ _ ZnaV2.out.eq⟩⟩
    have KBV3 : Keep (Below w.heap.size w V3) := ⟨KBV2.out.trans (FV3.toBelow KBV2.out.size (by simp; exact Lna.out))⟩
    have KPV3 := Keep.mk (KPV2.out.fz FV3 (by simp; exact KPV2.out.ne_ty ZnaV2.out (by decide)))
    have ZnbV3 := Keep.mk (ZnbV2.out.fz FV3 (by simp; exact fun e => NE.out e.symm))
    rw [hV3]
    clear hV3 FV3
    refine hK.out _ _ ?_ (fun hHeld => ?_)
    · first | exact ⟨KPV4.out.c 0, KPV4.out.c 1, KPV4.out.c 2, KPV4.out.c 3⟩ | exact ⟨KPV3.out.c 0, KPV3.out.c 1, KPV3.out.c 2, KPV3.out.c 3⟩ | exact ⟨KPV2.out.c 0, KPV2.out.c 1, KPV2.out.c 2, KPV2.out.c 3⟩ | exact ⟨KPV1.out.c 0, KPV1.out.c 1, KPV1.out.c 2, KPV1.out.c 3⟩ | exact ⟨k0, k1, k2, k3⟩
    clear hK K
    try simp only [Act.put, List.setIfInBounds_toArray, List.set_cons_zero, List.set_cons_succ, List.getElem_toArray, List.getElem_cons_zero, List.getElem_cons_succ]
    refine wpAnyH_ready (rs := [13]) (by kernel_rfl) (by simp) ?_
    refine AllReadyH.cons rfl (fun K hK => ?_) AllReadyH.nil
    refine step_store_row rfl 37 (.tmp 4) (.tmp 26) rfl nb (wrC A1 n1 c1 sh) rfl rfl 37 zero8 ZnbV3.out.eq (by kernel_rfl) rfl (by simp [Value.oneCell']) ?_
    obtain ⟨V4, hV4⟩ : ∃ V4, V3.setRow nb (wrC A1 n1 c1 sh) = V4 := ⟨_, rfl⟩
    have FV4 : Fz V3 V4 [nb] := hV4 ▸ Fz.row _ _ _
    have ZnbV4 : Keep (Bk V4 nb (wrC A1 n1 c1 sh) 37) := ⟨hV4 ▸ ⟨setRow_heap _ _ _ _ _ _ ZnbV3.out.eq⟩⟩
    have KBV4 : Keep (Below w.heap.size w V4) := ⟨KBV3.out.trans (FV4.toBelow KBV3.out.size (by simp; exact Lnb.out))⟩
    have KPV4 := Keep.mk (KPV3.out.fz FV4 (by simp; exact KPV3.out.ne_ty ZnbV3.out (by decide)))
    have ZnaV4 := Keep.mk (ZnaV3.out.fz FV4 (by simp; exact NE.out))
    rw [hV4]
    clear hV4 FV4
    refine hK.out _ _ ?_ (fun hHeld => ?_)
    · first | exact ⟨KPV4.out.c 0, KPV4.out.c 1, KPV4.out.c 2, KPV4.out.c 3⟩ | exact ⟨KPV3.out.c 0, KPV3.out.c 1, KPV3.out.c 2, KPV3.out.c 3⟩ | exact ⟨KPV2.out.c 0, KPV2.out.c 1, KPV2.out.c 2, KPV2.out.c 3⟩ | exact ⟨KPV1.out.c 0, KPV1.out.c 1, KPV1.out.c 2, KPV1.out.c 3⟩ | exact ⟨k0, k1, k2, k3⟩
    clear hK K
    try simp only [Act.put, List.setIfInBounds_toArray, List.set_cons_zero, List.set_cons_succ, List.getElem_toArray, List.getElem_cons_zero, List.getElem_cons_succ]
    refine wpAnyH_done (by kernel_rfl) ?_ _
    refine NoPanic.normal ?_
    go_wp2_with fail
    have AF : Keep (∀ q, Calls Tryz.prog 10 #[.agg (rdC A2 n2 c2 ov), .agg (wrC A1 n1 c1 sh)] (V4.drewN q) fun e w' => e = .returned (.bool fb) ∧ Below (V4.drewN q).heap.size (V4.drewN q) w') := ⟨fun q => by
      have := afits_any ov sh (HH.out.1.below (below_drewN KBV4.out q)) (HH.out.2.1.below (below_drewN KBV4.out q)) HH.out.2.2.1 HH.out.2.2.2
      rw [hfb.out] at this
      exact this⟩
    refine wp_region_noPanic ?_
    refine wp_region_held_drew (S := fun X => X.cell? ⟨w.heap.size, 0, none⟩ = some (.slice A1 n1 c1) ∧ X.cell? ⟨w.heap.size, 1, none⟩ = some (.slice A2 n2 c2) ∧ X.cell? ⟨w.heap.size, 2, none⟩ = some (.bool ov) ∧ X.cell? ⟨w.heap.size, 3, none⟩ = some (.bool sh) ∧ X.cell? ⟨na, 0, none⟩ = some (.int .i64 0) ∧ X.cell? ⟨na, 1, none⟩ = some (.int .i64 0) ∧ X.cell? ⟨na, 2, none⟩ = some (.slice none 0 0) ∧ X.cell? ⟨na, 3, none⟩ = some (.slice A2 n2 c2) ∧ X.cell? ⟨na, 4, none⟩ = some (.bool false) ∧ X.cell? ⟨na, 5, none⟩ = some (.bool false) ∧ X.cell? ⟨na, 6, none⟩ = some (.bool ov) ∧ X.cell? ⟨na, 7, none⟩ = some (.int .i64 0) ∧ X.cell? ⟨nb, 0, none⟩ = some (.int .i64 0) ∧ X.cell? ⟨nb, 1, none⟩ = some (.int .i64 0) ∧ X.cell? ⟨nb, 2, none⟩ = some (.slice A1 n1 c1) ∧ X.cell? ⟨nb, 3, none⟩ = some (.slice none 0 0) ∧ X.cell? ⟨nb, 4, none⟩ = some (.bool sh) ∧ X.cell? ⟨nb, 5, none⟩ = some (.bool false) ∧ X.cell? ⟨nb, 6, none⟩ = some (.bool false) ∧ X.cell? ⟨nb, 7, none⟩ = some (.int .i64 0)) (by kernel_rfl) ⟨KPV4.out.c 0, KPV4.out.c 1, KPV4.out.c 2, KPV4.out.c 3, ZnaV4.out.c 0, ZnaV4.out.c 1, ZnaV4.out.c 2, ZnaV4.out.c 3, ZnaV4.out.c 4, ZnaV4.out.c 5, ZnaV4.out.c 6, ZnaV4.out.c 7, ZnbV4.out.c 0, ZnbV4.out.c 1, ZnbV4.out.c 2, ZnbV4.out.c 3, ZnbV4.out.c 4, ZnbV4.out.c 5, ZnbV4.out.c 6, ZnbV4.out.c 7⟩ (fun hHeld => ?_)
    refine wpAnyH_pures' (fun d => ([1000, 1000, 15, 1000, 1000, 1000, 1000, 1000, 1000, 1000, 1000, 1000, 1000, 1000, 1000, 1000, 1000, 1000, 1000, 1000, 1000, 1000, 1000, 1000, 1000, 1000, 1000, 0, 1, 2, 3, 4, 5, 6, 7, 8, 9, 10, 11, 12, 13, 14] : List Nat).getD d 1000) [0, 1, 3, 4, 5, 6, 7, 8, 9, 10, 11, 12] 4 (by kernel_rfl) (by kernel_rfl) (by kernel_rfl) (fun _ _ _ _ _ h => h) (by assumption) (fun K hK => ?_)
    refine Ys_cons (v := ?_) rfl (Or.inl ⟨by rfl, ?_⟩) ?_
    rotate_left
    · intro w hSw; go_simp; (try with_reducible rfl)
    try simp only [Act.put, List.setIfInBounds_toArray, List.set_cons_zero, List.set_cons_succ, List.getElem_toArray, List.getElem_cons_zero, List.getElem_cons_succ]
    refine Ys_cons (v := ?_) rfl (Or.inl ⟨by rfl, ?_⟩) ?_
    rotate_left
    · intro w hSw; go_simp; (try with_reducible rfl)
    try simp only [Act.put, List.setIfInBounds_toArray, List.set_cons_zero, List.set_cons_succ, List.getElem_toArray, List.getElem_cons_zero, List.getElem_cons_succ]
    refine Ys_cons (v := ?_) rfl (Or.inl ⟨by rfl, ?_⟩) ?_
    rotate_left
    · intro w hSw; go_simp; (try with_reducible rfl)
    try simp only [Act.put, List.setIfInBounds_toArray, List.set_cons_zero, List.set_cons_succ, List.getElem_toArray, List.getElem_cons_zero, List.getElem_cons_succ]
    refine Ys_cons (v := ?_) rfl (Or.inl ⟨by rfl, ?_⟩) ?_
    rotate_left
    · intro w hSw; go_simp; (try with_reducible rfl)
    try simp only [Act.put, List.setIfInBounds_toArray, List.set_cons_zero, List.set_cons_succ, List.getElem_toArray, List.getElem_cons_zero, List.getElem_cons_succ]
    refine Ys_cons (v := ?_) rfl (Or.inl ⟨by rfl, ?_⟩) ?_
    rotate_left
    · intro w hSw; go_simp; (try with_reducible rfl)
    try simp only [Act.put, List.setIfInBounds_toArray, List.set_cons_zero, List.set_cons_succ, List.getElem_toArray, List.getElem_cons_zero, List.getElem_cons_succ]
    refine Ys_cons (v := ?_) rfl (Or.inl ⟨by rfl, ?_⟩) ?_
    rotate_left
    · intro w hSw; go_simp; (try with_reducible rfl)
    try simp only [Act.put, List.setIfInBounds_toArray, List.set_cons_zero, List.set_cons_succ, List.getElem_toArray, List.getElem_cons_zero, List.getElem_cons_succ]
    refine Ys_cons (v := ?_) rfl (Or.inl ⟨by rfl, ?_⟩) ?_
    rotate_left
    · intro w hSw; go_simp; (try with_reducible rfl)
    try simp only [Act.put, List.setIfInBounds_toArray, List.set_cons_zero, List.set_cons_succ, List.getElem_toArray, List.getElem_cons_zero, List.getElem_cons_succ]
    refine Ys_cons (v := ?_) rfl (Or.inl ⟨by rfl, ?_⟩) ?_
    rotate_left
    · intro w hSw; go_simp; (try with_reducible rfl)
    try simp only [Act.put, List.setIfInBounds_toArray, List.set_cons_zero, List.set_cons_succ, List.getElem_toArray, List.getElem_cons_zero, List.getElem_cons_succ]
    refine Ys_cons (v := ?_) rfl (Or.inl ⟨by rfl, ?_⟩) ?_
    rotate_left
    · intro w hSw; go_simp; (try with_reducible rfl)
    try simp only [Act.put, List.setIfInBounds_toArray, List.set_cons_zero, List.set_cons_succ, List.getElem_toArray, List.getElem_cons_zero, List.getElem_cons_succ]
    refine Ys_cons (v := ?_) rfl (Or.inl ⟨by rfl, ?_⟩) ?_
    rotate_left
    · intro w hSw; go_simp; (try with_reducible rfl)
    try simp only [Act.put, List.setIfInBounds_toArray, List.set_cons_zero, List.set_cons_succ, List.getElem_toArray, List.getElem_cons_zero, List.getElem_cons_succ]
    refine Ys_cons (v := ?_) rfl (Or.inl ⟨by rfl, ?_⟩) ?_
    rotate_left
    · intro w hSw; go_simp; (try with_reducible rfl)
    try simp only [Act.put, List.setIfInBounds_toArray, List.set_cons_zero, List.set_cons_succ, List.getElem_toArray, List.getElem_cons_zero, List.getElem_cons_succ]
    refine Ys_cons (v := ?_) rfl (Or.inl ⟨by rfl, ?_⟩) ?_
    rotate_left
    · intro w hSw; go_simp; (try with_reducible rfl)
    try simp only [Act.put, List.setIfInBounds_toArray, List.set_cons_zero, List.set_cons_succ, List.getElem_toArray, List.getElem_cons_zero, List.getElem_cons_succ]
    refine hK _ ?_
    clear hK K
    change wpAnyH _ _ _ _ _ _ #[true, true, false, true, true, true, true, true, true, true, true, true, true, false, false, false] _ _
    refine wpAnyH_ready (rs := [2]) (by kernel_rfl) (by simp) ?_
    refine AllReadyH.cons rfl (fun K hK => ?_) AllReadyH.nil
    go_simp
    refine (AF.out 1).mono ?_
    rintro e w5 ⟨rfl, b5⟩
    have F5 := Fz.below b5 (Nat.le_refl _)
    have KPw5 := Keep.mk ((KPV4.out.fz (Fz.drew V4 1) (by simp)).fz F5 (by simp))
    have Znaw5 := Keep.mk ((ZnaV4.out.fz (Fz.drew V4 1) (by simp)).fz F5 (by simp))
    have Znbw5 := Keep.mk ((ZnbV4.out.fz (Fz.drew V4 1) (by simp)).fz F5 (by simp))
    have KB5 : Keep (Below w.heap.size w w5) := ⟨(below_drewN KBV4.out 1).trans (b5.mono KBV4.out.size)⟩
    have RF : Keep (Calls Tryz.prog 11 #[.agg (rrC A2 n2 c2 ov), .agg (rwC A1 n1 c1 sh)] w5 fun e w' => e = .returned (.bool fb) ∧ Below w5.heap.size w5 w') := ⟨by
      have := rfits_any ov sh (HH.out.1.below KB5.out) (HH.out.2.1.below KB5.out) HN.out.1 HN.out.2
      rw [hfb.out] at this
      exact this⟩
    clear b5 F5
    refine hK.out _ _ ?_ (fun hHeld => ?_)
    · first | exact ⟨KPw6.out.c 0, KPw6.out.c 1, KPw6.out.c 2, KPw6.out.c 3, Znaw6.out.c 0, Znaw6.out.c 1, Znaw6.out.c 2, Znaw6.out.c 3, Znaw6.out.c 4, Znaw6.out.c 5, Znaw6.out.c 6, Znaw6.out.c 7, Znbw6.out.c 0, Znbw6.out.c 1, Znbw6.out.c 2, Znbw6.out.c 3, Znbw6.out.c 4, Znbw6.out.c 5, Znbw6.out.c 6, Znbw6.out.c 7⟩ | exact ⟨KPw5.out.c 0, KPw5.out.c 1, KPw5.out.c 2, KPw5.out.c 3, Znaw5.out.c 0, Znaw5.out.c 1, Znaw5.out.c 2, Znaw5.out.c 3, Znaw5.out.c 4, Znaw5.out.c 5, Znaw5.out.c 6, Znaw5.out.c 7, Znbw5.out.c 0, Znbw5.out.c 1, Znbw5.out.c 2, Znbw5.out.c 3, Znbw5.out.c 4, Znbw5.out.c 5, Znbw5.out.c 6, Znbw5.out.c 7⟩ | exact ⟨KPV4.out.c 0, KPV4.out.c 1, KPV4.out.c 2, KPV4.out.c 3, ZnaV4.out.c 0, ZnaV4.out.c 1, ZnaV4.out.c 2, ZnaV4.out.c 3, ZnaV4.out.c 4, ZnaV4.out.c 5, ZnaV4.out.c 6, ZnaV4.out.c 7, ZnbV4.out.c 0, ZnbV4.out.c 1, ZnbV4.out.c 2, ZnbV4.out.c 3, ZnbV4.out.c 4, ZnbV4.out.c 5, ZnbV4.out.c 6, ZnbV4.out.c 7⟩
    clear hK K
    try simp only [Act.put, List.setIfInBounds_toArray, List.set_cons_zero, List.set_cons_succ, List.getElem_toArray, List.getElem_cons_zero, List.getElem_cons_succ]
    refine wpAnyH_ready (rs := [13]) (by kernel_rfl) (by simp) ?_
    refine AllReadyH.cons rfl (fun K hK => ?_) AllReadyH.nil
    go_simp
    refine RF.out.mono ?_
    rintro e w6 ⟨rfl, b6⟩
    have F6 := Fz.below b6 (Nat.le_refl _)
    have KPw6 := Keep.mk (KPw5.out.fz F6 (by simp))
    have Znaw6 := Keep.mk (Znaw5.out.fz F6 (by simp))
    have Znbw6 := Keep.mk (Znbw5.out.fz F6 (by simp))
    have KB6 : Keep (Below w.heap.size w w6) := ⟨KB5.out.trans (b6.mono KB5.out.size)⟩
    clear b6 F6
    refine hK.out _ _ ?_ (fun hHeld => ?_)
    · first | exact ⟨KPw6.out.c 0, KPw6.out.c 1, KPw6.out.c 2, KPw6.out.c 3, Znaw6.out.c 0, Znaw6.out.c 1, Znaw6.out.c 2, Znaw6.out.c 3, Znaw6.out.c 4, Znaw6.out.c 5, Znaw6.out.c 6, Znaw6.out.c 7, Znbw6.out.c 0, Znbw6.out.c 1, Znbw6.out.c 2, Znbw6.out.c 3, Znbw6.out.c 4, Znbw6.out.c 5, Znbw6.out.c 6, Znbw6.out.c 7⟩ | exact ⟨KPw5.out.c 0, KPw5.out.c 1, KPw5.out.c 2, KPw5.out.c 3, Znaw5.out.c 0, Znaw5.out.c 1, Znaw5.out.c 2, Znaw5.out.c 3, Znaw5.out.c 4, Znaw5.out.c 5, Znaw5.out.c 6, Znaw5.out.c 7, Znbw5.out.c 0, Znbw5.out.c 1, Znbw5.out.c 2, Znbw5.out.c 3, Znbw5.out.c 4, Znbw5.out.c 5, Znbw5.out.c 6, Znbw5.out.c 7⟩ | exact ⟨KPV4.out.c 0, KPV4.out.c 1, KPV4.out.c 2, KPV4.out.c 3, ZnaV4.out.c 0, ZnaV4.out.c 1, ZnaV4.out.c 2, ZnaV4.out.c 3, ZnaV4.out.c 4, ZnaV4.out.c 5, ZnaV4.out.c 6, ZnaV4.out.c 7, ZnbV4.out.c 0, ZnbV4.out.c 1, ZnbV4.out.c 2, ZnbV4.out.c 3, ZnbV4.out.c 4, ZnbV4.out.c 5, ZnbV4.out.c 6, ZnbV4.out.c 7⟩
    clear hK K
    try simp only [Act.put, List.setIfInBounds_toArray, List.set_cons_zero, List.set_cons_succ, List.getElem_toArray, List.getElem_cons_zero, List.getElem_cons_succ]
    refine wpAnyH_pures' (fun d => ([1000, 1000, 15, 1000, 1000, 1000, 1000, 1000, 1000, 1000, 1000, 1000, 1000, 1000, 1000, 1000, 1000, 1000, 1000, 1000, 1000, 1000, 1000, 1000, 1000, 1000, 1000, 0, 1, 2, 3, 4, 5, 6, 7, 8, 9, 10, 11, 12, 13, 14] : List Nat).getD d 1000) [14, 15] 0 (by kernel_rfl) (by kernel_rfl) (by kernel_rfl) (fun _ _ _ _ _ h => h) (by assumption) (fun K hK => ?_)
    refine Ys_cons (v := ?_) rfl (Or.inl ⟨by rfl, ?_⟩) ?_
    rotate_left
    · intro w hSw; go_simp; (try with_reducible rfl)
    try simp only [Act.put, List.setIfInBounds_toArray, List.set_cons_zero, List.set_cons_succ, List.getElem_toArray, List.getElem_cons_zero, List.getElem_cons_succ]
    refine Ys_cons (v := ?_) rfl (Or.inl ⟨by rfl, ?_⟩) ?_
    rotate_left
    · intro w hSw; go_simp; (try with_reducible rfl)
    try simp only [Act.put, List.setIfInBounds_toArray, List.set_cons_zero, List.set_cons_succ, List.getElem_toArray, List.getElem_cons_zero, List.getElem_cons_succ]
    refine hK _ ?_
    clear hK K
    change wpAnyH _ _ _ _ _ _ #[true, true, true, true, true, true, true, true, true, true, true, true, true, true, true, true] _ _
    refine wpAnyH_done (by kernel_rfl) ?_ _
    refine NoPanic.normal ?_
    go_wp2_with fail
    go_ret
    exact ⟨by cases fb <;> rfl, KB6.out⟩
  -- end reg
end Go.Proofs.YtfjdhdeiaakbaaaGreatDoor
