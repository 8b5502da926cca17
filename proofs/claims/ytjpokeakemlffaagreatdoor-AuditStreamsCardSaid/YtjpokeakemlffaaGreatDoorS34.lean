/-
  Walks and laws, one behind the other (part 34).
-/
import Derived.Lib.LazyBuf
import Derived.Test.YtjpokeakemlffaaGreatDoorS33
set_option linter.unusedSimpArgs false
set_option linter.unusedVariables false
/-
  A world notes what was told.
-/
namespace Go.Proofs.YtjpokeakemlffaaGreatDoor
open Go.RowKit Go.Maps
set_option maxRecDepth 100000 in
theorem bclone_nil (w : World) : Calls Tryz.prog 44 #[.slice none 0 0] w fun e w' => e = .returned (.slice none 0 0) ∧ w' = w := by
  have hq : ∀ w', (binOp .eql 24 (.slice none 0 0) (.slice none 0 0)).run Tryz.prog w' = .ok (.bool true) w' := fun w' => run_eql_slice_nil w' _ _ none 0 0 Tryz.underlying24
  go_enter Tryz.func44, Tryz.ntmps44
  go_wp2_with fail
  go_ret
  exact ⟨rfl, rfl⟩
set_option maxRecDepth 100000 in
theorem hnow_any {w : World} {hb tb : Nat} {seed drawn made tick : Int} {pv ports lv outv : Value} (h : Bk w hb (hostC seed drawn pv ports lv made tb tick outv) 92) :
    Calls Tryz.prog 94 #[.pointer (some ⟨hb, 0, none⟩)] w fun e w' => e = .returned (.int .i64 tick) ∧ w' = w := by
  have c7 : w.cell? ⟨hb, 7, none⟩ = some (.int .i64 tick) := h.c 7
  clear h
  go_enter Tryz.func94, Tryz.ntmps94
  go_wp2_with fail
  go_ret
  exact ⟨rfl, rfl⟩
abbrev entC (k s a b c : Int) : Array Value := #[.int .i64 k, .int .i64 s, .int .i64 a, .int .i64 b, .int .i64 c]
section
variable {w : World} {wb h0 h1 nb : Nat} {n0 n1 : Int} {lv dv : Value}
set_option maxRecDepth 100000 in
set_option maxHeartbeats 1600000 in
theorem wside_zero (k a b c : Int) (hw : Bk w wb (wldC h0 h1 nb n0 n1 lv dv) 73) :
    Calls Tryz.prog 56 #[.pointer (some ⟨wb, 0, none⟩), .agg (entC k 0 a b c)] w fun e w' => e = .returned (.pointer (some ⟨h0, 0, none⟩)) ∧ Below w.heap.size w w' := by
  have c0 : w.cell? ⟨wb, 0, none⟩ = some (.pointer (some ⟨h0, 0, none⟩)) := hw.c 0
  have hlt := hw.lt
  have hd : bits .and .i64 0 1 = 0 := by decide
  have HB : Keep (Below w.heap.size w (w.alloc (.cells (entC k 0 a b c) 45))) := ⟨(Below.refl _ w).alloc (Nat.le_refl _) _⟩
  have NB := Bk.new w (entC k 0 a b c) 45
  have x1 : (w.alloc (.cells (entC k 0 a b c) 45)).cell? ⟨w.heap.size, 1, none⟩ = some (.int .i64 0) := NB.c 1
  clear hw NB
  go_enter Tryz.func56, Tryz.ntmps56
  go_wp2_with fail
  go_quiet (fail)
  go_wp2_with fail
  go_ret
  exact ⟨rfl, HB.out.trans (below_drewN (Below.refl _ _) _)⟩
theorem infoTold : (Tryz.prog.info? 27).map (fun i => (i.zero, i.size, i.bytes)) = some (some (.agg #[.int .i64 0, .int .i64 0, .int .i64 0, .int .i64 0, .int .i64 0, .slice none 0 0, .int .i64 0]), 7, 72) := by kernel_rfl
abbrev toldC (tick k hd x : Int) : List Value := [.int .i64 0, .int .i64 tick, .int .i64 k, .int .i64 hd, .int .i64 0, .slice none 0 0, .int .i64 x]
set_option maxRecDepth 100000 in
set_option maxHeartbeats 3200000 in
theorem wsay_zero {lo n t0 : Nat} {L : List Value} {seed drawn made tick : Int} {pv ports hl outv : Value} (k a b c hd x : Int) (hw : Bk w wb (wldC h0 h1 nb n0 n1 lv dv) 73) (hh : Bk w h0 (hostC seed drawn pv ports hl made t0 tick outv) 92)
    (hL : w.ownsRow lo 27 7 lv n L) (hlo : lo ≤ w.heap.size) (hn : n ≤ 1000) :
    Calls Tryz.prog 58 #[.pointer (some ⟨wb, 0, none⟩), .agg (entC k 0 a b c), .int .i64 hd, .slice none 0 0, .int .i64 x] w fun e w' => e = .returned (.tuple #[]) ∧ ∃ lv', Bk w' wb (wldC h0 h1 nb n0 n1 lv' dv) 73 ∧
      w'.ownsRow lo 27 7 lv' (n + 1) (L ++ toldC tick k hd x) ∧ Fz w w' (wb :: lv.ownBlock.toList) := by
  obtain ⟨A, cc, rfl, _⟩ := own_slice hL
  have X0 := Fz.alloc w (.cells (entC k 0 a b c) 45)
  obtain ⟨w0, hw0⟩ : ∃ w0, w.alloc (.cells (entC k 0 a b c) 45) = w0 := ⟨_, rfl⟩
  have N0 := Bk.new w (entC k 0 a b c) 45
  rw [hw0] at X0 N0
  have W0 := hw.fz X0 (by simp)
  have H0 := hh.fz X0 (by simp)
  have L0 : w0.ownsRow lo 27 7 (.slice A n cc) n L := own_blockW hL (fun kb e => let ⟨_, _, h2⟩ := own_ty hL e; X0.block kb h2.lt (by simp))
  have D1 := Fz.drew w0 1
  have KX := Keep.mk ((X0.trans D1).mono (cs' := []) (by simp))
  have KW := Keep.mk (W0.fz D1 (by simp))
  have KH := Keep.mk (H0.fz D1 (by simp))
  have KN := Keep.mk (N0.fz D1 (by simp))
  have KL : Keep ((w0.drewN 1).ownsRow lo 27 7 (.slice A n cc) n L ∧ lo ≤ w.heap.size ∧ n ≤ 1000) := ⟨own_blockW L0 (fun kb e => let ⟨_, _, h2⟩ := own_ty L0 e; D1.block kb h2.lt (by simp)), hlo, hn⟩
  have HLT : Keep (w.heap.size < w0.heap.size ∧ wb < w.heap.size) := ⟨N0.lt, hw.lt⟩
  clear hw hh hL hlo hn X0 N0 W0 H0 L0 D1
  go_enter Tryz.func58, Tryz.ntmps58
  go_wp2_with (rw [hw0]; clear hw0; fail)
  try rw [hw0]
  have hbit : bits .and .i64 0 1 = 0 := by decide
  have e5 : w0.drew.cell? ⟨wb, 5, none⟩ = some (.slice A n cc) := KW.out.c 5
  -- reg say
  refine wp_region_noPanic ?_
  refine wp_region_held_drew (S := fun X => X.cell? ⟨w.heap.size, 0, none⟩ = some (.int .i64 k) ∧ X.cell? ⟨w.heap.size, 1, none⟩ = some (.int .i64 0) ∧ X.cell? ⟨w.heap.size, 2, none⟩ = some (.int .i64 a) ∧ X.cell? ⟨w.heap.size, 3, none⟩ = some (.int .i64 b) ∧ X.cell? ⟨w.heap.size, 4, none⟩ = some (.int .i64 c)) (by kernel_rfl) ⟨KN.out.c 0, KN.out.c 1, KN.out.c 2, KN.out.c 3, KN.out.c 4⟩ (fun hHeld => ?_)
  refine wpAnyH_take (i := 0) (v := ?_) rfl (by kernel_rfl) (by kernel_rfl) (by kernel_rfl) (fun _ _ _ h => h) (Or.inl ⟨by rfl, ?_⟩) (by assumption) ?_
  rotate_left
  · intro w hSw; go_simp; (try with_reducible rfl)
  try simp only [Act.put, List.setIfInBounds_toArray, List.set_cons_zero, List.set_cons_succ, List.getElem_toArray, List.getElem_cons_zero, List.getElem_cons_succ]
  refine wpAnyH_take (i := 1) (v := ?_) rfl (by kernel_rfl) (by kernel_rfl) (by kernel_rfl) (fun _ _ _ h => h) (Or.inl ⟨by rfl, ?_⟩) (by assumption) ?_
  rotate_left
  · intro w hSw; go_simp; (try with_reducible rfl)
  try simp only [Act.put, List.setIfInBounds_toArray, List.set_cons_zero, List.set_cons_succ, List.getElem_toArray, List.getElem_cons_zero, List.getElem_cons_succ]
  refine wpAnyH_take (i := 2) (v := ?_) rfl (by kernel_rfl) (by kernel_rfl) (by kernel_rfl) (fun _ _ _ h => h) (Or.inl ⟨by rfl, ?_⟩) (by assumption) ?_
  rotate_left
  · intro w hSw; go_simp; (try with_reducible rfl)
  try simp only [Act.put, List.setIfInBounds_toArray, List.set_cons_zero, List.set_cons_succ, List.getElem_toArray, List.getElem_cons_zero, List.getElem_cons_succ]
  refine wpAnyH_take (i := 3) (v := ?_) rfl (by kernel_rfl) (by kernel_rfl) (by kernel_rfl) (fun _ _ _ h => h) (Or.inl ⟨by rfl, ?_⟩) (by assumption) ?_
  rotate_left
  · intro w hSw; go_simp; (try with_reducible rfl)
  try simp only [Act.put, List.setIfInBounds_toArray, List.set_cons_zero, List.set_cons_succ, List.getElem_toArray, List.getElem_cons_zero, List.getElem_cons_succ]
  refine wpAnyH_take (i := 5) (v := ?_) rfl (by kernel_rfl) (by kernel_rfl) (by kernel_rfl) (fun _ _ _ h => h) (Or.inl ⟨by rfl, ?_⟩) (by assumption) ?_
  rotate_left
  · intro w hSw; go_simp; (try with_reducible rfl)
  try simp only [Act.put, List.setIfInBounds_toArray, List.set_cons_zero, List.set_cons_succ, List.getElem_toArray, List.getElem_cons_zero, List.getElem_cons_succ]
  refine wpAnyH_take (i := 6) (v := ?_) rfl (by kernel_rfl) (by kernel_rfl) (by kernel_rfl) (fun _ _ _ h => h) (Or.inl ⟨by rfl, ?_⟩) (by assumption) ?_
  rotate_left
  · intro w hSw; go_simp; (try with_reducible rfl)
  try simp only [Act.put, List.setIfInBounds_toArray, List.set_cons_zero, List.set_cons_succ, List.getElem_toArray, List.getElem_cons_zero, List.getElem_cons_succ]
  refine wpAnyH_take (i := 7) (v := ?_) rfl (by kernel_rfl) (by kernel_rfl) (by kernel_rfl) (fun _ _ _ h => h) (Or.inl ⟨by rfl, ?_⟩) (by assumption) ?_
  rotate_left
  · intro w hSw; go_simp; (try with_reducible rfl)
  try simp only [Act.put, List.setIfInBounds_toArray, List.set_cons_zero, List.set_cons_succ, List.getElem_toArray, List.getElem_cons_zero, List.getElem_cons_succ]
  refine wpAnyH_take (i := 8) (v := ?_) rfl (by kernel_rfl) (by kernel_rfl) (by kernel_rfl) (fun _ _ _ h => h) (Or.inl ⟨by rfl, ?_⟩) (by assumption) ?_
  rotate_left
  · intro w hSw; go_simp; (try with_reducible rfl)
  try simp only [Act.put, List.setIfInBounds_toArray, List.set_cons_zero, List.set_cons_succ, List.getElem_toArray, List.getElem_cons_zero, List.getElem_cons_succ]
  refine wpAnyH_take (i := 9) (v := ?_) rfl (by kernel_rfl) (by kernel_rfl) (by kernel_rfl) (fun _ _ _ h => h) (Or.inl ⟨by rfl, ?_⟩) (by assumption) ?_
  rotate_left
  · intro w hSw; go_simp; (try with_reducible rfl)
  try simp only [Act.put, List.setIfInBounds_toArray, List.set_cons_zero, List.set_cons_succ, List.getElem_toArray, List.getElem_cons_zero, List.getElem_cons_succ]
  refine wpAnyH_take (i := 12) (v := ?_) rfl (by kernel_rfl) (by kernel_rfl) (by kernel_rfl) (fun _ _ _ h => h) (Or.inl ⟨by rfl, ?_⟩) (by assumption) ?_
  rotate_left
  · intro w hSw; go_simp; (try with_reducible rfl)
  try simp only [Act.put, List.setIfInBounds_toArray, List.set_cons_zero, List.set_cons_succ, List.getElem_toArray, List.getElem_cons_zero, List.getElem_cons_succ]
  refine wpAnyH_take (i := 13) (v := ?_) rfl (by kernel_rfl) (by kernel_rfl) (by kernel_rfl) (fun _ _ _ h => h) (Or.inl ⟨by rfl, ?_⟩) (by assumption) ?_
  rotate_left
  · intro w hSw; go_simp; (try with_reducible rfl)
  try simp only [Act.put, List.setIfInBounds_toArray, List.set_cons_zero, List.set_cons_succ, List.getElem_toArray, List.getElem_cons_zero, List.getElem_cons_succ]
  refine wpAnyH_take (i := 14) (v := ?_) rfl (by kernel_rfl) (by kernel_rfl) (by kernel_rfl) (fun _ _ _ h => h) (Or.inl ⟨by rfl, ?_⟩) (by assumption) ?_
  rotate_left
  · intro w hSw; go_simp; (try with_reducible rfl)
  try simp only [Act.put, List.setIfInBounds_toArray, List.set_cons_zero, List.set_cons_succ, List.getElem_toArray, List.getElem_cons_zero, List.getElem_cons_succ]
  refine wpAnyH_take (i := 15) (v := ?_) rfl (by kernel_rfl) (by kernel_rfl) (by kernel_rfl) (fun _ _ _ h => h) (Or.inl ⟨by rfl, ?_⟩) (by assumption) ?_
  rotate_left
  · intro w hSw; go_simp; (try with_reducible rfl)
  try simp only [Act.put, List.setIfInBounds_toArray, List.set_cons_zero, List.set_cons_succ, List.getElem_toArray, List.getElem_cons_zero, List.getElem_cons_succ]
  refine wpAnyH_take (i := 16) (v := ?_) rfl (by kernel_rfl) (by kernel_rfl) (by kernel_rfl) (fun _ _ _ h => h) (Or.inl ⟨by rfl, ?_⟩) (by assumption) ?_
  rotate_left
  · intro w hSw; go_simp; (try with_reducible rfl)
  try simp only [Act.put, List.setIfInBounds_toArray, List.set_cons_zero, List.set_cons_succ, List.getElem_toArray, List.getElem_cons_zero, List.getElem_cons_succ]
  refine wpAnyH_take (i := 17) (v := ?_) rfl (by kernel_rfl) (by kernel_rfl) (by kernel_rfl) (fun _ _ _ h => h) (Or.inl ⟨by rfl, ?_⟩) (by assumption) ?_
  rotate_left
  · intro w hSw; go_simp; (try with_reducible rfl)
  try simp only [Act.put, List.setIfInBounds_toArray, List.set_cons_zero, List.set_cons_succ, List.getElem_toArray, List.getElem_cons_zero, List.getElem_cons_succ]
  refine wpAnyH_take (i := 19) (v := ?_) rfl (by kernel_rfl) (by kernel_rfl) (by kernel_rfl) (fun _ _ _ h => h) (Or.inl ⟨by rfl, ?_⟩) (by assumption) ?_
  rotate_left
  · intro w hSw; go_simp; (try with_reducible rfl)
  try simp only [Act.put, List.setIfInBounds_toArray, List.set_cons_zero, List.set_cons_succ, List.getElem_toArray, List.getElem_cons_zero, List.getElem_cons_succ]
  refine wpAnyH_ready (rs := [4, 10]) (by kernel_rfl) (by simp) ?_
  refine AllReadyH.cons rfl (fun K hK => ?_) (AllReadyH.cons rfl (fun K hK => ?_) AllReadyH.nil)
  · go_simp
    refine hK.out _ _ ?_ (fun hHeld => ?_)
    · first | exact ⟨KN.out.c 0, KN.out.c 1, KN.out.c 2, KN.out.c 3, KN.out.c 4⟩ | exact ⟨KN1.out.c 0, KN1.out.c 1, KN1.out.c 2, KN1.out.c 3, KN1.out.c 4⟩ | exact ⟨KN2.out.c 0, KN2.out.c 1, KN2.out.c 2, KN2.out.c 3, KN2.out.c 4⟩ | exact ⟨KN3.out.c 0, KN3.out.c 1, KN3.out.c 2, KN3.out.c 3, KN3.out.c 4⟩ | exact ⟨(KN3.out.fz (Fz.set w3 wb 5 (.slice A9 n9 k9)) (by simp; have := HLT.out.2; omega)).c 0, (KN3.out.fz (Fz.set w3 wb 5 (.slice A9 n9 k9)) (by simp; have := HLT.out.2; omega)).c 1, (KN3.out.fz (Fz.set w3 wb 5 (.slice A9 n9 k9)) (by simp; have := HLT.out.2; omega)).c 2, (KN3.out.fz (Fz.set w3 wb 5 (.slice A9 n9 k9)) (by simp; have := HLT.out.2; omega)).c 3, (KN3.out.fz (Fz.set w3 wb 5 (.slice A9 n9 k9)) (by simp; have := HLT.out.2; omega)).c 4⟩
    clear hK K
    try simp only [Act.put, List.setIfInBounds_toArray, List.set_cons_zero, List.set_cons_succ, List.getElem_toArray, List.getElem_cons_zero, List.getElem_cons_succ]
    refine wpAnyH_ready (rs := [10]) (by kernel_rfl) (by simp) ?_
    refine AllReadyH.cons rfl (fun K hK => ?_) AllReadyH.nil
    go_simp
    refine (wside_zero k a b c KW.out).mono ?_
    rintro e w1 ⟨rfl, b1⟩
    have F1 := Fz.below b1 (Nat.le_refl _)
    have KW1 := Keep.mk (KW.out.fz F1 (by simp))
    have KH1 := Keep.mk (KH.out.fz F1 (by simp))
    have KN1 := Keep.mk (KN.out.fz F1 (by simp))
    have KX1 : Keep (Fz w w1 []) := ⟨(KX.out.trans F1).mono (by simp)⟩
    have KL1 : Keep (w1.ownsRow lo 27 7 (.slice A n cc) n L) := ⟨own_blockW KL.out.1 (fun kb e => let ⟨_, _, h2⟩ := own_ty KL.out.1 e; F1.block kb h2.lt (by simp))⟩
    have e5b : w1.cell? ⟨wb, 5, none⟩ = some (.slice A n cc) := KW1.out.c 5
    clear b1 F1
    refine hK.out _ _ ?_ (fun hHeld => ?_)
    · first | exact ⟨KN.out.c 0, KN.out.c 1, KN.out.c 2, KN.out.c 3, KN.out.c 4⟩ | exact ⟨KN1.out.c 0, KN1.out.c 1, KN1.out.c 2, KN1.out.c 3, KN1.out.c 4⟩ | exact ⟨KN2.out.c 0, KN2.out.c 1, KN2.out.c 2, KN2.out.c 3, KN2.out.c 4⟩ | exact ⟨KN3.out.c 0, KN3.out.c 1, KN3.out.c 2, KN3.out.c 3, KN3.out.c 4⟩ | exact ⟨(KN3.out.fz (Fz.set w3 wb 5 (.slice A9 n9 k9)) (by simp; have := HLT.out.2; omega)).c 0, (KN3.out.fz (Fz.set w3 wb 5 (.slice A9 n9 k9)) (by simp; have := HLT.out.2; omega)).c 1, (KN3.out.fz (Fz.set w3 wb 5 (.slice A9 n9 k9)) (by simp; have := HLT.out.2; omega)).c 2, (KN3.out.fz (Fz.set w3 wb 5 (.slice A9 n9 k9)) (by simp; have := HLT.out.2; omega)).c 3, (KN3.out.fz (Fz.set w3 wb 5 (.slice A9 n9 k9)) (by simp; have := HLT.out.2; omega)).c 4⟩
    clear hK K
    try simp only [Act.put, List.setIfInBounds_toArray, List.set_cons_zero, List.set_cons_succ, List.getElem_toArray, List.getElem_cons_zero, List.getElem_cons_succ]
    refine wpAnyH_ready (rs := [11]) (by kernel_rfl) (by simp) ?_
    refine AllReadyH.cons rfl (fun K hK => ?_) AllReadyH.nil
    go_simp
    refine (hnow_any KH1.out).mono ?_
    rintro e X ⟨rfl, hX⟩
    rw [hX]
    clear hX X
    refine hK.out _ _ ?_ (fun hHeld => ?_)
    · first | exact ⟨KN.out.c 0, KN.out.c 1, KN.out.c 2, KN.out.c 3, KN.out.c 4⟩ | exact ⟨KN1.out.c 0, KN1.out.c 1, KN1.out.c 2, KN1.out.c 3, KN1.out.c 4⟩ | exact ⟨KN2.out.c 0, KN2.out.c 1, KN2.out.c 2, KN2.out.c 3, KN2.out.c 4⟩ | exact ⟨KN3.out.c 0, KN3.out.c 1, KN3.out.c 2, KN3.out.c 3, KN3.out.c 4⟩ | exact ⟨(KN3.out.fz (Fz.set w3 wb 5 (.slice A9 n9 k9)) (by simp; have := HLT.out.2; omega)).c 0, (KN3.out.fz (Fz.set w3 wb 5 (.slice A9 n9 k9)) (by simp; have := HLT.out.2; omega)).c 1, (KN3.out.fz (Fz.set w3 wb 5 (.slice A9 n9 k9)) (by simp; have := HLT.out.2; omega)).c 2, (KN3.out.fz (Fz.set w3 wb 5 (.slice A9 n9 k9)) (by simp; have := HLT.out.2; omega)).c 3, (KN3.out.fz (Fz.set w3 wb 5 (.slice A9 n9 k9)) (by simp; have := HLT.out.2; omega)).c 4⟩
    clear hK K
    try simp only [Act.put, List.setIfInBounds_toArray, List.set_cons_zero, List.set_cons_succ, List.getElem_toArray, List.getElem_cons_zero, List.getElem_cons_succ]
    refine wpAnyH_ready (rs := [18]) (by kernel_rfl) (by simp) ?_
    refine AllReadyH.cons rfl (fun K hK => ?_) AllReadyH.nil
    go_simp
    refine (bclone_nil _).mono ?_
    rintro e X ⟨rfl, hX⟩
    rw [hX]
    clear hX X
    refine hK.out _ _ ?_ (fun hHeld => ?_)
    · first | exact ⟨KN.out.c 0, KN.out.c 1, KN.out.c 2, KN.out.c 3, KN.out.c 4⟩ | exact ⟨KN1.out.c 0, KN1.out.c 1, KN1.out.c 2, KN1.out.c 3, KN1.out.c 4⟩ | exact ⟨KN2.out.c 0, KN2.out.c 1, KN2.out.c 2, KN2.out.c 3, KN2.out.c 4⟩ | exact ⟨KN3.out.c 0, KN3.out.c 1, KN3.out.c 2, KN3.out.c 3, KN3.out.c 4⟩ | exact ⟨(KN3.out.fz (Fz.set w3 wb 5 (.slice A9 n9 k9)) (by simp; have := HLT.out.2; omega)).c 0, (KN3.out.fz (Fz.set w3 wb 5 (.slice A9 n9 k9)) (by simp; have := HLT.out.2; omega)).c 1, (KN3.out.fz (Fz.set w3 wb 5 (.slice A9 n9 k9)) (by simp; have := HLT.out.2; omega)).c 2, (KN3.out.fz (Fz.set w3 wb 5 (.slice A9 n9 k9)) (by simp; have := HLT.out.2; omega)).c 3, (KN3.out.fz (Fz.set w3 wb 5 (.slice A9 n9 k9)) (by simp; have := HLT.out.2; omega)).c 4⟩
    clear hK K
    try simp only [Act.put, List.setIfInBounds_toArray, List.set_cons_zero, List.set_cons_succ, List.getElem_toArray, List.getElem_cons_zero, List.getElem_cons_succ]
    refine wpAnyH_take (i := 20) (v := ?_) rfl (by kernel_rfl) (by kernel_rfl) (by kernel_rfl) (fun _ _ _ h => h) (Or.inl ⟨by rfl, ?_⟩) (by assumption) ?_
    rotate_left
    · intro w hSw; go_simp; (try with_reducible rfl)
    try simp only [Act.put, List.setIfInBounds_toArray, List.set_cons_zero, List.set_cons_succ, List.getElem_toArray, List.getElem_cons_zero, List.getElem_cons_succ]
    refine wpAnyH_ready (rs := [21]) (by kernel_rfl) (by simp) ?_
    refine AllReadyH.cons rfl (fun K hK => ?_) AllReadyH.nil
    go_simp
    have F2 := Fz.alloc w1 (.cells (toldC tick k hd x).toArray 27)
    have KW2 := Keep.mk (KW1.out.fz F2 (by simp))
    have KN2 := Keep.mk (KN1.out.fz F2 (by simp))
    have KT2 := Keep.mk (Bk.new w1 (toldC tick k hd x).toArray 27)
    have KX2 : Keep (Fz w (w1.alloc (.cells (toldC tick k hd x).toArray 27)) []) := ⟨(KX1.out.trans F2).mono (by simp)⟩
    have KL2 : Keep ((w1.alloc (.cells (toldC tick k hd x).toArray 27)).ownsRow lo 27 7 (.slice A n cc) n L) := ⟨own_blockW KL1.out (fun kb e => let ⟨_, _, h2⟩ := own_ty KL1.out e; F2.block kb h2.lt (by simp))⟩
    have e5c : (w1.alloc (.cells (toldC tick k hd x).toArray 27)).cell? ⟨wb, 5, none⟩ = some (.slice A n cc) := KW2.out.c 5
    clear F2
    refine hK.out _ _ ?_ (fun hHeld => ?_)
    · first | exact ⟨KN.out.c 0, KN.out.c 1, KN.out.c 2, KN.out.c 3, KN.out.c 4⟩ | exact ⟨KN1.out.c 0, KN1.out.c 1, KN1.out.c 2, KN1.out.c 3, KN1.out.c 4⟩ | exact ⟨KN2.out.c 0, KN2.out.c 1, KN2.out.c 2, KN2.out.c 3, KN2.out.c 4⟩ | exact ⟨KN3.out.c 0, KN3.out.c 1, KN3.out.c 2, KN3.out.c 3, KN3.out.c 4⟩ | exact ⟨(KN3.out.fz (Fz.set w3 wb 5 (.slice A9 n9 k9)) (by simp; have := HLT.out.2; omega)).c 0, (KN3.out.fz (Fz.set w3 wb 5 (.slice A9 n9 k9)) (by simp; have := HLT.out.2; omega)).c 1, (KN3.out.fz (Fz.set w3 wb 5 (.slice A9 n9 k9)) (by simp; have := HLT.out.2; omega)).c 2, (KN3.out.fz (Fz.set w3 wb 5 (.slice A9 n9 k9)) (by simp; have := HLT.out.2; omega)).c 3, (KN3.out.fz (Fz.set w3 wb 5 (.slice A9 n9 k9)) (by simp; have := HLT.out.2; omega)).c 4⟩
    clear hK K
    try simp only [Act.put, List.setIfInBounds_toArray, List.set_cons_zero, List.set_cons_succ, List.getElem_toArray, List.getElem_cons_zero, List.getElem_cons_succ]
    refine wpAnyH_ready (rs := [22]) (by kernel_rfl) (by simp) ?_
    refine AllReadyH.cons rfl (fun K hK => ?_) AllReadyH.nil
    refine step_more rfl (.tmp 14) (.tmp 31) 22 27 rfl Tryz.underlying22 infoTold rfl (by omega) (by omega) (.slice A n cc) rfl w1.heap.size (toldC tick k hd x) rfl rfl (fun j u hu => ?_) ?_ (by simp [Value.oneCell']) lo n L KL2.out (Nat.le_trans KL.out.2.1 KX2.out.size) (by have := KL.out.2.2; omega) ?_
    · exact (KT2.out.c j).trans (Array.getElem?_toList.symm.trans hu)
    · exact KT2.out.lt
    intro v' w3 ho3 hg3 hv3
    obtain ⟨A9, n9, k9, rfl⟩ : ∃ A n k, v' = Value.slice A n k := by
      obtain ⟨A, c, h, _⟩ := own_slice ho3
      exact ⟨A, _, c, h⟩
    have F3 := Fz.grown hg3
    have NIN : ∀ {y : Nat} {arr : Array Value} {ty : TypeId}, Bk (w1.alloc (.cells (toldC tick k hd x).toArray 27)) y arr ty → 27 ≠ ty → y ∉ (Value.slice A n cc).ownBlock.toList := fun hb ht hm => by
      obtain ⟨_, cur, h2⟩ := own_ty KL2.out (by simpa using hm)
      exact h2.ne_ty hb ht rfl
    have KW3 := Keep.mk (KW2.out.fz F3 (NIN KW2.out (by decide)))
    have KN3 := Keep.mk (KN2.out.fz F3 (NIN KN2.out (by decide)))
    have KX3 : Keep (Fz w w3 (Value.slice A n cc).ownBlock.toList) := ⟨(KX2.out.trans F3).mono (by simp)⟩
    have KO3 := Keep.mk ho3
    have f5 := KW3.out.free 5
    have d5 : w3.cell? ⟨wb, 5, none⟩ = some (.slice A n cc) := KW3.out.c 5
    clear ho3 hg3 hv3 F3 NIN
    refine hK.out _ _ ?_ (fun hHeld => ?_)
    · first | exact ⟨KN.out.c 0, KN.out.c 1, KN.out.c 2, KN.out.c 3, KN.out.c 4⟩ | exact ⟨KN1.out.c 0, KN1.out.c 1, KN1.out.c 2, KN1.out.c 3, KN1.out.c 4⟩ | exact ⟨KN2.out.c 0, KN2.out.c 1, KN2.out.c 2, KN2.out.c 3, KN2.out.c 4⟩ | exact ⟨KN3.out.c 0, KN3.out.c 1, KN3.out.c 2, KN3.out.c 3, KN3.out.c 4⟩ | exact ⟨(KN3.out.fz (Fz.set w3 wb 5 (.slice A9 n9 k9)) (by simp; have := HLT.out.2; omega)).c 0, (KN3.out.fz (Fz.set w3 wb 5 (.slice A9 n9 k9)) (by simp; have := HLT.out.2; omega)).c 1, (KN3.out.fz (Fz.set w3 wb 5 (.slice A9 n9 k9)) (by simp; have := HLT.out.2; omega)).c 2, (KN3.out.fz (Fz.set w3 wb 5 (.slice A9 n9 k9)) (by simp; have := HLT.out.2; omega)).c 3, (KN3.out.fz (Fz.set w3 wb 5 (.slice A9 n9 k9)) (by simp; have := HLT.out.2; omega)).c 4⟩
    clear hK K
    try simp only [Act.put, List.setIfInBounds_toArray, List.set_cons_zero, List.set_cons_succ, List.getElem_toArray, List.getElem_cons_zero, List.getElem_cons_succ]
    refine wpAnyH_take (i := 23) (v := ?_) rfl (by kernel_rfl) (by kernel_rfl) (by kernel_rfl) (fun _ _ _ h => h) (Or.inl ⟨by rfl, ?_⟩) (by assumption) ?_
    rotate_left
    · intro w hSw; go_simp; (try with_reducible rfl)
    try simp only [Act.put, List.setIfInBounds_toArray, List.set_cons_zero, List.set_cons_succ, List.getElem_toArray, List.getElem_cons_zero, List.getElem_cons_succ]
    refine wpAnyH_take (i := 24) (v := ?_) rfl (by kernel_rfl) (by kernel_rfl) (by kernel_rfl) (fun _ _ _ h => h) (Or.inl ⟨by rfl, ?_⟩) (by assumption) ?_
    rotate_left
    · intro w hSw; go_simp; (try with_reducible rfl)
    try simp only [Act.put, List.setIfInBounds_toArray, List.set_cons_zero, List.set_cons_succ, List.getElem_toArray, List.getElem_cons_zero, List.getElem_cons_succ]
    refine wpAnyH_ready (rs := [25]) (by kernel_rfl) (by simp) ?_
    refine AllReadyH.cons rfl (fun K hK => ?_) AllReadyH.nil
    go_simp
    refine hK.out _ _ ?_ (fun hHeld => ?_)
    · first | exact ⟨KN.out.c 0, KN.out.c 1, KN.out.c 2, KN.out.c 3, KN.out.c 4⟩ | exact ⟨KN1.out.c 0, KN1.out.c 1, KN1.out.c 2, KN1.out.c 3, KN1.out.c 4⟩ | exact ⟨KN2.out.c 0, KN2.out.c 1, KN2.out.c 2, KN2.out.c 3, KN2.out.c 4⟩ | exact ⟨KN3.out.c 0, KN3.out.c 1, KN3.out.c 2, KN3.out.c 3, KN3.out.c 4⟩ | exact ⟨(KN3.out.fz (Fz.set w3 wb 5 (.slice A9 n9 k9)) (by simp; have := HLT.out.2; omega)).c 0, (KN3.out.fz (Fz.set w3 wb 5 (.slice A9 n9 k9)) (by simp; have := HLT.out.2; omega)).c 1, (KN3.out.fz (Fz.set w3 wb 5 (.slice A9 n9 k9)) (by simp; have := HLT.out.2; omega)).c 2, (KN3.out.fz (Fz.set w3 wb 5 (.slice A9 n9 k9)) (by simp; have := HLT.out.2; omega)).c 3, (KN3.out.fz (Fz.set w3 wb 5 (.slice A9 n9 k9)) (by simp; have := HLT.out.2; omega)).c 4⟩
    clear hK K
    try simp only [Act.put, List.setIfInBounds_toArray, List.set_cons_zero, List.set_cons_succ, List.getElem_toArray, List.getElem_cons_zero, List.getElem_cons_succ]
    refine wpAnyH_done (by kernel_rfl) ?_ _
    refine NoPanic.normal ?_
    go_wp2_with fail
    go_end0
    exact ⟨rfl, _, KW3.out.set 5 (.slice A9 n9 k9), own_blockW KO3.out (fun kb e => (Fz.set w3 wb 5 (.slice A9 n9 k9)).block kb (let ⟨_, _, h2⟩ := own_ty KO3.out e; h2.lt) (by
      simp
      rintro rfl
      obtain ⟨_, _, h2⟩ := own_ty KO3.out e
      exact h2.ne_ty KW3.out (by decide) rfl)), (KX3.out.trans (Fz.set w3 wb 5 (.slice A9 n9 k9))).mono (by intro y _ hy; simp only [List.mem_append, List.mem_cons, List.not_mem_nil, or_false] at hy ⊢; exact hy.symm)⟩
  · go_simp
    refine (wside_zero k a b c KW.out).mono ?_
    rintro e w1 ⟨rfl, b1⟩
    have F1 := Fz.below b1 (Nat.le_refl _)
    have KW1 := Keep.mk (KW.out.fz F1 (by simp))
    have KH1 := Keep.mk (KH.out.fz F1 (by simp))
    have KN1 := Keep.mk (KN.out.fz F1 (by simp))
    have KX1 : Keep (Fz w w1 []) := ⟨(KX.out.trans F1).mono (by simp)⟩
    have KL1 : Keep (w1.ownsRow lo 27 7 (.slice A n cc) n L) := ⟨own_blockW KL.out.1 (fun kb e => let ⟨_, _, h2⟩ := own_ty KL.out.1 e; F1.block kb h2.lt (by simp))⟩
    have e5b : w1.cell? ⟨wb, 5, none⟩ = some (.slice A n cc) := KW1.out.c 5
    clear b1 F1
    refine hK.out _ _ ?_ (fun hHeld => ?_)
    · first | exact ⟨KN.out.c 0, KN.out.c 1, KN.out.c 2, KN.out.c 3, KN.out.c 4⟩ | exact ⟨KN1.out.c 0, KN1.out.c 1, KN1.out.c 2, KN1.out.c 3, KN1.out.c 4⟩ | exact ⟨KN2.out.c 0, KN2.out.c 1, KN2.out.c 2, KN2.out.c 3, KN2.out.c 4⟩ | exact ⟨KN3.out.c 0, KN3.out.c 1, KN3.out.c 2, KN3.out.c 3, KN3.out.c 4⟩ | exact ⟨(KN3.out.fz (Fz.set w3 wb 5 (.slice A9 n9 k9)) (by simp; have := HLT.out.2; omega)).c 0, (KN3.out.fz (Fz.set w3 wb 5 (.slice A9 n9 k9)) (by simp; have := HLT.out.2; omega)).c 1, (KN3.out.fz (Fz.set w3 wb 5 (.slice A9 n9 k9)) (by simp; have := HLT.out.2; omega)).c 2, (KN3.out.fz (Fz.set w3 wb 5 (.slice A9 n9 k9)) (by simp; have := HLT.out.2; omega)).c 3, (KN3.out.fz (Fz.set w3 wb 5 (.slice A9 n9 k9)) (by simp; have := HLT.out.2; omega)).c 4⟩
    clear hK K
    try simp only [Act.put, List.setIfInBounds_toArray, List.set_cons_zero, List.set_cons_succ, List.getElem_toArray, List.getElem_cons_zero, List.getElem_cons_succ]
    refine wpAnyH_ready (rs := [4, 11]) (by kernel_rfl) (by simp) ?_
    refine AllReadyH.cons rfl (fun K hK => ?_) (AllReadyH.cons rfl (fun K hK => ?_) AllReadyH.nil)
    · go_simp
      refine hK.out _ _ ?_ (fun hHeld => ?_)
      · first | exact ⟨KN.out.c 0, KN.out.c 1, KN.out.c 2, KN.out.c 3, KN.out.c 4⟩ | exact ⟨KN1.out.c 0, KN1.out.c 1, KN1.out.c 2, KN1.out.c 3, KN1.out.c 4⟩ | exact ⟨KN2.out.c 0, KN2.out.c 1, KN2.out.c 2, KN2.out.c 3, KN2.out.c 4⟩ | exact ⟨KN3.out.c 0, KN3.out.c 1, KN3.out.c 2, KN3.out.c 3, KN3.out.c 4⟩ | exact ⟨(KN3.out.fz (Fz.set w3 wb 5 (.slice A9 n9 k9)) (by simp; have := HLT.out.2; omega)).c 0, (KN3.out.fz (Fz.set w3 wb 5 (.slice A9 n9 k9)) (by simp; have := HLT.out.2; omega)).c 1, (KN3.out.fz (Fz.set w3 wb 5 (.slice A9 n9 k9)) (by simp; have := HLT.out.2; omega)).c 2, (KN3.out.fz (Fz.set w3 wb 5 (.slice A9 n9 k9)) (by simp; have := HLT.out.2; omega)).c 3, (KN3.out.fz (Fz.set w3 wb 5 (.slice A9 n9 k9)) (by simp; have := HLT.out.2; omega)).c 4⟩
      clear hK K
      try simp only [Act.put, List.setIfInBounds_toArray, List.set_cons_zero, List.set_cons_succ, List.getElem_toArray, List.getElem_cons_zero, List.getElem_cons_succ]
      refine wpAnyH_ready (rs := [11]) (by kernel_rfl) (by simp) ?_
      refine AllReadyH.cons rfl (fun K hK => ?_) AllReadyH.nil
      go_simp
      refine (hnow_any KH1.out).mono ?_
      rintro e X ⟨rfl, hX⟩
      rw [hX]
      clear hX X
      refine hK.out _ _ ?_ (fun hHeld => ?_)
      · first | exact ⟨KN.out.c 0, KN.out.c 1, KN.out.c 2, KN.out.c 3, KN.out.c 4⟩ | exact ⟨KN1.out.c 0, KN1.out.c 1, KN1.out.c 2, KN1.out.c 3, KN1.out.c 4⟩ | exact ⟨KN2.out.c 0, KN2.out.c 1, KN2.out.c 2, KN2.out.c 3, KN2.out.c 4⟩ | exact ⟨KN3.out.c 0, KN3.out.c 1, KN3.out.c 2, KN3.out.c 3, KN3.out.c 4⟩ | exact ⟨(KN3.out.fz (Fz.set w3 wb 5 (.slice A9 n9 k9)) (by simp; have := HLT.out.2; omega)).c 0, (KN3.out.fz (Fz.set w3 wb 5 (.slice A9 n9 k9)) (by simp; have := HLT.out.2; omega)).c 1, (KN3.out.fz (Fz.set w3 wb 5 (.slice A9 n9 k9)) (by simp; have := HLT.out.2; omega)).c 2, (KN3.out.fz (Fz.set w3 wb 5 (.slice A9 n9 k9)) (by simp; have := HLT.out.2; omega)).c 3, (KN3.out.fz (Fz.set w3 wb 5 (.slice A9 n9 k9)) (by simp; have := HLT.out.2; omega)).c 4⟩
      clear hK K
      try simp only [Act.put, List.setIfInBounds_toArray, List.set_cons_zero, List.set_cons_succ, List.getElem_toArray, List.getElem_cons_zero, List.getElem_cons_succ]
      refine wpAnyH_ready (rs := [18]) (by kernel_rfl) (by simp) ?_
      refine AllReadyH.cons rfl (fun K hK => ?_) AllReadyH.nil
      go_simp
      refine (bclone_nil _).mono ?_
      rintro e X ⟨rfl, hX⟩
      rw [hX]
      clear hX X
      refine hK.out _ _ ?_ (fun hHeld => ?_)
      · first | exact ⟨KN.out.c 0, KN.out.c 1, KN.out.c 2, KN.out.c 3, KN.out.c 4⟩ | exact ⟨KN1.out.c 0, KN1.out.c 1, KN1.out.c 2, KN1.out.c 3, KN1.out.c 4⟩ | exact ⟨KN2.out.c 0, KN2.out.c 1, KN2.out.c 2, KN2.out.c 3, KN2.out.c 4⟩ | exact ⟨KN3.out.c 0, KN3.out.c 1, KN3.out.c 2, KN3.out.c 3, KN3.out.c 4⟩ | exact ⟨(KN3.out.fz (Fz.set w3 wb 5 (.slice A9 n9 k9)) (by simp; have := HLT.out.2; omega)).c 0, (KN3.out.fz (Fz.set w3 wb 5 (.slice A9 n9 k9)) (by simp; have := HLT.out.2; omega)).c 1, (KN3.out.fz (Fz.set w3 wb 5 (.slice A9 n9 k9)) (by simp; have := HLT.out.2; omega)).c 2, (KN3.out.fz (Fz.set w3 wb 5 (.slice A9 n9 k9)) (by simp; have := HLT.out.2; omega)).c 3, (KN3.out.fz (Fz.set w3 wb 5 (.slice A9 n9 k9)) (by simp; have := HLT.out.2; omega)).c 4⟩
      clear hK K
      try simp only [Act.put, List.setIfInBounds_toArray, List.set_cons_zero, List.set_cons_succ, List.getElem_toArray, List.getElem_cons_zero, List.getElem_cons_succ]
      refine wpAnyH_take (i := 20) (v := ?_) rfl (by kernel_rfl) (by kernel_rfl) (by kernel_rfl) (fun _ _ _ h => h) (Or.inl ⟨by rfl, ?_⟩) (by assumption) ?_
      rotate_left
      · intro w hSw; go_simp; (try with_reducible rfl)
      try simp only [Act.put, List.setIfInBounds_toArray, List.set_cons_zero, List.set_cons_succ, List.getElem_toArray, List.getElem_cons_zero, List.getElem_cons_succ]
      refine wpAnyH_ready (rs := [21]) (by kernel_rfl) (by simp) ?_
      refine AllReadyH.cons rfl (fun K hK => ?_) AllReadyH.nil
      go_simp
      have F2 := Fz.alloc w1 (.cells (toldC tick k hd x).toArray 27)
      have KW2 := Keep.mk (KW1.out.fz F2 (by simp))
      have KN2 := Keep.mk (KN1.out.fz F2 (by simp))
      have KT2 := Keep.mk (Bk.new w1 (toldC tick k hd x).toArray 27)
      have KX2 : Keep (Fz w (w1.alloc (.cells (toldC tick k hd x).toArray 27)) []) := ⟨(KX1.out.trans F2).mono (by simp)⟩
      have KL2 : Keep ((w1.alloc (.cells (toldC tick k hd x).toArray 27)).ownsRow lo 27 7 (.slice A n cc) n L) := ⟨own_blockW KL1.out (fun kb e => let ⟨_, _, h2⟩ := own_ty KL1.out e; F2.block kb h2.lt (by simp))⟩
      have e5c : (w1.alloc (.cells (toldC tick k hd x).toArray 27)).cell? ⟨wb, 5, none⟩ = some (.slice A n cc) := KW2.out.c 5
      clear F2
      refine hK.out _ _ ?_ (fun hHeld => ?_)
      · first | exact ⟨KN.out.c 0, KN.out.c 1, KN.out.c 2, KN.out.c 3, KN.out.c 4⟩ | exact ⟨KN1.out.c 0, KN1.out.c 1, KN1.out.c 2, KN1.out.c 3, KN1.out.c 4⟩ | exact ⟨KN2.out.c 0, KN2.out.c 1, KN2.out.c 2, KN2.out.c 3, KN2.out.c 4⟩ | exact ⟨KN3.out.c 0, KN3.out.c 1, KN3.out.c 2, KN3.out.c 3, KN3.out.c 4⟩ | exact ⟨(KN3.out.fz (Fz.set w3 wb 5 (.slice A9 n9 k9)) (by simp; have := HLT.out.2; omega)).c 0, (KN3.out.fz (Fz.set w3 wb 5 (.slice A9 n9 k9)) (by simp; have := HLT.out.2; omega)).c 1, (KN3.out.fz (Fz.set w3 wb 5 (.slice A9 n9 k9)) (by simp; have := HLT.out.2; omega)).c 2, (KN3.out.fz (Fz.set w3 wb 5 (.slice A9 n9 k9)) (by simp; have := HLT.out.2; omega)).c 3, (KN3.out.fz (Fz.set w3 wb 5 (.slice A9 n9 k9)) (by simp; have := HLT.out.2; omega)).c 4⟩
      clear hK K
      try simp only [Act.put, List.setIfInBounds_toArray, List.set_cons_zero, List.set_cons_succ, List.getElem_toArray, List.getElem_cons_zero, List.getElem_cons_succ]
      refine wpAnyH_ready (rs := [22]) (by kernel_rfl) (by simp) ?_
      refine AllReadyH.cons rfl (fun K hK => ?_) AllReadyH.nil
      refine step_more rfl (.tmp 14) (.tmp 31) 22 27 rfl Tryz.underlying22 infoTold rfl (by omega) (by omega) (.slice A n cc) rfl w1.heap.size (toldC tick k hd x) rfl rfl (fun j u hu => ?_) ?_ (by simp [Value.oneCell']) lo n L KL2.out (Nat.le_trans KL.out.2.1 KX2.out.size) (by have := KL.out.2.2; omega) ?_
      · exact (KT2.out.c j).trans (Array.getElem?_toList.symm.trans hu)
      · exact KT2.out.lt
      intro v' w3 ho3 hg3 hv3
      obtain ⟨A9, n9, k9, rfl⟩ : ∃ A n k, v' = Value.slice A n k := by
        obtain ⟨A, c, h, _⟩ := own_slice ho3
        exact ⟨A, _, c, h⟩
      have F3 := Fz.grown hg3
      have NIN : ∀ {y : Nat} {arr : Array Value} {ty : TypeId}, Bk (w1.alloc (.cells (toldC tick k hd x).toArray 27)) y arr ty → 27 ≠ ty → y ∉ (Value.slice A n cc).ownBlock.toList := fun hb ht hm => by
        obtain ⟨_, cur, h2⟩ := own_ty KL2.out (by simpa using hm)
        exact h2.ne_ty hb ht rfl
      have KW3 := Keep.mk (KW2.out.fz F3 (NIN KW2.out (by decide)))
      have KN3 := Keep.mk (KN2.out.fz F3 (NIN KN2.out (by decide)))
      have KX3 : Keep (Fz w w3 (Value.slice A n cc).ownBlock.toList) := ⟨(KX2.out.trans F3).mono (by simp)⟩
      have KO3 := Keep.mk ho3
      have f5 := KW3.out.free 5
      have d5 : w3.cell? ⟨wb, 5, none⟩ = some (.slice A n cc) := KW3.out.c 5
      clear ho3 hg3 hv3 F3 NIN
      refine hK.out _ _ ?_ (fun hHeld => ?_)
      · first | exact ⟨KN.out.c 0, KN.out.c 1, KN.out.c 2, KN.out.c 3, KN.out.c 4⟩ | exact ⟨KN1.out.c 0, KN1.out.c 1, KN1.out.c 2, KN1.out.c 3, KN1.out.c 4⟩ | exact ⟨KN2.out.c 0, KN2.out.c 1, KN2.out.c 2, KN2.out.c 3, KN2.out.c 4⟩ | exact ⟨KN3.out.c 0, KN3.out.c 1, KN3.out.c 2, KN3.out.c 3, KN3.out.c 4⟩ | exact ⟨(KN3.out.fz (Fz.set w3 wb 5 (.slice A9 n9 k9)) (by simp; have := HLT.out.2; omega)).c 0, (KN3.out.fz (Fz.set w3 wb 5 (.slice A9 n9 k9)) (by simp; have := HLT.out.2; omega)).c 1, (KN3.out.fz (Fz.set w3 wb 5 (.slice A9 n9 k9)) (by simp; have := HLT.out.2; omega)).c 2, (KN3.out.fz (Fz.set w3 wb 5 (.slice A9 n9 k9)) (by simp; have := HLT.out.2; omega)).c 3, (KN3.out.fz (Fz.set w3 wb 5 (.slice A9 n9 k9)) (by simp; have := HLT.out.2; omega)).c 4⟩
      clear hK K
      try simp only [Act.put, List.setIfInBounds_toArray, List.set_cons_zero, List.set_cons_succ, List.getElem_toArray, List.getElem_cons_zero, List.getElem_cons_succ]
      refine wpAnyH_take (i := 23) (v := ?_) rfl (by kernel_rfl) (by kernel_rfl) (by kernel_rfl) (fun _ _ _ h => h) (Or.inl ⟨by rfl, ?_⟩) (by assumption) ?_
      rotate_left
      · intro w hSw; go_simp; (try with_reducible rfl)
      try simp only [Act.put, List.setIfInBounds_toArray, List.set_cons_zero, List.set_cons_succ, List.getElem_toArray, List.getElem_cons_zero, List.getElem_cons_succ]
      refine wpAnyH_take (i := 24) (v := ?_) rfl (by kernel_rfl) (by kernel_rfl) (by kernel_rfl) (fun _ _ _ h => h) (Or.inl ⟨by rfl, ?_⟩) (by assumption) ?_
      rotate_left
      · intro w hSw; go_simp; (try with_reducible rfl)
      try simp only [Act.put, List.setIfInBounds_toArray, List.set_cons_zero, List.set_cons_succ, List.getElem_toArray, List.getElem_cons_zero, List.getElem_cons_succ]
      refine wpAnyH_ready (rs := [25]) (by kernel_rfl) (by simp) ?_
      refine AllReadyH.cons rfl (fun K hK => ?_) AllReadyH.nil
      go_simp
      refine hK.out _ _ ?_ (fun hHeld => ?_)
      · first | exact ⟨KN.out.c 0, KN.out.c 1, KN.out.c 2, KN.out.c 3, KN.out.c 4⟩ | exact ⟨KN1.out.c 0, KN1.out.c 1, KN1.out.c 2, KN1.out.c 3, KN1.out.c 4⟩ | exact ⟨KN2.out.c 0, KN2.out.c 1, KN2.out.c 2, KN2.out.c 3, KN2.out.c 4⟩ | exact ⟨KN3.out.c 0, KN3.out.c 1, KN3.out.c 2, KN3.out.c 3, KN3.out.c 4⟩ | exact ⟨(KN3.out.fz (Fz.set w3 wb 5 (.slice A9 n9 k9)) (by simp; have := HLT.out.2; omega)).c 0, (KN3.out.fz (Fz.set w3 wb 5 (.slice A9 n9 k9)) (by simp; have := HLT.out.2; omega)).c 1, (KN3.out.fz (Fz.set w3 wb 5 (.slice A9 n9 k9)) (by simp; have := HLT.out.2; omega)).c 2, (KN3.out.fz (Fz.set w3 wb 5 (.slice A9 n9 k9)) (by simp; have := HLT.out.2; omega)).c 3, (KN3.out.fz (Fz.set w3 wb 5 (.slice A9 n9 k9)) (by simp; have := HLT.out.2; omega)).c 4⟩
      clear hK K
      try simp only [Act.put, List.setIfInBounds_toArray, List.set_cons_zero, List.set_cons_succ, List.getElem_toArray, List.getElem_cons_zero, List.getElem_cons_succ]
      refine wpAnyH_done (by kernel_rfl) ?_ _
      refine NoPanic.normal ?_
      go_wp2_with fail
      go_end0
      exact ⟨rfl, _, KW3.out.set 5 (.slice A9 n9 k9), own_blockW KO3.out (fun kb e => (Fz.set w3 wb 5 (.slice A9 n9 k9)).block kb (let ⟨_, _, h2⟩ := own_ty KO3.out e; h2.lt) (by
        simp
        rintro rfl
        obtain ⟨_, _, h2⟩ := own_ty KO3.out e
        exact h2.ne_ty KW3.out (by decide) rfl)), (KX3.out.trans (Fz.set w3 wb 5 (.slice A9 n9 k9))).mono (by intro y _ hy; simp only [List.mem_append, List.mem_cons, List.not_mem_nil, or_false] at hy ⊢; exact hy.symm)⟩
    · go_simp
      refine (hnow_any KH1.out).mono ?_
      rintro e X ⟨rfl, hX⟩
      rw [hX]
      clear hX X
      refine hK.out _ _ ?_ (fun hHeld => ?_)
      · first | exact ⟨KN.out.c 0, KN.out.c 1, KN.out.c 2, KN.out.c 3, KN.out.c 4⟩ | exact ⟨KN1.out.c 0, KN1.out.c 1, KN1.out.c 2, KN1.out.c 3, KN1.out.c 4⟩ | exact ⟨KN2.out.c 0, KN2.out.c 1, KN2.out.c 2, KN2.out.c 3, KN2.out.c 4⟩ | exact ⟨KN3.out.c 0, KN3.out.c 1, KN3.out.c 2, KN3.out.c 3, KN3.out.c 4⟩ | exact ⟨(KN3.out.fz (Fz.set w3 wb 5 (.slice A9 n9 k9)) (by simp; have := HLT.out.2; omega)).c 0, (KN3.out.fz (Fz.set w3 wb 5 (.slice A9 n9 k9)) (by simp; have := HLT.out.2; omega)).c 1, (KN3.out.fz (Fz.set w3 wb 5 (.slice A9 n9 k9)) (by simp; have := HLT.out.2; omega)).c 2, (KN3.out.fz (Fz.set w3 wb 5 (.slice A9 n9 k9)) (by simp; have := HLT.out.2; omega)).c 3, (KN3.out.fz (Fz.set w3 wb 5 (.slice A9 n9 k9)) (by simp; have := HLT.out.2; omega)).c 4⟩
      clear hK K
      try simp only [Act.put, List.setIfInBounds_toArray, List.set_cons_zero, List.set_cons_succ, List.getElem_toArray, List.getElem_cons_zero, List.getElem_cons_succ]
      refine wpAnyH_ready (rs := [4, 18]) (by kernel_rfl) (by simp) ?_
      refine AllReadyH.cons rfl (fun K hK => ?_) (AllReadyH.cons rfl (fun K hK => ?_) AllReadyH.nil)
      · go_simp
        refine hK.out _ _ ?_ (fun hHeld => ?_)
        · first | exact ⟨KN.out.c 0, KN.out.c 1, KN.out.c 2, KN.out.c 3, KN.out.c 4⟩ | exact ⟨KN1.out.c 0, KN1.out.c 1, KN1.out.c 2, KN1.out.c 3, KN1.out.c 4⟩ | exact ⟨KN2.out.c 0, KN2.out.c 1, KN2.out.c 2, KN2.out.c 3, KN2.out.c 4⟩ | exact ⟨KN3.out.c 0, KN3.out.c 1, KN3.out.c 2, KN3.out.c 3, KN3.out.c 4⟩ | exact ⟨(KN3.out.fz (Fz.set w3 wb 5 (.slice A9 n9 k9)) (by simp; have := HLT.out.2; omega)).c 0, (KN3.out.fz (Fz.set w3 wb 5 (.slice A9 n9 k9)) (by simp; have := HLT.out.2; omega)).c 1, (KN3.out.fz (Fz.set w3 wb 5 (.slice A9 n9 k9)) (by simp; have := HLT.out.2; omega)).c 2, (KN3.out.fz (Fz.set w3 wb 5 (.slice A9 n9 k9)) (by simp; have := HLT.out.2; omega)).c 3, (KN3.out.fz (Fz.set w3 wb 5 (.slice A9 n9 k9)) (by simp; have := HLT.out.2; omega)).c 4⟩
        clear hK K
        try simp only [Act.put, List.setIfInBounds_toArray, List.set_cons_zero, List.set_cons_succ, List.getElem_toArray, List.getElem_cons_zero, List.getElem_cons_succ]
        refine wpAnyH_ready (rs := [18]) (by kernel_rfl) (by simp) ?_
        refine AllReadyH.cons rfl (fun K hK => ?_) AllReadyH.nil
        go_simp
        refine (bclone_nil _).mono ?_
        rintro e X ⟨rfl, hX⟩
        rw [hX]
        clear hX X
        refine hK.out _ _ ?_ (fun hHeld => ?_)
        · first | exact ⟨KN.out.c 0, KN.out.c 1, KN.out.c 2, KN.out.c 3, KN.out.c 4⟩ | exact ⟨KN1.out.c 0, KN1.out.c 1, KN1.out.c 2, KN1.out.c 3, KN1.out.c 4⟩ | exact ⟨KN2.out.c 0, KN2.out.c 1, KN2.out.c 2, KN2.out.c 3, KN2.out.c 4⟩ | exact ⟨KN3.out.c 0, KN3.out.c 1, KN3.out.c 2, KN3.out.c 3, KN3.out.c 4⟩ | exact ⟨(KN3.out.fz (Fz.set w3 wb 5 (.slice A9 n9 k9)) (by simp; have := HLT.out.2; omega)).c 0, (KN3.out.fz (Fz.set w3 wb 5 (.slice A9 n9 k9)) (by simp; have := HLT.out.2; omega)).c 1, (KN3.out.fz (Fz.set w3 wb 5 (.slice A9 n9 k9)) (by simp; have := HLT.out.2; omega)).c 2, (KN3.out.fz (Fz.set w3 wb 5 (.slice A9 n9 k9)) (by simp; have := HLT.out.2; omega)).c 3, (KN3.out.fz (Fz.set w3 wb 5 (.slice A9 n9 k9)) (by simp; have := HLT.out.2; omega)).c 4⟩
        clear hK K
        try simp only [Act.put, List.setIfInBounds_toArray, List.set_cons_zero, List.set_cons_succ, List.getElem_toArray, List.getElem_cons_zero, List.getElem_cons_succ]
        refine wpAnyH_take (i := 20) (v := ?_) rfl (by kernel_rfl) (by kernel_rfl) (by kernel_rfl) (fun _ _ _ h => h) (Or.inl ⟨by rfl, ?_⟩) (by assumption) ?_
        rotate_left
        · intro w hSw; go_simp; (try with_reducible rfl)
        try simp only [Act.put, List.setIfInBounds_toArray, List.set_cons_zero, List.set_cons_succ, List.getElem_toArray, List.getElem_cons_zero, List.getElem_cons_succ]
        refine wpAnyH_ready (rs := [21]) (by kernel_rfl) (by simp) ?_
        refine AllReadyH.cons rfl (fun K hK => ?_) AllReadyH.nil
        go_simp
        have F2 := Fz.alloc w1 (.cells (toldC tick k hd x).toArray 27)
        have KW2 := Keep.mk (KW1.out.fz F2 (by simp))
        have KN2 := Keep.mk (KN1.out.fz F2 (by simp))
        have KT2 := Keep.mk (Bk.new w1 (toldC tick k hd x).toArray 27)
        have KX2 : Keep (Fz w (w1.alloc (.cells (toldC tick k hd x).toArray 27)) []) := ⟨(KX1.out.trans F2).mono (by simp)⟩
        have KL2 : Keep ((w1.alloc (.cells (toldC tick k hd x).toArray 27)).ownsRow lo 27 7 (.slice A n cc) n L) := ⟨own_blockW KL1.out (fun kb e => let ⟨_, _, h2⟩ := own_ty KL1.out e; F2.block kb h2.lt (by simp))⟩
        have e5c : (w1.alloc (.cells (toldC tick k hd x).toArray 27)).cell? ⟨wb, 5, none⟩ = some (.slice A n cc) := KW2.out.c 5
        clear F2
        refine hK.out _ _ ?_ (fun hHeld => ?_)
        · first | exact ⟨KN.out.c 0, KN.out.c 1, KN.out.c 2, KN.out.c 3, KN.out.c 4⟩ | exact ⟨KN1.out.c 0, KN1.out.c 1, KN1.out.c 2, KN1.out.c 3, KN1.out.c 4⟩ | exact ⟨KN2.out.c 0, KN2.out.c 1, KN2.out.c 2, KN2.out.c 3, KN2.out.c 4⟩ | exact ⟨KN3.out.c 0, KN3.out.c 1, KN3.out.c 2, KN3.out.c 3, KN3.out.c 4⟩ | exact ⟨(KN3.out.fz (Fz.set w3 wb 5 (.slice A9 n9 k9)) (by simp; have := HLT.out.2; omega)).c 0, (KN3.out.fz (Fz.set w3 wb 5 (.slice A9 n9 k9)) (by simp; have := HLT.out.2; omega)).c 1, (KN3.out.fz (Fz.set w3 wb 5 (.slice A9 n9 k9)) (by simp; have := HLT.out.2; omega)).c 2, (KN3.out.fz (Fz.set w3 wb 5 (.slice A9 n9 k9)) (by simp; have := HLT.out.2; omega)).c 3, (KN3.out.fz (Fz.set w3 wb 5 (.slice A9 n9 k9)) (by simp; have := HLT.out.2; omega)).c 4⟩
        clear hK K
        try simp only [Act.put, List.setIfInBounds_toArray, List.set_cons_zero, List.set_cons_succ, List.getElem_toArray, List.getElem_cons_zero, List.getElem_cons_succ]
        refine wpAnyH_ready (rs := [22]) (by kernel_rfl) (by simp) ?_
        refine AllReadyH.cons rfl (fun K hK => ?_) AllReadyH.nil
        refine step_more rfl (.tmp 14) (.tmp 31) 22 27 rfl Tryz.underlying22 infoTold rfl (by omega) (by omega) (.slice A n cc) rfl w1.heap.size (toldC tick k hd x) rfl rfl (fun j u hu => ?_) ?_ (by simp [Value.oneCell']) lo n L KL2.out (Nat.le_trans KL.out.2.1 KX2.out.size) (by have := KL.out.2.2; omega) ?_
        · exact (KT2.out.c j).trans (Array.getElem?_toList.symm.trans hu)
        · exact KT2.out.lt
        intro v' w3 ho3 hg3 hv3
        obtain ⟨A9, n9, k9, rfl⟩ : ∃ A n k, v' = Value.slice A n k := by
          obtain ⟨A, c, h, _⟩ := own_slice ho3
          exact ⟨A, _, c, h⟩
        have F3 := Fz.grown hg3
        have NIN : ∀ {y : Nat} {arr : Array Value} {ty : TypeId}, Bk (w1.alloc (.cells (toldC tick k hd x).toArray 27)) y arr ty → 27 ≠ ty → y ∉ (Value.slice A n cc).ownBlock.toList := fun hb ht hm => by
          obtain ⟨_, cur, h2⟩ := own_ty KL2.out (by simpa using hm)
          exact h2.ne_ty hb ht rfl
        have KW3 := Keep.mk (KW2.out.fz F3 (NIN KW2.out (by decide)))
        have KN3 := Keep.mk (KN2.out.fz F3 (NIN KN2.out (by decide)))
        have KX3 : Keep (Fz w w3 (Value.slice A n cc).ownBlock.toList) := ⟨(KX2.out.trans F3).mono (by simp)⟩
        have KO3 := Keep.mk ho3
        have f5 := KW3.out.free 5
        have d5 : w3.cell? ⟨wb, 5, none⟩ = some (.slice A n cc) := KW3.out.c 5
        clear ho3 hg3 hv3 F3 NIN
        refine hK.out _ _ ?_ (fun hHeld => ?_)
        · first | exact ⟨KN.out.c 0, KN.out.c 1, KN.out.c 2, KN.out.c 3, KN.out.c 4⟩ | exact ⟨KN1.out.c 0, KN1.out.c 1, KN1.out.c 2, KN1.out.c 3, KN1.out.c 4⟩ | exact ⟨KN2.out.c 0, KN2.out.c 1, KN2.out.c 2, KN2.out.c 3, KN2.out.c 4⟩ | exact ⟨KN3.out.c 0, KN3.out.c 1, KN3.out.c 2, KN3.out.c 3, KN3.out.c 4⟩ | exact ⟨(KN3.out.fz (Fz.set w3 wb 5 (.slice A9 n9 k9)) (by simp; have := HLT.out.2; omega)).c 0, (KN3.out.fz (Fz.set w3 wb 5 (.slice A9 n9 k9)) (by simp; have := HLT.out.2; omega)).c 1, (KN3.out.fz (Fz.set w3 wb 5 (.slice A9 n9 k9)) (by simp; have := HLT.out.2; omega)).c 2, (KN3.out.fz (Fz.set w3 wb 5 (.slice A9 n9 k9)) (by simp; have := HLT.out.2; omega)).c 3, (KN3.out.fz (Fz.set w3 wb 5 (.slice A9 n9 k9)) (by simp; have := HLT.out.2; omega)).c 4⟩
        clear hK K
        try simp only [Act.put, List.setIfInBounds_toArray, List.set_cons_zero, List.set_cons_succ, List.getElem_toArray, List.getElem_cons_zero, List.getElem_cons_succ]
        refine wpAnyH_take (i := 23) (v := ?_) rfl (by kernel_rfl) (by kernel_rfl) (by kernel_rfl) (fun _ _ _ h => h) (Or.inl ⟨by rfl, ?_⟩) (by assumption) ?_
        rotate_left
        · intro w hSw; go_simp; (try with_reducible rfl)
        try simp only [Act.put, List.setIfInBounds_toArray, List.set_cons_zero, List.set_cons_succ, List.getElem_toArray, List.getElem_cons_zero, List.getElem_cons_succ]
        refine wpAnyH_take (i := 24) (v := ?_) rfl (by kernel_rfl) (by kernel_rfl) (by kernel_rfl) (fun _ _ _ h => h) (Or.inl ⟨by rfl, ?_⟩) (by assumption) ?_
        rotate_left
        · intro w hSw; go_simp; (try with_reducible rfl)
        try simp only [Act.put, List.setIfInBounds_toArray, List.set_cons_zero, List.set_cons_succ, List.getElem_toArray, List.getElem_cons_zero, List.getElem_cons_succ]
        refine wpAnyH_ready (rs := [25]) (by kernel_rfl) (by simp) ?_
        refine AllReadyH.cons rfl (fun K hK => ?_) AllReadyH.nil
        go_simp
        refine hK.out _ _ ?_ (fun hHeld => ?_)
        · first | exact ⟨KN.out.c 0, KN.out.c 1, KN.out.c 2, KN.out.c 3, KN.out.c 4⟩ | exact ⟨KN1.out.c 0, KN1.out.c 1, KN1.out.c 2, KN1.out.c 3, KN1.out.c 4⟩ | exact ⟨KN2.out.c 0, KN2.out.c 1, KN2.out.c 2, KN2.out.c 3, KN2.out.c 4⟩ | exact ⟨KN3.out.c 0, KN3.out.c 1, KN3.out.c 2, KN3.out.c 3, KN3.out.c 4⟩ | exact ⟨(KN3.out.fz (Fz.set w3 wb 5 (.slice A9 n9 k9)) (by simp; have := HLT.out.2; omega)).c 0, (KN3.out.fz (Fz.set w3 wb 5 (.slice A9 n9 k9)) (by simp; have := HLT.out.2; omega)).c 1, (KN3.out.fz (Fz.set w3 wb 5 (.slice A9 n9 k9)) (by simp; have := HLT.out.2; omega)).c 2, (KN3.out.fz (Fz.set w3 wb 5 (.slice A9 n9 k9)) (by simp; have := HLT.out.2; omega)).c 3, (KN3.out.fz (Fz.set w3 wb 5 (.slice A9 n9 k9)) (by simp; have := HLT.out.2; omega)).c 4⟩
        clear hK K
        try simp only [Act.put, List.setIfInBounds_toArray, List.set_cons_zero, List.set_cons_succ, List.getElem_toArray, List.getElem_cons_zero, List.getElem_cons_succ]
        refine wpAnyH_done (by kernel_rfl) ?_ _
        refine NoPanic.normal ?_
        go_wp2_with fail
        go_end0
        exact ⟨rfl, _, KW3.out.set 5 (.slice A9 n9 k9), own_blockW KO3.out (fun kb e => (Fz.set w3 wb 5 (.slice A9 n9 k9)).block kb (let ⟨_, _, h2⟩ := own_ty KO3.out e; h2.lt) (by
          simp
          rintro rfl
          obtain ⟨_, _, h2⟩ := own_ty KO3.out e
          exact h2.ne_ty KW3.out (by decide) rfl)), (KX3.out.trans (Fz.set w3 wb 5 (.slice A9 n9 k9))).mono (by intro y _ hy; simp only [List.mem_append, List.mem_cons, List.not_mem_nil, or_false] at hy ⊢; exact hy.symm)⟩
      · go_simp
        refine (bclone_nil _).mono ?_
        rintro e X ⟨rfl, hX⟩
        rw [hX]
        clear hX X
        refine hK.out _ _ ?_ (fun hHeld => ?_)
        · first | exact ⟨KN.out.c 0, KN.out.c 1, KN.out.c 2, KN.out.c 3, KN.out.c 4⟩ | exact ⟨KN1.out.c 0, KN1.out.c 1, KN1.out.c 2, KN1.out.c 3, KN1.out.c 4⟩ | exact ⟨KN2.out.c 0, KN2.out.c 1, KN2.out.c 2, KN2.out.c 3, KN2.out.c 4⟩ | exact ⟨KN3.out.c 0, KN3.out.c 1, KN3.out.c 2, KN3.out.c 3, KN3.out.c 4⟩ | exact ⟨(KN3.out.fz (Fz.set w3 wb 5 (.slice A9 n9 k9)) (by simp; have := HLT.out.2; omega)).c 0, (KN3.out.fz (Fz.set w3 wb 5 (.slice A9 n9 k9)) (by simp; have := HLT.out.2; omega)).c 1, (KN3.out.fz (Fz.set w3 wb 5 (.slice A9 n9 k9)) (by simp; have := HLT.out.2; omega)).c 2, (KN3.out.fz (Fz.set w3 wb 5 (.slice A9 n9 k9)) (by simp; have := HLT.out.2; omega)).c 3, (KN3.out.fz (Fz.set w3 wb 5 (.slice A9 n9 k9)) (by simp; have := HLT.out.2; omega)).c 4⟩
        clear hK K
        try simp only [Act.put, List.setIfInBounds_toArray, List.set_cons_zero, List.set_cons_succ, List.getElem_toArray, List.getElem_cons_zero, List.getElem_cons_succ]
        refine wpAnyH_take (i := 20) (v := ?_) rfl (by kernel_rfl) (by kernel_rfl) (by kernel_rfl) (fun _ _ _ h => h) (Or.inl ⟨by rfl, ?_⟩) (by assumption) ?_
        rotate_left
        · intro w hSw; go_simp; (try with_reducible rfl)
        try simp only [Act.put, List.setIfInBounds_toArray, List.set_cons_zero, List.set_cons_succ, List.getElem_toArray, List.getElem_cons_zero, List.getElem_cons_succ]
        refine wpAnyH_ready (rs := [4, 21]) (by kernel_rfl) (by simp) ?_
        refine AllReadyH.cons rfl (fun K hK => ?_) (AllReadyH.cons rfl (fun K hK => ?_) AllReadyH.nil)
        · go_simp
          refine hK.out _ _ ?_ (fun hHeld => ?_)
          · first | exact ⟨KN.out.c 0, KN.out.c 1, KN.out.c 2, KN.out.c 3, KN.out.c 4⟩ | exact ⟨KN1.out.c 0, KN1.out.c 1, KN1.out.c 2, KN1.out.c 3, KN1.out.c 4⟩ | exact ⟨KN2.out.c 0, KN2.out.c 1, KN2.out.c 2, KN2.out.c 3, KN2.out.c 4⟩ | exact ⟨KN3.out.c 0, KN3.out.c 1, KN3.out.c 2, KN3.out.c 3, KN3.out.c 4⟩ | exact ⟨(KN3.out.fz (Fz.set w3 wb 5 (.slice A9 n9 k9)) (by simp; have := HLT.out.2; omega)).c 0, (KN3.out.fz (Fz.set w3 wb 5 (.slice A9 n9 k9)) (by simp; have := HLT.out.2; omega)).c 1, (KN3.out.fz (Fz.set w3 wb 5 (.slice A9 n9 k9)) (by simp; have := HLT.out.2; omega)).c 2, (KN3.out.fz (Fz.set w3 wb 5 (.slice A9 n9 k9)) (by simp; have := HLT.out.2; omega)).c 3, (KN3.out.fz (Fz.set w3 wb 5 (.slice A9 n9 k9)) (by simp; have := HLT.out.2; omega)).c 4⟩
          clear hK K
          try simp only [Act.put, List.setIfInBounds_toArray, List.set_cons_zero, List.set_cons_succ, List.getElem_toArray, List.getElem_cons_zero, List.getElem_cons_succ]
          refine wpAnyH_ready (rs := [21]) (by kernel_rfl) (by simp) ?_
          refine AllReadyH.cons rfl (fun K hK => ?_) AllReadyH.nil
          go_simp
          have F2 := Fz.alloc w1 (.cells (toldC tick k hd x).toArray 27)
          have KW2 := Keep.mk (KW1.out.fz F2 (by simp))
          have KN2 := Keep.mk (KN1.out.fz F2 (by simp))
          have KT2 := Keep.mk (Bk.new w1 (toldC tick k hd x).toArray 27)
          have KX2 : Keep (Fz w (w1.alloc (.cells (toldC tick k hd x).toArray 27)) []) := ⟨(KX1.out.trans F2).mono (by simp)⟩
          have KL2 : Keep ((w1.alloc (.cells (toldC tick k hd x).toArray 27)).ownsRow lo 27 7 (.slice A n cc) n L) := ⟨own_blockW KL1.out (fun kb e => let ⟨_, _, h2⟩ := own_ty KL1.out e; F2.block kb h2.lt (by simp))⟩
          have e5c : (w1.alloc (.cells (toldC tick k hd x).toArray 27)).cell? ⟨wb, 5, none⟩ = some (.slice A n cc) := KW2.out.c 5
          clear F2
          refine hK.out _ _ ?_ (fun hHeld => ?_)
          · first | exact ⟨KN.out.c 0, KN.out.c 1, KN.out.c 2, KN.out.c 3, KN.out.c 4⟩ | exact ⟨KN1.out.c 0, KN1.out.c 1, KN1.out.c 2, KN1.out.c 3, KN1.out.c 4⟩ | exact ⟨KN2.out.c 0, KN2.out.c 1, KN2.out.c 2, KN2.out.c 3, KN2.out.c 4⟩ | exact ⟨KN3.out.c 0, KN3.out.c 1, KN3.out.c 2, KN3.out.c 3, KN3.out.c 4⟩ | exact ⟨(KN3.out.fz (Fz.set w3 wb 5 (.slice A9 n9 k9)) (by simp; have := HLT.out.2; omega)).c 0, (KN3.out.fz (Fz.set w3 wb 5 (.slice A9 n9 k9)) (by simp; have := HLT.out.2; omega)).c 1, (KN3.out.fz (Fz.set w3 wb 5 (.slice A9 n9 k9)) (by simp; have := HLT.out.2; omega)).c 2, (KN3.out.fz (Fz.set w3 wb 5 (.slice A9 n9 k9)) (by simp; have := HLT.out.2; omega)).c 3, (KN3.out.fz (Fz.set w3 wb 5 (.slice A9 n9 k9)) (by simp; have := HLT.out.2; omega)).c 4⟩
          clear hK K
          try simp only [Act.put, List.setIfInBounds_toArray, List.set_cons_zero, List.set_cons_succ, List.getElem_toArray, List.getElem_cons_zero, List.getElem_cons_succ]
          refine wpAnyH_ready (rs := [22]) (by kernel_rfl) (by simp) ?_
          refine AllReadyH.cons rfl (fun K hK => ?_) AllReadyH.nil
          refine step_more rfl (.tmp 14) (.tmp 31) 22 27 rfl Tryz.underlying22 infoTold rfl (by omega) (by omega) (.slice A n cc) rfl w1.heap.size (toldC tick k hd x) rfl rfl (fun j u hu => ?_) ?_ (by simp [Value.oneCell']) lo n L KL2.out (Nat.le_trans KL.out.2.1 KX2.out.size) (by have := KL.out.2.2; omega) ?_
          · exact (KT2.out.c j).trans (Array.getElem?_toList.symm.trans hu)
          · exact KT2.out.lt
          intro v' w3 ho3 hg3 hv3
          obtain ⟨A9, n9, k9, rfl⟩ : ∃ A n k, v' = Value.slice A n k := by
            obtain ⟨A, c, h, _⟩ := own_slice ho3
            exact ⟨A, _, c, h⟩
          have F3 := Fz.grown hg3
          have NIN : ∀ {y : Nat} {arr : Array Value} {ty : TypeId}, Bk (w1.alloc (.cells (toldC tick k hd x).toArray 27)) y arr ty → 27 ≠ ty → y ∉ (Value.slice A n cc).ownBlock.toList := fun hb ht hm => by
            obtain ⟨_, cur, h2⟩ := own_ty KL2.out (by simpa using hm)
            exact h2.ne_ty hb ht rfl
          have KW3 := Keep.mk (KW2.out.fz F3 (NIN KW2.out (by decide)))
          have KN3 := Keep.mk (KN2.out.fz F3 (NIN KN2.out (by decide)))
          have KX3 : Keep (Fz w w3 (Value.slice A n cc).ownBlock.toList) := ⟨(KX2.out.trans F3).mono (by simp)⟩
          have KO3 := Keep.mk ho3
          have f5 := KW3.out.free 5
          have d5 : w3.cell? ⟨wb, 5, none⟩ = some (.slice A n cc) := KW3.out.c 5
          clear ho3 hg3 hv3 F3 NIN
          refine hK.out _ _ ?_ (fun hHeld => ?_)
          · first | exact ⟨KN.out.c 0, KN.out.c 1, KN.out.c 2, KN.out.c 3, KN.out.c 4⟩ | exact ⟨KN1.out.c 0, KN1.out.c 1, KN1.out.c 2, KN1.out.c 3, KN1.out.c 4⟩ | exact ⟨KN2.out.c 0, KN2.out.c 1, KN2.out.c 2, KN2.out.c 3, KN2.out.c 4⟩ | exact ⟨KN3.out.c 0, KN3.out.c 1, KN3.out.c 2, KN3.out.c 3, KN3.out.c 4⟩ | exact ⟨(KN3.out.fz (Fz.set w3 wb 5 (.slice A9 n9 k9)) (by simp; have := HLT.out.2; omega)).c 0, (KN3.out.fz (Fz.set w3 wb 5 (.slice A9 n9 k9)) (by simp; have := HLT.out.2; omega)).c 1, (KN3.out.fz (Fz.set w3 wb 5 (.slice A9 n9 k9)) (by simp; have := HLT.out.2; omega)).c 2, (KN3.out.fz (Fz.set w3 wb 5 (.slice A9 n9 k9)) (by simp; have := HLT.out.2; omega)).c 3, (KN3.out.fz (Fz.set w3 wb 5 (.slice A9 n9 k9)) (by simp; have := HLT.out.2; omega)).c 4⟩
          clear hK K
          try simp only [Act.put, List.setIfInBounds_toArray, List.set_cons_zero, List.set_cons_succ, List.getElem_toArray, List.getElem_cons_zero, List.getElem_cons_succ]
          refine wpAnyH_take (i := 23) (v := ?_) rfl (by kernel_rfl) (by kernel_rfl) (by kernel_rfl) (fun _ _ _ h => h) (Or.inl ⟨by rfl, ?_⟩) (by assumption) ?_
          rotate_left
          · intro w hSw; go_simp; (try with_reducible rfl)
          try simp only [Act.put, List.setIfInBounds_toArray, List.set_cons_zero, List.set_cons_succ, List.getElem_toArray, List.getElem_cons_zero, List.getElem_cons_succ]
          refine wpAnyH_take (i := 24) (v := ?_) rfl (by kernel_rfl) (by kernel_rfl) (by kernel_rfl) (fun _ _ _ h => h) (Or.inl ⟨by rfl, ?_⟩) (by assumption) ?_
          rotate_left
          · intro w hSw; go_simp; (try with_reducible rfl)
          try simp only [Act.put, List.setIfInBounds_toArray, List.set_cons_zero, List.set_cons_succ, List.getElem_toArray, List.getElem_cons_zero, List.getElem_cons_succ]
          refine wpAnyH_ready (rs := [25]) (by kernel_rfl) (by simp) ?_
          refine AllReadyH.cons rfl (fun K hK => ?_) AllReadyH.nil
          go_simp
          refine hK.out _ _ ?_ (fun hHeld => ?_)
          · first | exact ⟨KN.out.c 0, KN.out.c 1, KN.out.c 2, KN.out.c 3, KN.out.c 4⟩ | exact ⟨KN1.out.c 0, KN1.out.c 1, KN1.out.c 2, KN1.out.c 3, KN1.out.c 4⟩ | exact ⟨KN2.out.c 0, KN2.out.c 1, KN2.out.c 2, KN2.out.c 3, KN2.out.c 4⟩ | exact ⟨KN3.out.c 0, KN3.out.c 1, KN3.out.c 2, KN3.out.c 3, KN3.out.c 4⟩ | exact ⟨(KN3.out.fz (Fz.set w3 wb 5 (.slice A9 n9 k9)) (by simp; have := HLT.out.2; omega)).c 0, (KN3.out.fz (Fz.set w3 wb 5 (.slice A9 n9 k9)) (by simp; have := HLT.out.2; omega)).c 1, (KN3.out.fz (Fz.set w3 wb 5 (.slice A9 n9 k9)) (by simp; have := HLT.out.2; omega)).c 2, (KN3.out.fz (Fz.set w3 wb 5 (.slice A9 n9 k9)) (by simp; have := HLT.out.2; omega)).c 3, (KN3.out.fz (Fz.set w3 wb 5 (.slice A9 n9 k9)) (by simp; have := HLT.out.2; omega)).c 4⟩
          clear hK K
          try simp only [Act.put, List.setIfInBounds_toArray, List.set_cons_zero, List.set_cons_succ, List.getElem_toArray, List.getElem_cons_zero, List.getElem_cons_succ]
          refine wpAnyH_done (by kernel_rfl) ?_ _
          refine NoPanic.normal ?_
          go_wp2_with fail
          go_end0
          exact ⟨rfl, _, KW3.out.set 5 (.slice A9 n9 k9), own_blockW KO3.out (fun kb e => (Fz.set w3 wb 5 (.slice A9 n9 k9)).block kb (let ⟨_, _, h2⟩ := own_ty KO3.out e; h2.lt) (by
            simp
            rintro rfl
            obtain ⟨_, _, h2⟩ := own_ty KO3.out e
            exact h2.ne_ty KW3.out (by decide) rfl)), (KX3.out.trans (Fz.set w3 wb 5 (.slice A9 n9 k9))).mono (by intro y _ hy; simp only [List.mem_append, List.mem_cons, List.not_mem_nil, or_false] at hy ⊢; exact hy.symm)⟩
        · go_simp
          have F2 := Fz.alloc w1 (.cells (toldC tick k hd x).toArray 27)
          have KW2 := Keep.mk (KW1.out.fz F2 (by simp))
          have KN2 := Keep.mk (KN1.out.fz F2 (by simp))
          have KT2 := Keep.mk (Bk.new w1 (toldC tick k hd x).toArray 27)
          have KX2 : Keep (Fz w (w1.alloc (.cells (toldC tick k hd x).toArray 27)) []) := ⟨(KX1.out.trans F2).mono (by simp)⟩
          have KL2 : Keep ((w1.alloc (.cells (toldC tick k hd x).toArray 27)).ownsRow lo 27 7 (.slice A n cc) n L) := ⟨own_blockW KL1.out (fun kb e => let ⟨_, _, h2⟩ := own_ty KL1.out e; F2.block kb h2.lt (by simp))⟩
          have e5c : (w1.alloc (.cells (toldC tick k hd x).toArray 27)).cell? ⟨wb, 5, none⟩ = some (.slice A n cc) := KW2.out.c 5
          clear F2
          refine hK.out _ _ ?_ (fun hHeld => ?_)
          · first | exact ⟨KN.out.c 0, KN.out.c 1, KN.out.c 2, KN.out.c 3, KN.out.c 4⟩ | exact ⟨KN1.out.c 0, KN1.out.c 1, KN1.out.c 2, KN1.out.c 3, KN1.out.c 4⟩ | exact ⟨KN2.out.c 0, KN2.out.c 1, KN2.out.c 2, KN2.out.c 3, KN2.out.c 4⟩ | exact ⟨KN3.out.c 0, KN3.out.c 1, KN3.out.c 2, KN3.out.c 3, KN3.out.c 4⟩ | exact ⟨(KN3.out.fz (Fz.set w3 wb 5 (.slice A9 n9 k9)) (by simp; have := HLT.out.2; omega)).c 0, (KN3.out.fz (Fz.set w3 wb 5 (.slice A9 n9 k9)) (by simp; have := HLT.out.2; omega)).c 1, (KN3.out.fz (Fz.set w3 wb 5 (.slice A9 n9 k9)) (by simp; have := HLT.out.2; omega)).c 2, (KN3.out.fz (Fz.set w3 wb 5 (.slice A9 n9 k9)) (by simp; have := HLT.out.2; omega)).c 3, (KN3.out.fz (Fz.set w3 wb 5 (.slice A9 n9 k9)) (by simp; have := HLT.out.2; omega)).c 4⟩
          clear hK K
          try simp only [Act.put, List.setIfInBounds_toArray, List.set_cons_zero, List.set_cons_succ, List.getElem_toArray, List.getElem_cons_zero, List.getElem_cons_succ]
          refine wpAnyH_ready (rs := [4]) (by kernel_rfl) (by simp) ?_
          refine AllReadyH.cons rfl (fun K hK => ?_) AllReadyH.nil
          go_simp
          refine hK.out _ _ ?_ (fun hHeld => ?_)
          · first | exact ⟨KN.out.c 0, KN.out.c 1, KN.out.c 2, KN.out.c 3, KN.out.c 4⟩ | exact ⟨KN1.out.c 0, KN1.out.c 1, KN1.out.c 2, KN1.out.c 3, KN1.out.c 4⟩ | exact ⟨KN2.out.c 0, KN2.out.c 1, KN2.out.c 2, KN2.out.c 3, KN2.out.c 4⟩ | exact ⟨KN3.out.c 0, KN3.out.c 1, KN3.out.c 2, KN3.out.c 3, KN3.out.c 4⟩ | exact ⟨(KN3.out.fz (Fz.set w3 wb 5 (.slice A9 n9 k9)) (by simp; have := HLT.out.2; omega)).c 0, (KN3.out.fz (Fz.set w3 wb 5 (.slice A9 n9 k9)) (by simp; have := HLT.out.2; omega)).c 1, (KN3.out.fz (Fz.set w3 wb 5 (.slice A9 n9 k9)) (by simp; have := HLT.out.2; omega)).c 2, (KN3.out.fz (Fz.set w3 wb 5 (.slice A9 n9 k9)) (by simp; have := HLT.out.2; omega)).c 3, (KN3.out.fz (Fz.set w3 wb 5 (.slice A9 n9 k9)) (by simp; have := HLT.out.2; omega)).c 4⟩
          clear hK K
          try simp only [Act.put, List.setIfInBounds_toArray, List.set_cons_zero, List.set_cons_succ, List.getElem_toArray, List.getElem_cons_zero, List.getElem_cons_succ]
          refine wpAnyH_ready (rs := [22]) (by kernel_rfl) (by simp) ?_
          refine AllReadyH.cons rfl (fun K hK => ?_) AllReadyH.nil
          refine step_more rfl (.tmp 14) (.tmp 31) 22 27 rfl Tryz.underlying22 infoTold rfl (by omega) (by omega) (.slice A n cc) rfl w1.heap.size (toldC tick k hd x) rfl rfl (fun j u hu => ?_) ?_ (by simp [Value.oneCell']) lo n L KL2.out (Nat.le_trans KL.out.2.1 KX2.out.size) (by have := KL.out.2.2; omega) ?_
          · exact (KT2.out.c j).trans (Array.getElem?_toList.symm.trans hu)
          · exact KT2.out.lt
          intro v' w3 ho3 hg3 hv3
          obtain ⟨A9, n9, k9, rfl⟩ : ∃ A n k, v' = Value.slice A n k := by
            obtain ⟨A, c, h, _⟩ := own_slice ho3
            exact ⟨A, _, c, h⟩
          have F3 := Fz.grown hg3
          have NIN : ∀ {y : Nat} {arr : Array Value} {ty : TypeId}, Bk (w1.alloc (.cells (toldC tick k hd x).toArray 27)) y arr ty → 27 ≠ ty → y ∉ (Value.slice A n cc).ownBlock.toList := fun hb ht hm => by
            obtain ⟨_, cur, h2⟩ := own_ty KL2.out (by simpa using hm)
            exact h2.ne_ty hb ht rfl
          have KW3 := Keep.mk (KW2.out.fz F3 (NIN KW2.out (by decide)))
          have KN3 := Keep.mk (KN2.out.fz F3 (NIN KN2.out (by decide)))
          have KX3 : Keep (Fz w w3 (Value.slice A n cc).ownBlock.toList) := ⟨(KX2.out.trans F3).mono (by simp)⟩
          have KO3 := Keep.mk ho3
          have f5 := KW3.out.free 5
          have d5 : w3.cell? ⟨wb, 5, none⟩ = some (.slice A n cc) := KW3.out.c 5
          clear ho3 hg3 hv3 F3 NIN
          refine hK.out _ _ ?_ (fun hHeld => ?_)
          · first | exact ⟨KN.out.c 0, KN.out.c 1, KN.out.c 2, KN.out.c 3, KN.out.c 4⟩ | exact ⟨KN1.out.c 0, KN1.out.c 1, KN1.out.c 2, KN1.out.c 3, KN1.out.c 4⟩ | exact ⟨KN2.out.c 0, KN2.out.c 1, KN2.out.c 2, KN2.out.c 3, KN2.out.c 4⟩ | exact ⟨KN3.out.c 0, KN3.out.c 1, KN3.out.c 2, KN3.out.c 3, KN3.out.c 4⟩ | exact ⟨(KN3.out.fz (Fz.set w3 wb 5 (.slice A9 n9 k9)) (by simp; have := HLT.out.2; omega)).c 0, (KN3.out.fz (Fz.set w3 wb 5 (.slice A9 n9 k9)) (by simp; have := HLT.out.2; omega)).c 1, (KN3.out.fz (Fz.set w3 wb 5 (.slice A9 n9 k9)) (by simp; have := HLT.out.2; omega)).c 2, (KN3.out.fz (Fz.set w3 wb 5 (.slice A9 n9 k9)) (by simp; have := HLT.out.2; omega)).c 3, (KN3.out.fz (Fz.set w3 wb 5 (.slice A9 n9 k9)) (by simp; have := HLT.out.2; omega)).c 4⟩
          clear hK K
          try simp only [Act.put, List.setIfInBounds_toArray, List.set_cons_zero, List.set_cons_succ, List.getElem_toArray, List.getElem_cons_zero, List.getElem_cons_succ]
          refine wpAnyH_take (i := 23) (v := ?_) rfl (by kernel_rfl) (by kernel_rfl) (by kernel_rfl) (fun _ _ _ h => h) (Or.inl ⟨by rfl, ?_⟩) (by assumption) ?_
          rotate_left
          · intro w hSw; go_simp; (try with_reducible rfl)
          try simp only [Act.put, List.setIfInBounds_toArray, List.set_cons_zero, List.set_cons_succ, List.getElem_toArray, List.getElem_cons_zero, List.getElem_cons_succ]
          refine wpAnyH_take (i := 24) (v := ?_) rfl (by kernel_rfl) (by kernel_rfl) (by kernel_rfl) (fun _ _ _ h => h) (Or.inl ⟨by rfl, ?_⟩) (by assumption) ?_
          rotate_left
          · intro w hSw; go_simp; (try with_reducible rfl)
          try simp only [Act.put, List.setIfInBounds_toArray, List.set_cons_zero, List.set_cons_succ, List.getElem_toArray, List.getElem_cons_zero, List.getElem_cons_succ]
          refine wpAnyH_ready (rs := [25]) (by kernel_rfl) (by simp) ?_
          refine AllReadyH.cons rfl (fun K hK => ?_) AllReadyH.nil
          go_simp
          refine hK.out _ _ ?_ (fun hHeld => ?_)
          · first | exact ⟨KN.out.c 0, KN.out.c 1, KN.out.c 2, KN.out.c 3, KN.out.c 4⟩ | exact ⟨KN1.out.c 0, KN1.out.c 1, KN1.out.c 2, KN1.out.c 3, KN1.out.c 4⟩ | exact ⟨KN2.out.c 0, KN2.out.c 1, KN2.out.c 2, KN2.out.c 3, KN2.out.c 4⟩ | exact ⟨KN3.out.c 0, KN3.out.c 1, KN3.out.c 2, KN3.out.c 3, KN3.out.c 4⟩ | exact ⟨(KN3.out.fz (Fz.set w3 wb 5 (.slice A9 n9 k9)) (by simp; have := HLT.out.2; omega)).c 0, (KN3.out.fz (Fz.set w3 wb 5 (.slice A9 n9 k9)) (by simp; have := HLT.out.2; omega)).c 1, (KN3.out.fz (Fz.set w3 wb 5 (.slice A9 n9 k9)) (by simp; have := HLT.out.2; omega)).c 2, (KN3.out.fz (Fz.set w3 wb 5 (.slice A9 n9 k9)) (by simp; have := HLT.out.2; omega)).c 3, (KN3.out.fz (Fz.set w3 wb 5 (.slice A9 n9 k9)) (by simp; have := HLT.out.2; omega)).c 4⟩
          clear hK K
          try simp only [Act.put, List.setIfInBounds_toArray, List.set_cons_zero, List.set_cons_succ, List.getElem_toArray, List.getElem_cons_zero, List.getElem_cons_succ]
          refine wpAnyH_done (by kernel_rfl) ?_ _
          refine NoPanic.normal ?_
          go_wp2_with fail
          go_end0
          exact ⟨rfl, _, KW3.out.set 5 (.slice A9 n9 k9), own_blockW KO3.out (fun kb e => (Fz.set w3 wb 5 (.slice A9 n9 k9)).block kb (let ⟨_, _, h2⟩ := own_ty KO3.out e; h2.lt) (by
            simp
            rintro rfl
            obtain ⟨_, _, h2⟩ := own_ty KO3.out e
            exact h2.ne_ty KW3.out (by decide) rfl)), (KX3.out.trans (Fz.set w3 wb 5 (.slice A9 n9 k9))).mono (by intro y _ hy; simp only [List.mem_append, List.mem_cons, List.not_mem_nil, or_false] at hy ⊢; exact hy.symm)⟩
  -- end reg
end
end Go.Proofs.YtjpokeakemlffaaGreatDoor
