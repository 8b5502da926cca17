/-
  Walks and laws, one behind the other (part 41).
-/
import Derived.Test.YtjpokeakemlffaaGreatDoorS29
import Derived.Test.YtjpokeakemlffaaGreatDoorS39
import Derived.Test.YtjpokeakemlffaaGreatDoorS40
set_option linter.unusedSimpArgs false
set_option linter.unusedVariables false
/-
  A stream hears any call.
-/
namespace Go.Proofs.YtjpokeakemlffaaGreatDoor
open Go.RowKit Go.Maps
def badB (e : Int) : Bool := e == 12 || e == 13 || e == 14 || e == 17
set_option maxRecDepth 100000 in
set_option maxHeartbeats 1600000 in
theorem bad_any (e : Int) (w : World) : Calls Tryz.prog 45 #[.int .i64 e] w fun r w' => r = .returned (.bool (badB e)) ∧ w' = w := by
  obtain ⟨a, ha⟩ : ∃ b, (e == 12) = b := ⟨_, rfl⟩
  obtain ⟨b, hb⟩ : ∃ b, (e == 13) = b := ⟨_, rfl⟩
  obtain ⟨c, hc⟩ : ∃ b, (e == 14) = b := ⟨_, rfl⟩
  obtain ⟨d, hd⟩ : ∃ b, (e == 17) = b := ⟨_, rfl⟩
  have HE : Keep (badB e = (a || b || c || d)) := ⟨by unfold badB; rw [ha, hb, hc, hd]⟩
  cases a
  · cases b
    · cases c
      · cases d
        · go_enter Tryz.func45, Tryz.ntmps45
          go_wp2_with fail
          go_ret
          exact ⟨by rw [HE.out]; rfl, rfl⟩
        · go_enter Tryz.func45, Tryz.ntmps45
          go_wp2_with fail
          go_ret
          exact ⟨by rw [HE.out]; rfl, rfl⟩
      · go_enter Tryz.func45, Tryz.ntmps45
        go_wp2_with fail
        go_ret
        exact ⟨by rw [HE.out]; rfl, rfl⟩
    · go_enter Tryz.func45, Tryz.ntmps45
      go_wp2_with fail
      go_ret
      exact ⟨by rw [HE.out]; rfl, rfl⟩
  · go_enter Tryz.func45, Tryz.ntmps45
    go_wp2_with fail
    go_ret
    exact ⟨by rw [HE.out]; rfl, rfl⟩
structure StS where
  wr : List Int
  rd : List Int
  sh : Bool
  cl : Bool
  ov : Bool
  e : Int
abbrev strK (s h : Int) (v1 v2 : Value) (t : StS) : Array Value := #[.int .i64 s, .int .i64 h, v1, v2, .bool t.sh, .bool t.cl, .bool t.ov, .int .i64 t.e]
abbrev strL (b : Nat) (s h : Int) (v1 v2 : Value) (t : StS) : List HA := [blkA b (strK s h v1 v2 t) 31, rowA 5 1 v1 t.wr.length (t.wr.flatMap encB), rowA 5 1 v2 t.rd.length (t.rd.flatMap encB)]
structure Td where
  s : Int
  tk : Int
  k : Int
  h : Int
  n : Int
  A : Option Addr
  m : Nat
  c : Nat
  d : List Int
  e : Int
abbrev tdK (x : Td) : List Value := [.int .i64 x.s, .int .i64 x.tk, .int .i64 x.k, .int .i64 x.h, .int .i64 x.n, .slice x.A x.m x.c, .int .i64 x.e]
def hearK (t : StS) (x : Td) : StS :=
  if x.k = 7 then { t with wr := t.wr ++ x.d } else if x.k = 8 then { t with rd := t.rd ++ x.d, ov := t.ov || (x.e == 11 && !t.cl) }
  else if x.k = 9 then { t with sh := t.sh || x.e == 0 } else if x.k = 10 then { t with sh := t.sh || x.e == 0, cl := t.cl || x.e == 0 } else if x.k = 11 then { t with cl := t.cl || x.e == 0 } else t
def hearE (t : StS) (x : Td) : Int := if (x.k = 7 ∨ x.k = 8) ∧ (t.e == 0) = true ∧ badB x.e = true then x.e else t.e
def hearN (t : StS) (x : Td) : StS := { hearK t x with e := hearE t x }
section
variable {w w0 : World} {sb : Nat} {s h : Int} {v1 v2 : Value} {t : StS} {x : Td} {L : List HA}
set_option maxRecDepth 100000 in
set_option maxHeartbeats 6400000 in
theorem hears_7 (H : Sat w (strL sb s h v1 v2 t ++ initA w0 :: L)) (ha : Arg w0 1 encB x.A x.m x.c x.d) (hl : t.wr.length + x.m ≤ 1000000) (hk : x.k = 7) :
    Calls Tryz.prog 14 #[.pointer (some ⟨sb, 0, none⟩), .agg (tdK x).toArray] w fun r w' => r = .returned (.tuple #[]) ∧ ∃ v1' v2', Sat w' (strL sb s h v1' v2' (hearN t x) ++ initA w0 :: L) := by
  obtain ⟨B1, k1, rfl, -⟩ := (H.to 1 rfl).sl
  obtain ⟨ts, tk, k, th, nn, A, m, c, d, e⟩ := x
  obtain ⟨wr, rd, sh, cl, ov, e0⟩ := t
  obtain rfl : k = 7 := hk
  have HA := Keep.mk ha
  have HL : Keep (wr.length + m ≤ 1000000) := ⟨hl⟩
  have BD : Keep (∀ W, Calls Tryz.prog 45 #[.int .i64 e] W fun r w' => r = .returned (.bool (badB e)) ∧ w' = W) := ⟨fun W => bad_any e W⟩
  clear ha hl
  go_enter Tryz.func14, Tryz.ntmps14
  go_wp2_with fail
  refine wp_region_noPanic ?_
  refine wpL_beg (H.alloc _ _) (fun X => X.cell? ⟨w.heap.size, 5, none⟩ = some ((.slice A m c))) (fun X => X.cell? ⟨sb, 2, none⟩ = some ((.slice B1 wr.length k1))) 10 (by kernel_rfl) ?_ ?_
  · intro w1 H
    refine ⟨?_, ?_⟩
    · exact (H.bkAt 0 rfl).c 5
    · exact (H.bkAt 1 rfl).c 2
  intro w1 H1 hHeld
  try clear H
  have H := H1
  clear H1
  refine wpL_looks (fun d => ([1000, 1000, 1000, 1000, 1000, 1000, 1000, 1000, 1000, 1000, 1000, 1000, 0, 1, 2, 3, 4, 5, 6, 7, 8, 9] : List Nat).getD d 1000) [0, 1, 2, 3, 4, 5, 6] 4 (by kernel_rfl) (by kernel_rfl) (by kernel_rfl) (by kernel_rfl) (fun _ _ _ _ _ h => h) hHeld (fun K hK => ?_)
  iterate 4 (refine Ysp (v := ?_) rfl (by rfl) ?_ ?_; rotate_left; (focus (intro w hSw; go_simp; (try with_reducible rfl))); try simp only [Act.put, List.setIfInBounds_toArray, List.set_cons_zero, List.set_cons_succ, List.getElem_toArray, List.getElem_cons_zero, List.getElem_cons_succ])
  (refine Yst (v := ?_) rfl (by kernel_rfl) (by rfl) ?_ ?_; rotate_left; (focus (intro w hSw; go_simp; (try with_reducible rfl))); try simp only [Act.put, List.setIfInBounds_toArray, List.set_cons_zero, List.set_cons_succ, List.getElem_toArray, List.getElem_cons_zero, List.getElem_cons_succ])
  iterate 2 (refine Ysp (v := ?_) rfl (by rfl) ?_ ?_; rotate_left; (focus (intro w hSw; go_simp; (try with_reducible rfl))); try simp only [Act.put, List.setIfInBounds_toArray, List.set_cons_zero, List.set_cons_succ, List.getElem_toArray, List.getElem_cons_zero, List.getElem_cons_succ])
  refine hK _ ?_
  clear hK K
  change wpAnyL _ _ _ _ _ _ _ _ #[true, true, true, true, true, true, true, false, false, false, false] _ _
  refine wpL_next (i := 7) (by kernel_rfl) rfl (fun K hK => ?_)
  try clear hHeld
  refine step_appR (by rfl) _ _ _ rfl Tryz.underlying24 infoB1 rfl (by omega) (by omega) (H.to 2 rfl) rfl rfl HA.out.hnil HA.out.hlen ((HA.out.rd.below (H.to 4 rfl).initB).more (H.to 4 rfl).initB.size) encB_length encBOne HL.out ?_
  intro A2 k2 w3 H0
  have H1 := H0.back 2
  clear H H0
  have H := H1
  clear H1
  refine hK.out _ _ ⟨?_, ?_⟩ (fun hHeld => ?_)
  · exact (H.bkAt 0 rfl).c 5
  · intro _; exact (H.bkAt 1 rfl).c 2
  clear hK K
  try simp only [Act.put, List.setIfInBounds_toArray, List.set_cons_zero, List.set_cons_succ, List.getElem_toArray, List.getElem_cons_zero, List.getElem_cons_succ]
  refine wpL_looks (fun d => ([1000, 1000, 1000, 1000, 1000, 1000, 1000, 1000, 1000, 1000, 1000, 1000, 0, 1, 2, 3, 4, 5, 6, 7, 8, 9] : List Nat).getD d 1000) [8, 9] 1 (by kernel_rfl) (by kernel_rfl) (by kernel_rfl) (by kernel_rfl) (fun _ _ _ _ _ h => h) hHeld (fun K hK => ?_)
  iterate 2 (refine Ysp (v := ?_) rfl (by rfl) ?_ ?_; rotate_left; (focus (intro w hSw; go_simp; (try with_reducible rfl))); try simp only [Act.put, List.setIfInBounds_toArray, List.set_cons_zero, List.set_cons_succ, List.getElem_toArray, List.getElem_cons_zero, List.getElem_cons_succ])
  refine hK _ ?_
  clear hK K
  change wpAnyL _ _ _ _ _ _ _ _ #[true, true, true, true, true, true, true, true, true, true, false] _ _
  refine wpL_next (i := 10) (by kernel_rfl) rfl (fun K hK => ?_)
  try clear hHeld
  refine step_set 1 sb 2 (by rfl) _ _ _ (.slice A2 (wr.length + m) k2) rfl H rfl rfl rfl rfl (by kernel_rfl) rfl ?_
  intro w4 H1
  clear H
  have H := H1
  clear H1
  refine hK.out _ _ ⟨?_, ?_⟩ (fun hHeld => ?_)
  · exact (H.bkAt 0 rfl).c 5
  · exact fun h => absurd h (by decide)
  clear hK K
  try simp only [Act.put, List.setIfInBounds_toArray, List.set_cons_zero, List.set_cons_succ, List.getElem_toArray, List.getElem_cons_zero, List.getElem_cons_succ]
  try clear hHeld
  refine wpL_done (by kernel_rfl) ?_ _
  refine NoPanic.normal ?_
  have q2 : w4.cell? ⟨w.heap.size, 2, none⟩ = some (.int .i64 7) := (H.bkAt 0 rfl).c 2
  have q6 : w4.cell? ⟨w.heap.size, 6, none⟩ = some (.int .i64 e) := (H.bkAt 0 rfl).c 6
  have s7 : w4.cell? ⟨sb, 7, none⟩ = some (.int .i64 e0) := (H.bkAt 1 rfl).c 7
  have fs7 : w4.frozen? ⟨sb, 7, none⟩ = false := (H.bkAt 1 rfl).free 7
  have KH : Keep (Sat w4 (strL sb s h (.slice A2 (wr.length + m) k2) v2 ⟨wr ++ d, rd, sh, cl, ov, e0⟩ ++ initA w0 :: L)) := ⟨by
    have := H.tl
    show Sat w4 (blkA sb _ _ :: rowA _ _ _ (wr ++ d).length ((wr ++ d).flatMap encB) :: _)
    rw [List.length_append, List.flatMap_append, HA.out.hlen]
    exact this⟩
  clear H
  obtain ⟨z, hz⟩ : ∃ b, (e0 == 0) = b := ⟨_, rfl⟩
  obtain ⟨y, hy⟩ : ∃ b, badB e = b := ⟨_, rfl⟩
  rw [hy] at BD
  have HN : Keep (hearN ⟨wr, rd, sh, cl, ov, e0⟩ ⟨ts, tk, 7, th, nn, A, m, c, d, e⟩ = ⟨wr ++ d, rd, sh, cl, ov, if z = true ∧ y = true then e else e0⟩) := ⟨by simp [hearN, hearK, hearE, hz, hy]⟩
  clear hy
  cases z
  · go_wp2_with (first
      | (go_at_call 45; refine (BD.out _).mono ?_; rintro r X ⟨rfl, hX⟩; rw [hX]; clear hX)
      | fail)
    go_end0
    exact ⟨rfl, _, _, by rw [HN.out]; exact KH.out⟩
  · cases y
    · go_wp2_with (first
        | (go_at_call 45; refine (BD.out _).mono ?_; rintro r X ⟨rfl, hX⟩; rw [hX]; clear hX)
        | fail)
      go_end0
      exact ⟨rfl, _, _, by rw [HN.out]; exact KH.out⟩
    · go_wp2_with (first
        | (go_at_call 45; refine (BD.out _).mono ?_; rintro r X ⟨rfl, hX⟩; rw [hX]; clear hX)
        | fail)
      go_end0
      exact ⟨rfl, _, _, by rw [HN.out]; exact KH.out.setAt 0 rfl 7 (.int .i64 e)⟩
-- gen
set_option maxRecDepth 100000 in
set_option maxHeartbeats 6400000 in
theorem hears_8 (H : Sat w (strL sb s h v1 v2 t ++ initA w0 :: L)) (ha : Arg w0 1 encB x.A x.m x.c x.d) (hl : t.rd.length + x.m ≤ 1000000) (hk : x.k = 8) :
    Calls Tryz.prog 14 #[.pointer (some ⟨sb, 0, none⟩), .agg (tdK x).toArray] w fun r w' => r = .returned (.tuple #[]) ∧ ∃ v1' v2', Sat w' (strL sb s h v1' v2' (hearN t x) ++ initA w0 :: L) := by
  obtain ⟨B1, k1, rfl, -⟩ := (H.to 2 rfl).sl
  obtain ⟨ts, tk, k, th, nn, A, m, c, d, e⟩ := x
  obtain ⟨wr, rd, sh, cl, ov, e0⟩ := t
  obtain rfl : k = 8 := hk
  have HA := Keep.mk ha
  have HL : Keep (rd.length + m ≤ 1000000) := ⟨hl⟩
  have BD : Keep (∀ W, Calls Tryz.prog 45 #[.int .i64 e] W fun r w' => r = .returned (.bool (badB e)) ∧ w' = W) := ⟨fun W => bad_any e W⟩
  clear ha hl
  go_enter Tryz.func14, Tryz.ntmps14
  go_wp2_with fail
  refine wp_region_noPanic ?_
  refine wpL_beg (H.alloc _ _) (fun X => X.cell? ⟨w.heap.size, 5, none⟩ = some ((.slice A m c))) (fun X => X.cell? ⟨sb, 3, none⟩ = some ((.slice B1 rd.length k1))) 10 (by kernel_rfl) ?_ ?_
  · intro w1 H
    refine ⟨?_, ?_⟩
    · exact (H.bkAt 0 rfl).c 5
    · exact (H.bkAt 1 rfl).c 3
  intro w1 H1 hHeld
  try clear H
  have H := H1
  clear H1
  refine wpL_looks (fun d => ([1000, 1000, 1000, 1000, 1000, 1000, 1000, 1000, 1000, 1000, 1000, 1000, 1000, 1000, 1000, 1000, 1000, 1000, 1000, 1000, 1000, 1000, 1000, 1000, 0, 1, 2, 3, 4, 5, 6, 7, 8, 9] : List Nat).getD d 1000) [0, 1, 2, 3, 4, 5, 6] 4 (by kernel_rfl) (by kernel_rfl) (by kernel_rfl) (by kernel_rfl) (fun _ _ _ _ _ h => h) hHeld (fun K hK => ?_)
  iterate 4 (refine Ysp (v := ?_) rfl (by rfl) ?_ ?_; rotate_left; (focus (intro w hSw; go_simp; (try with_reducible rfl))); try simp only [Act.put, List.setIfInBounds_toArray, List.set_cons_zero, List.set_cons_succ, List.getElem_toArray, List.getElem_cons_zero, List.getElem_cons_succ])
  (refine Yst (v := ?_) rfl (by kernel_rfl) (by rfl) ?_ ?_; rotate_left; (focus (intro w hSw; go_simp; (try with_reducible rfl))); try simp only [Act.put, List.setIfInBounds_toArray, List.set_cons_zero, List.set_cons_succ, List.getElem_toArray, List.getElem_cons_zero, List.getElem_cons_succ])
  iterate 2 (refine Ysp (v := ?_) rfl (by rfl) ?_ ?_; rotate_left; (focus (intro w hSw; go_simp; (try with_reducible rfl))); try simp only [Act.put, List.setIfInBounds_toArray, List.set_cons_zero, List.set_cons_succ, List.getElem_toArray, List.getElem_cons_zero, List.getElem_cons_succ])
  refine hK _ ?_
  clear hK K
  change wpAnyL _ _ _ _ _ _ _ _ #[true, true, true, true, true, true, true, false, false, false, false] _ _
  refine wpL_next (i := 7) (by kernel_rfl) rfl (fun K hK => ?_)
  try clear hHeld
  refine step_appR (by rfl) _ _ _ rfl Tryz.underlying24 infoB1 rfl (by omega) (by omega) (H.to 3 rfl) rfl rfl HA.out.hnil HA.out.hlen ((HA.out.rd.below (H.to 4 rfl).initB).more (H.to 4 rfl).initB.size) encB_length encBOne HL.out ?_
  intro A2 k2 w3 H0
  have H1 := H0.back 3
  clear H H0
  have H := H1
  clear H1
  refine hK.out _ _ ⟨?_, ?_⟩ (fun hHeld => ?_)
  · exact (H.bkAt 0 rfl).c 5
  · intro _; exact (H.bkAt 1 rfl).c 3
  clear hK K
  try simp only [Act.put, List.setIfInBounds_toArray, List.set_cons_zero, List.set_cons_succ, List.getElem_toArray, List.getElem_cons_zero, List.getElem_cons_succ]
  refine wpL_looks (fun d => ([1000, 1000, 1000, 1000, 1000, 1000, 1000, 1000, 1000, 1000, 1000, 1000, 1000, 1000, 1000, 1000, 1000, 1000, 1000, 1000, 1000, 1000, 1000, 1000, 0, 1, 2, 3, 4, 5, 6, 7, 8, 9] : List Nat).getD d 1000) [8, 9] 1 (by kernel_rfl) (by kernel_rfl) (by kernel_rfl) (by kernel_rfl) (fun _ _ _ _ _ h => h) hHeld (fun K hK => ?_)
  iterate 2 (refine Ysp (v := ?_) rfl (by rfl) ?_ ?_; rotate_left; (focus (intro w hSw; go_simp; (try with_reducible rfl))); try simp only [Act.put, List.setIfInBounds_toArray, List.set_cons_zero, List.set_cons_succ, List.getElem_toArray, List.getElem_cons_zero, List.getElem_cons_succ])
  refine hK _ ?_
  clear hK K
  change wpAnyL _ _ _ _ _ _ _ _ #[true, true, true, true, true, true, true, true, true, true, false] _ _
  refine wpL_next (i := 10) (by kernel_rfl) rfl (fun K hK => ?_)
  try clear hHeld
  refine step_set 1 sb 3 (by rfl) _ _ _ (.slice A2 (rd.length + m) k2) rfl H rfl rfl rfl rfl (by kernel_rfl) rfl ?_
  intro w4 H1
  clear H
  have H := H1
  clear H1
  refine hK.out _ _ ⟨?_, ?_⟩ (fun hHeld => ?_)
  · exact (H.bkAt 0 rfl).c 5
  · exact fun h => absurd h (by decide)
  clear hK K
  try simp only [Act.put, List.setIfInBounds_toArray, List.set_cons_zero, List.set_cons_succ, List.getElem_toArray, List.getElem_cons_zero, List.getElem_cons_succ]
  try clear hHeld
  refine wpL_done (by kernel_rfl) ?_ _
  refine NoPanic.normal ?_
  have q2 : w4.cell? ⟨w.heap.size, 2, none⟩ = some (.int .i64 8) := (H.bkAt 0 rfl).c 2
  have q6 : w4.cell? ⟨w.heap.size, 6, none⟩ = some (.int .i64 e) := (H.bkAt 0 rfl).c 6
  have s5 : w4.cell? ⟨sb, 5, none⟩ = some (.bool cl) := (H.bkAt 1 rfl).c 5
  have s6 : w4.cell? ⟨sb, 6, none⟩ = some (.bool ov) := (H.bkAt 1 rfl).c 6
  have s7 : w4.cell? ⟨sb, 7, none⟩ = some (.int .i64 e0) := (H.bkAt 1 rfl).c 7
  have fs6 : w4.frozen? ⟨sb, 6, none⟩ = false := (H.bkAt 1 rfl).free 6
  have fs7 : w4.frozen? ⟨sb, 7, none⟩ = false := (H.bkAt 1 rfl).free 7
  have hne : w.heap.size ≠ sb := Sat.ne H
  have KH : Keep (Sat w4 (strL sb s h v1 (.slice A2 (rd.length + m) k2) ⟨wr, rd ++ d, sh, cl, ov, e0⟩ ++ initA w0 :: L)) := ⟨by
    have := H.tl
    show Sat w4 (blkA sb _ _ :: _ :: rowA _ _ _ (rd ++ d).length ((rd ++ d).flatMap encB) :: _)
    rw [List.length_append, List.flatMap_append, HA.out.hlen]
    exact this⟩
  clear H
  obtain ⟨z, hz⟩ : ∃ b, (e0 == 0) = b := ⟨_, rfl⟩
  obtain ⟨y, hy⟩ : ∃ b, badB e = b := ⟨_, rfl⟩
  obtain ⟨u, hu⟩ : ∃ b, (e == 11) = b := ⟨_, rfl⟩
  rw [hy] at BD
  have HN : Keep (hearN ⟨wr, rd, sh, cl, ov, e0⟩ ⟨ts, tk, 8, th, nn, A, m, c, d, e⟩ = ⟨wr, rd ++ d, sh, cl, ov || (u && !cl), if z = true ∧ y = true then e else e0⟩) := ⟨by simp [hearN, hearK, hearE, hz, hy, ← hu]⟩
  clear hy
  cases ov
  · cases u
    · cases z
      · go_wp2_with (first
            | (go_at_call 45; refine (BD.out _).mono ?_; rintro r X ⟨rfl, hX⟩; rw [hX]; clear hX)
            | fail)
        first
          | go_end0
          | (try simp only [Exit.inBlock, Exit.then]; refine bodyPost_ret (results_none rfl _ _ _) rfl ?_)
        exact ⟨rfl, _, _, by rw [HN.out]; exact KH.out.setAt 0 rfl 6 (.bool false)⟩
      · cases y
        · go_wp2_with (first
              | (go_at_call 45; refine (BD.out _).mono ?_; rintro r X ⟨rfl, hX⟩; rw [hX]; clear hX)
              | fail)
          first
            | go_end0
            | (try simp only [Exit.inBlock, Exit.then]; refine bodyPost_ret (results_none rfl _ _ _) rfl ?_)
          exact ⟨rfl, _, _, by rw [HN.out]; exact KH.out.setAt 0 rfl 6 (.bool false)⟩
        · go_wp2_with (first
              | (go_at_call 45; refine (BD.out _).mono ?_; rintro r X ⟨rfl, hX⟩; rw [hX]; clear hX)
              | fail)
          first
            | go_end0
            | (try simp only [Exit.inBlock, Exit.then]; refine bodyPost_ret (results_none rfl _ _ _) rfl ?_)
          exact ⟨rfl, _, _, by rw [HN.out]; exact (KH.out.setAt 0 rfl 6 (.bool false)).setAt 0 rfl 7 (.int .i64 e)⟩
    · cases cl
      · cases z
        · go_wp2_with (first
              | (go_at_call 45; refine (BD.out _).mono ?_; rintro r X ⟨rfl, hX⟩; rw [hX]; clear hX)
              | fail)
          first
            | go_end0
            | (try simp only [Exit.inBlock, Exit.then]; refine bodyPost_ret (results_none rfl _ _ _) rfl ?_)
          exact ⟨rfl, _, _, by rw [HN.out]; exact KH.out.setAt 0 rfl 6 (.bool true)⟩
        · cases y
          · go_wp2_with (first
                | (go_at_call 45; refine (BD.out _).mono ?_; rintro r X ⟨rfl, hX⟩; rw [hX]; clear hX)
                | fail)
            first
              | go_end0
              | (try simp only [Exit.inBlock, Exit.then]; refine bodyPost_ret (results_none rfl _ _ _) rfl ?_)
            exact ⟨rfl, _, _, by rw [HN.out]; exact KH.out.setAt 0 rfl 6 (.bool true)⟩
          · go_wp2_with (first
                | (go_at_call 45; refine (BD.out _).mono ?_; rintro r X ⟨rfl, hX⟩; rw [hX]; clear hX)
                | fail)
            first
              | go_end0
              | (try simp only [Exit.inBlock, Exit.then]; refine bodyPost_ret (results_none rfl _ _ _) rfl ?_)
            exact ⟨rfl, _, _, by rw [HN.out]; exact (KH.out.setAt 0 rfl 6 (.bool true)).setAt 0 rfl 7 (.int .i64 e)⟩
      · cases z
        · go_wp2_with (first
              | (go_at_call 45; refine (BD.out _).mono ?_; rintro r X ⟨rfl, hX⟩; rw [hX]; clear hX)
              | fail)
          first
            | go_end0
            | (try simp only [Exit.inBlock, Exit.then]; refine bodyPost_ret (results_none rfl _ _ _) rfl ?_)
          exact ⟨rfl, _, _, by rw [HN.out]; exact KH.out.setAt 0 rfl 6 (.bool false)⟩
        · cases y
          · go_wp2_with (first
                | (go_at_call 45; refine (BD.out _).mono ?_; rintro r X ⟨rfl, hX⟩; rw [hX]; clear hX)
                | fail)
            first
              | go_end0
              | (try simp only [Exit.inBlock, Exit.then]; refine bodyPost_ret (results_none rfl _ _ _) rfl ?_)
            exact ⟨rfl, _, _, by rw [HN.out]; exact KH.out.setAt 0 rfl 6 (.bool false)⟩
          · go_wp2_with (first
                | (go_at_call 45; refine (BD.out _).mono ?_; rintro r X ⟨rfl, hX⟩; rw [hX]; clear hX)
                | fail)
            first
              | go_end0
              | (try simp only [Exit.inBlock, Exit.then]; refine bodyPost_ret (results_none rfl _ _ _) rfl ?_)
            exact ⟨rfl, _, _, by rw [HN.out]; exact (KH.out.setAt 0 rfl 6 (.bool false)).setAt 0 rfl 7 (.int .i64 e)⟩
  · cases z
    · go_wp2_with (first
          | (go_at_call 45; refine (BD.out _).mono ?_; rintro r X ⟨rfl, hX⟩; rw [hX]; clear hX)
          | fail)
      first
        | go_end0
        | (try simp only [Exit.inBlock, Exit.then]; refine bodyPost_ret (results_none rfl _ _ _) rfl ?_)
      exact ⟨rfl, _, _, by rw [HN.out]; exact KH.out.setAt 0 rfl 6 (.bool true)⟩
    · cases y
      · go_wp2_with (first
            | (go_at_call 45; refine (BD.out _).mono ?_; rintro r X ⟨rfl, hX⟩; rw [hX]; clear hX)
            | fail)
        first
          | go_end0
          | (try simp only [Exit.inBlock, Exit.then]; refine bodyPost_ret (results_none rfl _ _ _) rfl ?_)
        exact ⟨rfl, _, _, by rw [HN.out]; exact KH.out.setAt 0 rfl 6 (.bool true)⟩
      · go_wp2_with (first
            | (go_at_call 45; refine (BD.out _).mono ?_; rintro r X ⟨rfl, hX⟩; rw [hX]; clear hX)
            | fail)
        first
          | go_end0
          | (try simp only [Exit.inBlock, Exit.then]; refine bodyPost_ret (results_none rfl _ _ _) rfl ?_)
        exact ⟨rfl, _, _, by rw [HN.out]; exact (KH.out.setAt 0 rfl 6 (.bool true)).setAt 0 rfl 7 (.int .i64 e)⟩
set_option maxRecDepth 100000 in
set_option maxHeartbeats 6400000 in
theorem hears_10 (H : Sat w (strL sb s h v1 v2 t ++ initA w0 :: L)) (ha : Arg w0 1 encB x.A x.m x.c x.d) (hl : t.rd.length + x.m ≤ 1000000) (hk : x.k = 10) :
    Calls Tryz.prog 14 #[.pointer (some ⟨sb, 0, none⟩), .agg (tdK x).toArray] w fun r w' => r = .returned (.tuple #[]) ∧ ∃ v1' v2', Sat w' (strL sb s h v1' v2' (hearN t x) ++ initA w0 :: L) := by
  obtain ⟨ts, tk, k, th, nn, A, m, c, d, e⟩ := x
  obtain ⟨wr, rd, sh, cl, ov, e0⟩ := t
  obtain rfl : k = 10 := hk
  have HN : Keep (hearN ⟨wr, rd, sh, cl, ov, e0⟩ ⟨ts, tk, 10, th, nn, A, m, c, d, e⟩ = ⟨wr, rd, sh || e == 0, cl || e == 0, ov, e0⟩) := ⟨by simp [hearN, hearK, hearE]⟩
  clear ha hl
  cases sh
  · cases cl
    · go_enter Tryz.func14, Tryz.ntmps14
      go_wp2_with fail
      refine wp_region_noPanic ?_
      refine wpL_beg (H.alloc _ _) (fun X => True) (fun X => X.cell? ⟨sb, 4, none⟩ = some (.bool false) ∧ X.cell? ⟨sb, 5, none⟩ = some (.bool false)) 18 (by kernel_rfl) ?_ ?_
      · intro w1 H
        refine ⟨?_, ?_⟩
        · trivial
        · exact ⟨(H.bkAt 1 rfl).c 4, (H.bkAt 1 rfl).c 5⟩
      intro w1 H1 hHeld
      try clear H
      have H := H1
      clear H1
      refine wpL_looks (fun d => ([1000, 1000, 1000, 1000, 1000, 1000, 1000, 1000, 1000, 1000, 1000, 1000, 1000, 1000, 1000, 1000, 1000, 1000, 1000, 1000, 1000, 1000, 1000, 1000, 1000, 1000, 1000, 1000, 1000, 1000, 1000, 1000, 1000, 1000, 1000, 1000, 1000, 1000, 1000, 1000, 1000, 1000, 1000, 1000, 1000, 1000, 1000, 1000, 1000, 1000, 1000, 1000, 1000, 1000, 1000, 1000, 1000, 1000, 1000, 1000, 1000, 1000, 1000, 1000, 1000, 1000, 1000, 0, 1, 2, 3, 4, 5, 6, 7, 8, 9, 10, 11, 12, 13, 14, 15, 16, 17, 19, 20] : List Nat).getD d 1000) [0, 1, 2, 3, 4, 5, 6, 7, 8, 9, 10, 11, 12, 13, 14, 15, 16, 17] 4 (by kernel_rfl) (by kernel_rfl) (by kernel_rfl) (by kernel_rfl) (fun _ _ _ _ _ h => h) hHeld (fun K hK => ?_)
      iterate 5 (refine Ysp (v := ?_) rfl (by rfl) ?_ ?_; rotate_left; (focus (intro w hSw; go_simp; (try with_reducible rfl))); try simp only [Act.put, List.setIfInBounds_toArray, List.set_cons_zero, List.set_cons_succ, List.getElem_toArray, List.getElem_cons_zero, List.getElem_cons_succ])
      (refine Yst (v := ?_) rfl (by kernel_rfl) (by rfl) ?_ ?_; rotate_left; (focus (intro w hSw; go_simp; (try with_reducible rfl))); try simp only [Act.put, List.setIfInBounds_toArray, List.set_cons_zero, List.set_cons_succ, List.getElem_toArray, List.getElem_cons_zero, List.getElem_cons_succ])
      iterate 6 (refine Ysp (v := ?_) rfl (by rfl) ?_ ?_; rotate_left; (focus (intro w hSw; go_simp; (try with_reducible rfl))); try simp only [Act.put, List.setIfInBounds_toArray, List.set_cons_zero, List.set_cons_succ, List.getElem_toArray, List.getElem_cons_zero, List.getElem_cons_succ])
      (refine Yst (v := ?_) rfl (by kernel_rfl) (by rfl) ?_ ?_; rotate_left; (focus (intro w hSw; go_simp; (try with_reducible rfl))); try simp only [Act.put, List.setIfInBounds_toArray, List.set_cons_zero, List.set_cons_succ, List.getElem_toArray, List.getElem_cons_zero, List.getElem_cons_succ])
      iterate 5 (refine Ysp (v := ?_) rfl (by rfl) ?_ ?_; rotate_left; (focus (intro w hSw; go_simp; (try with_reducible rfl))); try simp only [Act.put, List.setIfInBounds_toArray, List.set_cons_zero, List.set_cons_succ, List.getElem_toArray, List.getElem_cons_zero, List.getElem_cons_succ])
      refine hK _ ?_
      clear hK K
      change wpAnyL _ _ _ _ _ _ _ _ #[true, true, true, true, true, true, true, true, true, true, true, true, true, true, true, true, true, true, false, false, false, false] _ _
      refine wpL_next (i := 18) (by kernel_rfl) rfl (fun K hK => ?_)
      try clear hHeld
      refine step_set 1 sb 4 (by rfl) _ _ _ (.bool (e == 0)) rfl H rfl rfl rfl rfl (by kernel_rfl) rfl ?_
      intro w4 H1
      clear H
      have H := H1
      clear H1
      refine hK.out _ _ ⟨?_, ?_⟩ (fun hHeld => ?_)
      · trivial
      · exact fun h => absurd h (by decide)
      clear hK K
      try simp only [Act.put, List.setIfInBounds_toArray, List.set_cons_zero, List.set_cons_succ, List.getElem_toArray, List.getElem_cons_zero, List.getElem_cons_succ]
      refine wpL_looks (fun d => ([1000, 1000, 1000, 1000, 1000, 1000, 1000, 1000, 1000, 1000, 1000, 1000, 1000, 1000, 1000, 1000, 1000, 1000, 1000, 1000, 1000, 1000, 1000, 1000, 1000, 1000, 1000, 1000, 1000, 1000, 1000, 1000, 1000, 1000, 1000, 1000, 1000, 1000, 1000, 1000, 1000, 1000, 1000, 1000, 1000, 1000, 1000, 1000, 1000, 1000, 1000, 1000, 1000, 1000, 1000, 1000, 1000, 1000, 1000, 1000, 1000, 1000, 1000, 1000, 1000, 1000, 1000, 0, 1, 2, 3, 4, 5, 6, 7, 8, 9, 10, 11, 12, 13, 14, 15, 16, 17, 19, 20] : List Nat).getD d 1000) [19, 20] 1 (by kernel_rfl) (by kernel_rfl) (by kernel_rfl) (by kernel_rfl) (fun _ _ _ _ _ h => h) hHeld (fun K hK => ?_)
      iterate 2 (refine Ysp (v := ?_) rfl (by rfl) ?_ ?_; rotate_left; (focus (intro w hSw; go_simp; (try with_reducible rfl))); try simp only [Act.put, List.setIfInBounds_toArray, List.set_cons_zero, List.set_cons_succ, List.getElem_toArray, List.getElem_cons_zero, List.getElem_cons_succ])
      refine hK _ ?_
      clear hK K
      change wpAnyL _ _ _ _ _ _ _ _ #[true, true, true, true, true, true, true, true, true, true, true, true, true, true, true, true, true, true, true, true, true, false] _ _
      refine wpL_next (i := 21) (by kernel_rfl) rfl (fun K hK => ?_)
      try clear hHeld
      refine step_set 1 sb 5 (by rfl) _ _ _ (.bool (e == 0)) rfl H rfl rfl rfl rfl (by kernel_rfl) rfl ?_
      intro w4 H1
      clear H
      have H := H1
      clear H1
      refine hK.out _ _ ⟨?_, ?_⟩ (fun hHeld => ?_)
      · trivial
      · exact fun h => absurd h (by decide)
      clear hK K
      try simp only [Act.put, List.setIfInBounds_toArray, List.set_cons_zero, List.set_cons_succ, List.getElem_toArray, List.getElem_cons_zero, List.getElem_cons_succ]
      try clear hHeld
      refine wpL_done (by kernel_rfl) ?_ _
      refine NoPanic.normal ?_
      have q2 : w4.cell? ⟨w.heap.size, 2, none⟩ = some (.int .i64 10) := (H.bkAt 0 rfl).c 2
      go_wp2_with fail
      first
        | go_end0
        | (try simp only [Exit.inBlock, Exit.then]; refine bodyPost_ret (results_none rfl _ _ _) rfl ?_)
      exact ⟨rfl, _, _, by rw [HN.out]; exact H.tl⟩
    · go_enter Tryz.func14, Tryz.ntmps14
      go_wp2_with fail
      refine wp_region_noPanic ?_
      refine wpL_beg (H.alloc _ _) (fun X => True) (fun X => X.cell? ⟨sb, 4, none⟩ = some (.bool false) ∧ X.cell? ⟨sb, 5, none⟩ = some (.bool true)) 18 (by kernel_rfl) ?_ ?_
      · intro w1 H
        refine ⟨?_, ?_⟩
        · trivial
        · exact ⟨(H.bkAt 1 rfl).c 4, (H.bkAt 1 rfl).c 5⟩
      intro w1 H1 hHeld
      try clear H
      have H := H1
      clear H1
      refine wpL_looks (fun d => ([1000, 1000, 1000, 1000, 1000, 1000, 1000, 1000, 1000, 1000, 1000, 1000, 1000, 1000, 1000, 1000, 1000, 1000, 1000, 1000, 1000, 1000, 1000, 1000, 1000, 1000, 1000, 1000, 1000, 1000, 1000, 1000, 1000, 1000, 1000, 1000, 1000, 1000, 1000, 1000, 1000, 1000, 1000, 1000, 1000, 1000, 1000, 1000, 1000, 1000, 1000, 1000, 1000, 1000, 1000, 1000, 1000, 1000, 1000, 1000, 1000, 1000, 1000, 1000, 1000, 1000, 1000, 0, 1, 2, 3, 4, 5, 6, 7, 8, 9, 10, 11, 12, 13, 14, 15, 16, 17, 19, 20] : List Nat).getD d 1000) [0, 1, 2, 3, 4, 5, 6, 7, 8, 9, 10, 11, 12, 13, 14, 15, 16, 17] 4 (by kernel_rfl) (by kernel_rfl) (by kernel_rfl) (by kernel_rfl) (fun _ _ _ _ _ h => h) hHeld (fun K hK => ?_)
      iterate 5 (refine Ysp (v := ?_) rfl (by rfl) ?_ ?_; rotate_left; (focus (intro w hSw; go_simp; (try with_reducible rfl))); try simp only [Act.put, List.setIfInBounds_toArray, List.set_cons_zero, List.set_cons_succ, List.getElem_toArray, List.getElem_cons_zero, List.getElem_cons_succ])
      (refine Yst (v := ?_) rfl (by kernel_rfl) (by rfl) ?_ ?_; rotate_left; (focus (intro w hSw; go_simp; (try with_reducible rfl))); try simp only [Act.put, List.setIfInBounds_toArray, List.set_cons_zero, List.set_cons_succ, List.getElem_toArray, List.getElem_cons_zero, List.getElem_cons_succ])
      iterate 6 (refine Ysp (v := ?_) rfl (by rfl) ?_ ?_; rotate_left; (focus (intro w hSw; go_simp; (try with_reducible rfl))); try simp only [Act.put, List.setIfInBounds_toArray, List.set_cons_zero, List.set_cons_succ, List.getElem_toArray, List.getElem_cons_zero, List.getElem_cons_succ])
      (refine Yst (v := ?_) rfl (by kernel_rfl) (by rfl) ?_ ?_; rotate_left; (focus (intro w hSw; go_simp; (try with_reducible rfl))); try simp only [Act.put, List.setIfInBounds_toArray, List.set_cons_zero, List.set_cons_succ, List.getElem_toArray, List.getElem_cons_zero, List.getElem_cons_succ])
      (refine Ysp (v := ?_) rfl (by rfl) ?_ ?_; rotate_left; (focus (intro w hSw; go_simp; (try with_reducible rfl))); try simp only [Act.put, List.setIfInBounds_toArray, List.set_cons_zero, List.set_cons_succ, List.getElem_toArray, List.getElem_cons_zero, List.getElem_cons_succ])
      (refine Ysn rfl (by rfl) ?_; try simp only [Act.put, List.setIfInBounds_toArray, List.set_cons_zero, List.set_cons_succ, List.getElem_toArray, List.getElem_cons_zero, List.getElem_cons_succ])
      iterate 3 (refine Ysp (v := ?_) rfl (by rfl) ?_ ?_; rotate_left; (focus (intro w hSw; go_simp; (try with_reducible rfl))); try simp only [Act.put, List.setIfInBounds_toArray, List.set_cons_zero, List.set_cons_succ, List.getElem_toArray, List.getElem_cons_zero, List.getElem_cons_succ])
      refine hK _ ?_
      clear hK K
      change wpAnyL _ _ _ _ _ _ _ _ #[true, true, true, true, true, true, true, true, true, true, true, true, true, true, true, true, true, true, false, false, false, false] _ _
      refine wpL_next (i := 18) (by kernel_rfl) rfl (fun K hK => ?_)
      try clear hHeld
      refine step_set 1 sb 4 (by rfl) _ _ _ (.bool (e == 0)) rfl H rfl rfl rfl rfl (by kernel_rfl) rfl ?_
      intro w4 H1
      clear H
      have H := H1
      clear H1
      refine hK.out _ _ ⟨?_, ?_⟩ (fun hHeld => ?_)
      · trivial
      · exact fun h => absurd h (by decide)
      clear hK K
      try simp only [Act.put, List.setIfInBounds_toArray, List.set_cons_zero, List.set_cons_succ, List.getElem_toArray, List.getElem_cons_zero, List.getElem_cons_succ]
      refine wpL_looks (fun d => ([1000, 1000, 1000, 1000, 1000, 1000, 1000, 1000, 1000, 1000, 1000, 1000, 1000, 1000, 1000, 1000, 1000, 1000, 1000, 1000, 1000, 1000, 1000, 1000, 1000, 1000, 1000, 1000, 1000, 1000, 1000, 1000, 1000, 1000, 1000, 1000, 1000, 1000, 1000, 1000, 1000, 1000, 1000, 1000, 1000, 1000, 1000, 1000, 1000, 1000, 1000, 1000, 1000, 1000, 1000, 1000, 1000, 1000, 1000, 1000, 1000, 1000, 1000, 1000, 1000, 1000, 1000, 0, 1, 2, 3, 4, 5, 6, 7, 8, 9, 10, 11, 12, 13, 14, 15, 16, 17, 19, 20] : List Nat).getD d 1000) [19, 20] 1 (by kernel_rfl) (by kernel_rfl) (by kernel_rfl) (by kernel_rfl) (fun _ _ _ _ _ h => h) hHeld (fun K hK => ?_)
      iterate 2 (refine Ysp (v := ?_) rfl (by rfl) ?_ ?_; rotate_left; (focus (intro w hSw; go_simp; (try with_reducible rfl))); try simp only [Act.put, List.setIfInBounds_toArray, List.set_cons_zero, List.set_cons_succ, List.getElem_toArray, List.getElem_cons_zero, List.getElem_cons_succ])
      refine hK _ ?_
      clear hK K
      change wpAnyL _ _ _ _ _ _ _ _ #[true, true, true, true, true, true, true, true, true, true, true, true, true, true, true, true, true, true, true, true, true, false] _ _
      refine wpL_next (i := 21) (by kernel_rfl) rfl (fun K hK => ?_)
      try clear hHeld
      refine step_set 1 sb 5 (by rfl) _ _ _ (.bool true) rfl H rfl rfl rfl rfl (by kernel_rfl) rfl ?_
      intro w4 H1
      clear H
      have H := H1
      clear H1
      refine hK.out _ _ ⟨?_, ?_⟩ (fun hHeld => ?_)
      · trivial
      · exact fun h => absurd h (by decide)
      clear hK K
      try simp only [Act.put, List.setIfInBounds_toArray, List.set_cons_zero, List.set_cons_succ, List.getElem_toArray, List.getElem_cons_zero, List.getElem_cons_succ]
      try clear hHeld
      refine wpL_done (by kernel_rfl) ?_ _
      refine NoPanic.normal ?_
      have q2 : w4.cell? ⟨w.heap.size, 2, none⟩ = some (.int .i64 10) := (H.bkAt 0 rfl).c 2
      go_wp2_with fail
      first
        | go_end0
        | (try simp only [Exit.inBlock, Exit.then]; refine bodyPost_ret (results_none rfl _ _ _) rfl ?_)
      exact ⟨rfl, _, _, by rw [HN.out]; exact H.tl⟩
  · cases cl
    · go_enter Tryz.func14, Tryz.ntmps14
      go_wp2_with fail
      refine wp_region_noPanic ?_
      refine wpL_beg (H.alloc _ _) (fun X => True) (fun X => X.cell? ⟨sb, 4, none⟩ = some (.bool true) ∧ X.cell? ⟨sb, 5, none⟩ = some (.bool false)) 18 (by kernel_rfl) ?_ ?_
      · intro w1 H
        refine ⟨?_, ?_⟩
        · trivial
        · exact ⟨(H.bkAt 1 rfl).c 4, (H.bkAt 1 rfl).c 5⟩
      intro w1 H1 hHeld
      try clear H
      have H := H1
      clear H1
      refine wpL_looks (fun d => ([1000, 1000, 1000, 1000, 1000, 1000, 1000, 1000, 1000, 1000, 1000, 1000, 1000, 1000, 1000, 1000, 1000, 1000, 1000, 1000, 1000, 1000, 1000, 1000, 1000, 1000, 1000, 1000, 1000, 1000, 1000, 1000, 1000, 1000, 1000, 1000, 1000, 1000, 1000, 1000, 1000, 1000, 1000, 1000, 1000, 1000, 1000, 1000, 1000, 1000, 1000, 1000, 1000, 1000, 1000, 1000, 1000, 1000, 1000, 1000, 1000, 1000, 1000, 1000, 1000, 1000, 1000, 0, 1, 2, 3, 4, 5, 6, 7, 8, 9, 10, 11, 12, 13, 14, 15, 16, 17, 19, 20] : List Nat).getD d 1000) [0, 1, 2, 3, 4, 5, 6, 7, 8, 9, 10, 11, 12, 13, 14, 15, 16, 17] 4 (by kernel_rfl) (by kernel_rfl) (by kernel_rfl) (by kernel_rfl) (fun _ _ _ _ _ h => h) hHeld (fun K hK => ?_)
      iterate 5 (refine Ysp (v := ?_) rfl (by rfl) ?_ ?_; rotate_left; (focus (intro w hSw; go_simp; (try with_reducible rfl))); try simp only [Act.put, List.setIfInBounds_toArray, List.set_cons_zero, List.set_cons_succ, List.getElem_toArray, List.getElem_cons_zero, List.getElem_cons_succ])
      (refine Yst (v := ?_) rfl (by kernel_rfl) (by rfl) ?_ ?_; rotate_left; (focus (intro w hSw; go_simp; (try with_reducible rfl))); try simp only [Act.put, List.setIfInBounds_toArray, List.set_cons_zero, List.set_cons_succ, List.getElem_toArray, List.getElem_cons_zero, List.getElem_cons_succ])
      (refine Ysp (v := ?_) rfl (by rfl) ?_ ?_; rotate_left; (focus (intro w hSw; go_simp; (try with_reducible rfl))); try simp only [Act.put, List.setIfInBounds_toArray, List.set_cons_zero, List.set_cons_succ, List.getElem_toArray, List.getElem_cons_zero, List.getElem_cons_succ])
      (refine Ysn rfl (by rfl) ?_; try simp only [Act.put, List.setIfInBounds_toArray, List.set_cons_zero, List.set_cons_succ, List.getElem_toArray, List.getElem_cons_zero, List.getElem_cons_succ])
      iterate 4 (refine Ysp (v := ?_) rfl (by rfl) ?_ ?_; rotate_left; (focus (intro w hSw; go_simp; (try with_reducible rfl))); try simp only [Act.put, List.setIfInBounds_toArray, List.set_cons_zero, List.set_cons_succ, List.getElem_toArray, List.getElem_cons_zero, List.getElem_cons_succ])
      (refine Yst (v := ?_) rfl (by kernel_rfl) (by rfl) ?_ ?_; rotate_left; (focus (intro w hSw; go_simp; (try with_reducible rfl))); try simp only [Act.put, List.setIfInBounds_toArray, List.set_cons_zero, List.set_cons_succ, List.getElem_toArray, List.getElem_cons_zero, List.getElem_cons_succ])
      iterate 5 (refine Ysp (v := ?_) rfl (by rfl) ?_ ?_; rotate_left; (focus (intro w hSw; go_simp; (try with_reducible rfl))); try simp only [Act.put, List.setIfInBounds_toArray, List.set_cons_zero, List.set_cons_succ, List.getElem_toArray, List.getElem_cons_zero, List.getElem_cons_succ])
      refine hK _ ?_
      clear hK K
      change wpAnyL _ _ _ _ _ _ _ _ #[true, true, true, true, true, true, true, true, true, true, true, true, true, true, true, true, true, true, false, false, false, false] _ _
      refine wpL_next (i := 18) (by kernel_rfl) rfl (fun K hK => ?_)
      try clear hHeld
      refine step_set 1 sb 4 (by rfl) _ _ _ (.bool true) rfl H rfl rfl rfl rfl (by kernel_rfl) rfl ?_
      intro w4 H1
      clear H
      have H := H1
      clear H1
      refine hK.out _ _ ⟨?_, ?_⟩ (fun hHeld => ?_)
      · trivial
      · exact fun h => absurd h (by decide)
      clear hK K
      try simp only [Act.put, List.setIfInBounds_toArray, List.set_cons_zero, List.set_cons_succ, List.getElem_toArray, List.getElem_cons_zero, List.getElem_cons_succ]
      refine wpL_looks (fun d => ([1000, 1000, 1000, 1000, 1000, 1000, 1000, 1000, 1000, 1000, 1000, 1000, 1000, 1000, 1000, 1000, 1000, 1000, 1000, 1000, 1000, 1000, 1000, 1000, 1000, 1000, 1000, 1000, 1000, 1000, 1000, 1000, 1000, 1000, 1000, 1000, 1000, 1000, 1000, 1000, 1000, 1000, 1000, 1000, 1000, 1000, 1000, 1000, 1000, 1000, 1000, 1000, 1000, 1000, 1000, 1000, 1000, 1000, 1000, 1000, 1000, 1000, 1000, 1000, 1000, 1000, 1000, 0, 1, 2, 3, 4, 5, 6, 7, 8, 9, 10, 11, 12, 13, 14, 15, 16, 17, 19, 20] : List Nat).getD d 1000) [19, 20] 1 (by kernel_rfl) (by kernel_rfl) (by kernel_rfl) (by kernel_rfl) (fun _ _ _ _ _ h => h) hHeld (fun K hK => ?_)
      iterate 2 (refine Ysp (v := ?_) rfl (by rfl) ?_ ?_; rotate_left; (focus (intro w hSw; go_simp; (try with_reducible rfl))); try simp only [Act.put, List.setIfInBounds_toArray, List.set_cons_zero, List.set_cons_succ, List.getElem_toArray, List.getElem_cons_zero, List.getElem_cons_succ])
      refine hK _ ?_
      clear hK K
      change wpAnyL _ _ _ _ _ _ _ _ #[true, true, true, true, true, true, true, true, true, true, true, true, true, true, true, true, true, true, true, true, true, false] _ _
      refine wpL_next (i := 21) (by kernel_rfl) rfl (fun K hK => ?_)
      try clear hHeld
      refine step_set 1 sb 5 (by rfl) _ _ _ (.bool (e == 0)) rfl H rfl rfl rfl rfl (by kernel_rfl) rfl ?_
      intro w4 H1
      clear H
      have H := H1
      clear H1
      refine hK.out _ _ ⟨?_, ?_⟩ (fun hHeld => ?_)
      · trivial
      · exact fun h => absurd h (by decide)
      clear hK K
      try simp only [Act.put, List.setIfInBounds_toArray, List.set_cons_zero, List.set_cons_succ, List.getElem_toArray, List.getElem_cons_zero, List.getElem_cons_succ]
      try clear hHeld
      refine wpL_done (by kernel_rfl) ?_ _
      refine NoPanic.normal ?_
      have q2 : w4.cell? ⟨w.heap.size, 2, none⟩ = some (.int .i64 10) := (H.bkAt 0 rfl).c 2
      go_wp2_with fail
      first
        | go_end0
        | (try simp only [Exit.inBlock, Exit.then]; refine bodyPost_ret (results_none rfl _ _ _) rfl ?_)
      exact ⟨rfl, _, _, by rw [HN.out]; exact H.tl⟩
    · go_enter Tryz.func14, Tryz.ntmps14
      go_wp2_with fail
      refine wp_region_noPanic ?_
      refine wpL_beg (H.alloc _ _) (fun X => True) (fun X => X.cell? ⟨sb, 4, none⟩ = some (.bool true) ∧ X.cell? ⟨sb, 5, none⟩ = some (.bool true)) 18 (by kernel_rfl) ?_ ?_
      · intro w1 H
        refine ⟨?_, ?_⟩
        · trivial
        · exact ⟨(H.bkAt 1 rfl).c 4, (H.bkAt 1 rfl).c 5⟩
      intro w1 H1 hHeld
      try clear H
      have H := H1
      clear H1
      refine wpL_looks (fun d => ([1000, 1000, 1000, 1000, 1000, 1000, 1000, 1000, 1000, 1000, 1000, 1000, 1000, 1000, 1000, 1000, 1000, 1000, 1000, 1000, 1000, 1000, 1000, 1000, 1000, 1000, 1000, 1000, 1000, 1000, 1000, 1000, 1000, 1000, 1000, 1000, 1000, 1000, 1000, 1000, 1000, 1000, 1000, 1000, 1000, 1000, 1000, 1000, 1000, 1000, 1000, 1000, 1000, 1000, 1000, 1000, 1000, 1000, 1000, 1000, 1000, 1000, 1000, 1000, 1000, 1000, 1000, 0, 1, 2, 3, 4, 5, 6, 7, 8, 9, 10, 11, 12, 13, 14, 15, 16, 17, 19, 20] : List Nat).getD d 1000) [0, 1, 2, 3, 4, 5, 6, 7, 8, 9, 10, 11, 12, 13, 14, 15, 16, 17] 4 (by kernel_rfl) (by kernel_rfl) (by kernel_rfl) (by kernel_rfl) (fun _ _ _ _ _ h => h) hHeld (fun K hK => ?_)
      iterate 5 (refine Ysp (v := ?_) rfl (by rfl) ?_ ?_; rotate_left; (focus (intro w hSw; go_simp; (try with_reducible rfl))); try simp only [Act.put, List.setIfInBounds_toArray, List.set_cons_zero, List.set_cons_succ, List.getElem_toArray, List.getElem_cons_zero, List.getElem_cons_succ])
      (refine Yst (v := ?_) rfl (by kernel_rfl) (by rfl) ?_ ?_; rotate_left; (focus (intro w hSw; go_simp; (try with_reducible rfl))); try simp only [Act.put, List.setIfInBounds_toArray, List.set_cons_zero, List.set_cons_succ, List.getElem_toArray, List.getElem_cons_zero, List.getElem_cons_succ])
      (refine Ysp (v := ?_) rfl (by rfl) ?_ ?_; rotate_left; (focus (intro w hSw; go_simp; (try with_reducible rfl))); try simp only [Act.put, List.setIfInBounds_toArray, List.set_cons_zero, List.set_cons_succ, List.getElem_toArray, List.getElem_cons_zero, List.getElem_cons_succ])
      (refine Ysn rfl (by rfl) ?_; try simp only [Act.put, List.setIfInBounds_toArray, List.set_cons_zero, List.set_cons_succ, List.getElem_toArray, List.getElem_cons_zero, List.getElem_cons_succ])
      iterate 4 (refine Ysp (v := ?_) rfl (by rfl) ?_ ?_; rotate_left; (focus (intro w hSw; go_simp; (try with_reducible rfl))); try simp only [Act.put, List.setIfInBounds_toArray, List.set_cons_zero, List.set_cons_succ, List.getElem_toArray, List.getElem_cons_zero, List.getElem_cons_succ])
      (refine Yst (v := ?_) rfl (by kernel_rfl) (by rfl) ?_ ?_; rotate_left; (focus (intro w hSw; go_simp; (try with_reducible rfl))); try simp only [Act.put, List.setIfInBounds_toArray, List.set_cons_zero, List.set_cons_succ, List.getElem_toArray, List.getElem_cons_zero, List.getElem_cons_succ])
      (refine Ysp (v := ?_) rfl (by rfl) ?_ ?_; rotate_left; (focus (intro w hSw; go_simp; (try with_reducible rfl))); try simp only [Act.put, List.setIfInBounds_toArray, List.set_cons_zero, List.set_cons_succ, List.getElem_toArray, List.getElem_cons_zero, List.getElem_cons_succ])
      (refine Ysn rfl (by rfl) ?_; try simp only [Act.put, List.setIfInBounds_toArray, List.set_cons_zero, List.set_cons_succ, List.getElem_toArray, List.getElem_cons_zero, List.getElem_cons_succ])
      iterate 3 (refine Ysp (v := ?_) rfl (by rfl) ?_ ?_; rotate_left; (focus (intro w hSw; go_simp; (try with_reducible rfl))); try simp only [Act.put, List.setIfInBounds_toArray, List.set_cons_zero, List.set_cons_succ, List.getElem_toArray, List.getElem_cons_zero, List.getElem_cons_succ])
      refine hK _ ?_
      clear hK K
      change wpAnyL _ _ _ _ _ _ _ _ #[true, true, true, true, true, true, true, true, true, true, true, true, true, true, true, true, true, true, false, false, false, false] _ _
      refine wpL_next (i := 18) (by kernel_rfl) rfl (fun K hK => ?_)
      try clear hHeld
      refine step_set 1 sb 4 (by rfl) _ _ _ (.bool true) rfl H rfl rfl rfl rfl (by kernel_rfl) rfl ?_
      intro w4 H1
      clear H
      have H := H1
      clear H1
      refine hK.out _ _ ⟨?_, ?_⟩ (fun hHeld => ?_)
      · trivial
      · exact fun h => absurd h (by decide)
      clear hK K
      try simp only [Act.put, List.setIfInBounds_toArray, List.set_cons_zero, List.set_cons_succ, List.getElem_toArray, List.getElem_cons_zero, List.getElem_cons_succ]
      refine wpL_looks (fun d => ([1000, 1000, 1000, 1000, 1000, 1000, 1000, 1000, 1000, 1000, 1000, 1000, 1000, 1000, 1000, 1000, 1000, 1000, 1000, 1000, 1000, 1000, 1000, 1000, 1000, 1000, 1000, 1000, 1000, 1000, 1000, 1000, 1000, 1000, 1000, 1000, 1000, 1000, 1000, 1000, 1000, 1000, 1000, 1000, 1000, 1000, 1000, 1000, 1000, 1000, 1000, 1000, 1000, 1000, 1000, 1000, 1000, 1000, 1000, 1000, 1000, 1000, 1000, 1000, 1000, 1000, 1000, 0, 1, 2, 3, 4, 5, 6, 7, 8, 9, 10, 11, 12, 13, 14, 15, 16, 17, 19, 20] : List Nat).getD d 1000) [19, 20] 1 (by kernel_rfl) (by kernel_rfl) (by kernel_rfl) (by kernel_rfl) (fun _ _ _ _ _ h => h) hHeld (fun K hK => ?_)
      iterate 2 (refine Ysp (v := ?_) rfl (by rfl) ?_ ?_; rotate_left; (focus (intro w hSw; go_simp; (try with_reducible rfl))); try simp only [Act.put, List.setIfInBounds_toArray, List.set_cons_zero, List.set_cons_succ, List.getElem_toArray, List.getElem_cons_zero, List.getElem_cons_succ])
      refine hK _ ?_
      clear hK K
      change wpAnyL _ _ _ _ _ _ _ _ #[true, true, true, true, true, true, true, true, true, true, true, true, true, true, true, true, true, true, true, true, true, false] _ _
      refine wpL_next (i := 21) (by kernel_rfl) rfl (fun K hK => ?_)
      try clear hHeld
      refine step_set 1 sb 5 (by rfl) _ _ _ (.bool true) rfl H rfl rfl rfl rfl (by kernel_rfl) rfl ?_
      intro w4 H1
      clear H
      have H := H1
      clear H1
      refine hK.out _ _ ⟨?_, ?_⟩ (fun hHeld => ?_)
      · trivial
      · exact fun h => absurd h (by decide)
      clear hK K
      try simp only [Act.put, List.setIfInBounds_toArray, List.set_cons_zero, List.set_cons_succ, List.getElem_toArray, List.getElem_cons_zero, List.getElem_cons_succ]
      try clear hHeld
      refine wpL_done (by kernel_rfl) ?_ _
      refine NoPanic.normal ?_
      have q2 : w4.cell? ⟨w.heap.size, 2, none⟩ = some (.int .i64 10) := (H.bkAt 0 rfl).c 2
      go_wp2_with fail
      first
        | go_end0
        | (try simp only [Exit.inBlock, Exit.then]; refine bodyPost_ret (results_none rfl _ _ _) rfl ?_)
      exact ⟨rfl, _, _, by rw [HN.out]; exact H.tl⟩
set_option maxRecDepth 100000 in
set_option maxHeartbeats 6400000 in
theorem hears_9 (H : Sat w (strL sb s h v1 v2 t ++ initA w0 :: L)) (ha : Arg w0 1 encB x.A x.m x.c x.d) (hl : t.rd.length + x.m ≤ 1000000) (hk : x.k = 9) :
    Calls Tryz.prog 14 #[.pointer (some ⟨sb, 0, none⟩), .agg (tdK x).toArray] w fun r w' => r = .returned (.tuple #[]) ∧ ∃ v1' v2', Sat w' (strL sb s h v1' v2' (hearN t x) ++ initA w0 :: L) := by
  obtain ⟨ts, tk, k, th, nn, A, m, c, d, e⟩ := x
  obtain ⟨wr, rd, sh, cl, ov, e0⟩ := t
  obtain rfl : k = 9 := hk
  have KH := Keep.mk (H.alloc (tdK ⟨ts, tk, 9, th, nn, A, m, c, d, e⟩).toArray 27)
  have s4 : (w.alloc (.cells (tdK ⟨ts, tk, 9, th, nn, A, m, c, d, e⟩).toArray 27)).cell? ⟨sb, 4, none⟩ = some (.bool sh) := (KH.out.bkAt 1 rfl).c 4
  have fs4 : (w.alloc (.cells (tdK ⟨ts, tk, 9, th, nn, A, m, c, d, e⟩).toArray 27)).frozen? ⟨sb, 4, none⟩ = false := (KH.out.bkAt 1 rfl).free 4
  obtain ⟨u, hu⟩ : ∃ b, (e == 0) = b := ⟨_, rfl⟩
  have HN : Keep (hearN ⟨wr, rd, sh, cl, ov, e0⟩ ⟨ts, tk, 9, th, nn, A, m, c, d, e⟩ = ⟨wr, rd, sh || u, cl, ov, e0⟩) := ⟨by simp [hearN, hearK, hearE, ← hu]⟩
  clear H ha hl
  cases sh
  · cases u
    · go_enter Tryz.func14, Tryz.ntmps14
      go_wp2_with fail
      first
        | go_end0
        | (try simp only [Exit.inBlock, Exit.then]; refine bodyPost_ret (results_none rfl _ _ _) rfl ?_)
      exact ⟨rfl, _, _, by rw [HN.out]; exact (KH.out.setAt 1 rfl 4 (.bool false)).tl⟩
    · go_enter Tryz.func14, Tryz.ntmps14
      go_wp2_with fail
      first
        | go_end0
        | (try simp only [Exit.inBlock, Exit.then]; refine bodyPost_ret (results_none rfl _ _ _) rfl ?_)
      exact ⟨rfl, _, _, by rw [HN.out]; exact (KH.out.setAt 1 rfl 4 (.bool true)).tl⟩
  · go_enter Tryz.func14, Tryz.ntmps14
    go_wp2_with fail
    first
      | go_end0
      | (try simp only [Exit.inBlock, Exit.then]; refine bodyPost_ret (results_none rfl _ _ _) rfl ?_)
    exact ⟨rfl, _, _, by rw [HN.out]; exact (KH.out.setAt 1 rfl 4 (.bool true)).tl⟩
set_option maxRecDepth 100000 in
set_option maxHeartbeats 6400000 in
theorem hears_11 (H : Sat w (strL sb s h v1 v2 t ++ initA w0 :: L)) (ha : Arg w0 1 encB x.A x.m x.c x.d) (hl : t.rd.length + x.m ≤ 1000000) (hk : x.k = 11) :
    Calls Tryz.prog 14 #[.pointer (some ⟨sb, 0, none⟩), .agg (tdK x).toArray] w fun r w' => r = .returned (.tuple #[]) ∧ ∃ v1' v2', Sat w' (strL sb s h v1' v2' (hearN t x) ++ initA w0 :: L) := by
  obtain ⟨ts, tk, k, th, nn, A, m, c, d, e⟩ := x
  obtain ⟨wr, rd, sh, cl, ov, e0⟩ := t
  obtain rfl : k = 11 := hk
  have KH := Keep.mk (H.alloc (tdK ⟨ts, tk, 11, th, nn, A, m, c, d, e⟩).toArray 27)
  have s5 : (w.alloc (.cells (tdK ⟨ts, tk, 11, th, nn, A, m, c, d, e⟩).toArray 27)).cell? ⟨sb, 5, none⟩ = some (.bool cl) := (KH.out.bkAt 1 rfl).c 5
  have fs5 : (w.alloc (.cells (tdK ⟨ts, tk, 11, th, nn, A, m, c, d, e⟩).toArray 27)).frozen? ⟨sb, 5, none⟩ = false := (KH.out.bkAt 1 rfl).free 5
  obtain ⟨u, hu⟩ : ∃ b, (e == 0) = b := ⟨_, rfl⟩
  have HN : Keep (hearN ⟨wr, rd, sh, cl, ov, e0⟩ ⟨ts, tk, 11, th, nn, A, m, c, d, e⟩ = ⟨wr, rd, sh, cl || u, ov, e0⟩) := ⟨by simp [hearN, hearK, hearE, ← hu]⟩
  clear H ha hl
  cases cl
  · cases u
    · go_enter Tryz.func14, Tryz.ntmps14
      go_wp2_with fail
      first
        | go_end0
        | (try simp only [Exit.inBlock, Exit.then]; refine bodyPost_ret (results_none rfl _ _ _) rfl ?_)
      exact ⟨rfl, _, _, by rw [HN.out]; exact (KH.out.setAt 1 rfl 5 (.bool false)).tl⟩
    · go_enter Tryz.func14, Tryz.ntmps14
      go_wp2_with fail
      first
        | go_end0
        | (try simp only [Exit.inBlock, Exit.then]; refine bodyPost_ret (results_none rfl _ _ _) rfl ?_)
      exact ⟨rfl, _, _, by rw [HN.out]; exact (KH.out.setAt 1 rfl 5 (.bool true)).tl⟩
  · go_enter Tryz.func14, Tryz.ntmps14
    go_wp2_with fail
    first
      | go_end0
      | (try simp only [Exit.inBlock, Exit.then]; refine bodyPost_ret (results_none rfl _ _ _) rfl ?_)
    exact ⟨rfl, _, _, by rw [HN.out]; exact (KH.out.setAt 1 rfl 5 (.bool true)).tl⟩
set_option maxRecDepth 100000 in
set_option maxHeartbeats 6400000 in
theorem hears_0 (H : Sat w (strL sb s h v1 v2 t ++ initA w0 :: L)) (ha : Arg w0 1 encB x.A x.m x.c x.d) (hl : t.rd.length + x.m ≤ 1000000) (hk : ¬ x.k = 7 ∧ ¬ x.k = 8 ∧ ¬ x.k = 9 ∧ ¬ x.k = 10 ∧ ¬ x.k = 11) :
    Calls Tryz.prog 14 #[.pointer (some ⟨sb, 0, none⟩), .agg (tdK x).toArray] w fun r w' => r = .returned (.tuple #[]) ∧ ∃ v1' v2', Sat w' (strL sb s h v1' v2' (hearN t x) ++ initA w0 :: L) := by
  obtain ⟨ts, tk, k, th, nn, A, m, c, d, e⟩ := x
  obtain ⟨wr, rd, sh, cl, ov, e0⟩ := t
  have k7 : (k == 7) = false := by simpa using hk.1
  have k8 : (k == 8) = false := by simpa using hk.2.1
  have k9 : (k == 9) = false := by simpa using hk.2.2.1
  have k10 : (k == 10) = false := by simpa using hk.2.2.2.1
  have k11 : (k == 11) = false := by simpa using hk.2.2.2.2
  have KH := Keep.mk (H.alloc (tdK ⟨ts, tk, k, th, nn, A, m, c, d, e⟩).toArray 27)
  obtain ⟨u, hu⟩ : ∃ b, (e == 0) = b := ⟨_, rfl⟩
  have HN : Keep (hearN ⟨wr, rd, sh, cl, ov, e0⟩ ⟨ts, tk, k, th, nn, A, m, c, d, e⟩ = ⟨wr, rd, sh, cl, ov, e0⟩) := ⟨by obtain ⟨h7, h8, h9, h10, h11⟩ := hk; simp [hearN, hearK, hearE, h7, h8, h9, h10, h11]⟩
  clear H ha hl hk
  go_enter Tryz.func14, Tryz.ntmps14
  go_wp2_with fail
  first
    | go_end0
    | (try simp only [Exit.inBlock, Exit.then]; refine bodyPost_ret (results_none rfl _ _ _) rfl ?_)
  exact ⟨rfl, _, _, by rw [HN.out]; exact KH.out.tl⟩
-- end gen
end
end Go.Proofs.YtjpokeakemlffaaGreatDoor
/-
  A log's streams: hears of any call; the plain step; a round of audit.Streams.
-/
namespace Go.Proofs.YtjpokeakemlffaaGreatDoor
open Go.RowKit Go.Maps
section
variable {w w0 : World} {sb : Nat} {s h : Int} {v1 v2 : Value} {t : StS} {x : Td} {L : List HA}
theorem hears_any (H : Sat w (strL sb s h v1 v2 t ++ initA w0 :: L)) (ha : Arg w0 1 encB x.A x.m x.c x.d) (hl : t.wr.length + x.m ≤ 1000000) (hr : t.rd.length + x.m ≤ 1000000) :
    Calls Tryz.prog 14 #[.pointer (some ⟨sb, 0, none⟩), .agg (tdK x).toArray] w fun r w' => r = .returned (.tuple #[]) ∧ ∃ v1' v2', Sat w' (strL sb s h v1' v2' (hearN t x) ++ initA w0 :: L) := by
  by_cases h7 : x.k = 7
  · exact hears_7 H ha hl h7
  by_cases h8 : x.k = 8
  · exact hears_8 H ha hr h8
  by_cases h9 : x.k = 9
  · exact hears_9 H ha hr h9
  by_cases h10 : x.k = 10
  · exact hears_10 H ha hr h10
  by_cases h11 : x.k = 11
  · exact hears_11 H ha hr h11
  · exact hears_0 H ha hr ⟨h7, h8, h9, h10, h11⟩
end
structure It where
  b : Nat
  s : Int
  h : Int
  v1 : Value
  v2 : Value
  t : StS
def itemA (z : It) : HA := star (blkA z.b (strK z.s z.h z.v1 z.v2 z.t) 31) (star (rowA 5 1 z.v1 z.t.wr.length (z.t.wr.flatMap encB)) (rowA 5 1 z.v2 z.t.rd.length (z.t.rd.flatMap encB)))
abbrev It.nm (z : It) : Int × Int := (z.s, z.h)
def noSt : StS := ⟨[], [], false, false, false, 0⟩
def isBeg (x : Td) : Prop := (x.k = 5 ∨ x.k = 6) ∧ x.e = 0
instance (x : Td) : Decidable (isBeg x) := inferInstanceAs (Decidable ((x.k = 5 ∨ x.k = 6) ∧ x.e = 0))
abbrev Td.nm (x : Td) : Int × Int := (x.s, x.h)
def stepL (m : List ((Int × Int) × StS)) (x : Td) : List ((Int × Int) × StS) :=
  (if isBeg x ∧ ∀ p ∈ m, p.1 ≠ x.nm then m ++ [(x.nm, noSt)] else m).map fun p => if p.1 = x.nm then (p.1, hearN p.2 x) else p
def plainI (l : List It) : List ((Int × Int) × StS) := l.map fun z => (z.nm, z.t)
def mapB : List ((Int × Int) × Nat) → Int → Int → Option Nat
  | [], _, _ => none
  | p :: l, s, h => if s = p.1.1 ∧ h = p.1.2 then some p.2 else mapB l s h
def placeI (l : List It) : List ((Int × Int) × Nat) := l.map fun z => (z.nm, z.b)
theorem mapB_snoc : ∀ {l : List ((Int × Int) × Nat)} {s h : Int} {b : Nat}, (∀ p ∈ l, p.1 ≠ (s, h)) → mapB (l ++ [((s, h), b)]) = setN (mapB l) s h b
  | [], s, h, b, _ => by funext x y; simp [mapB, setN]
  | p :: l, s, h, b, H => by
    have ih := mapB_snoc (l := l) (s := s) (h := h) (b := b) fun q hq => H q (by simp [hq])
    have hp := H p (by simp)
    funext x y
    rw [List.cons_append, mapB, ih]
    unfold setN
    by_cases e : x = p.1.1 ∧ y = p.1.2
    · rw [if_pos e, if_neg (fun e2 => hp (Prod.ext (e.1.symm.trans e2.1) (e.2.symm.trans e2.2))), mapB, if_pos e]
    · rw [if_neg e, mapB, if_neg e]
theorem mapB_mem : ∀ {l : List ((Int × Int) × Nat)} {s h : Int} {b : Nat}, mapB l s h = some b → ((s, h), b) ∈ l
  | [], _, _, _, H => by cases H
  | p :: l, s, h, b, H => by
    rw [mapB] at H
    split at H
    · rename_i e
      cases H
      have : p = ((s, h), p.2) := by obtain ⟨⟨a, c⟩, d⟩ := p; simp at e; simp [e.1, e.2]
      rw [← this]; simp
    · exact List.mem_cons_of_mem _ (mapB_mem H)
theorem mapB_at {l1 l2 : List ((Int × Int) × Nat)} {s h : Int} {b : Nat} (H : ∀ p ∈ l1, p.1 ≠ (s, h)) : mapB (l1 ++ ((s, h), b) :: l2) s h = some b := by
  induction l1 with
  | nil => simp [mapB]
  | cons p l ih =>
    rw [List.cons_append, mapB, if_neg (fun e => H p (by simp) (Prod.ext e.1.symm e.2.symm))]
    exact ih fun q hq => H q (by simp [hq])
theorem split_nm {l : List It} {n : Int × Int} (hd : (l.map It.nm).Nodup) (hx : ∃ z ∈ l, z.nm = n) : ∃ l1 z l2, l = l1 ++ z :: l2 ∧ z.nm = n ∧ (∀ y ∈ l1, y.nm ≠ n) ∧ ∀ y ∈ l2, y.nm ≠ n := by
  obtain ⟨z, hz, hn⟩ := hx
  obtain ⟨l1, l2, rfl⟩ := List.append_of_mem hz
  refine ⟨l1, z, l2, rfl, hn, fun y hy e => ?_, fun y hy e => ?_⟩
  · rw [List.map_append, List.nodup_append] at hd
    exact hd.2.2 _ (List.mem_map_of_mem hy) _ (by simp) (e.trans hn.symm)
  · rw [List.map_append, List.nodup_append, List.map_cons, List.nodup_cons] at hd
    exact hd.2.1.1 (by rw [hn, ← e]; exact List.mem_map_of_mem hy)
theorem step_old {l1 l2 : List It} {z : It} {x : Td} {v1 v2 : Value} (hz : z.nm = x.nm) (h1 : ∀ y ∈ l1, y.nm ≠ x.nm) (h2 : ∀ y ∈ l2, y.nm ≠ x.nm) :
    plainI (l1 ++ { z with v1 := v1, v2 := v2, t := hearN z.t x } :: l2) = stepL (plainI (l1 ++ z :: l2)) x := by
  unfold stepL plainI
  rw [if_neg]
  · simp only [List.map_append, List.map_cons, List.map_map]
    congr 1
    · exact List.map_congr_left fun y hy => by simp [h1 y hy]
    · congr 1
      · simp [hz]
      · exact List.map_congr_left fun y hy => by simp [h2 y hy]
  · intro H
    exact H.2 (z.nm, z.t) (by simp) hz
theorem step_no {l : List It} {x : Td} (hn : ¬ isBeg x) (h : ∀ y ∈ l, y.nm ≠ x.nm) : stepL (plainI l) x = plainI l := by
  unfold stepL plainI
  rw [if_neg (fun H => hn H.1), List.map_map]
  exact List.map_congr_left fun y hy => by simp [h y hy]
theorem step_new {l : List It} {z : It} {x : Td} (hb : isBeg x) (h : ∀ y ∈ l, y.nm ≠ x.nm) (hz : z.nm = x.nm) (ht : z.t = hearN noSt x) : plainI (l ++ [z]) = stepL (plainI l) x := by
  unfold stepL plainI
  rw [if_pos ⟨hb, fun p hp => by obtain ⟨y, hy, rfl⟩ := List.mem_map.1 hp; exact h y hy⟩]
  simp only [List.map_append, List.map_map, List.map_cons, List.map_nil]
  congr 1
  · exact List.map_congr_left fun y hy => by simp [h y hy]
  · simp [hz, ht]
theorem hear_len (t : StS) (x : Td) : (hearN t x).wr.length ≤ t.wr.length + x.d.length ∧ (hearN t x).rd.length ≤ t.rd.length + x.d.length := by
  unfold hearN hearK
  split
  · simp
  · split
    · simp
    · split
      · simp
      · split
        · simp
        · split <;> simp
end Go.Proofs.YtjpokeakemlffaaGreatDoor
/-
  audit.Streams of any log.
-/
namespace Go.Proofs.YtjpokeakemlffaaGreatDoor
open Go.RowKit Go.Maps
theorem same_nm (s h s' h' : Int) : (nmL s h).sameKey (nmL s' h') = true ↔ nmL s h = nmL s' h' := by
  unfold nmL
  simp [Lit.sameKey]
theorem sortN_lt (l : List (Int × Int)) (hd : l.Nodup) : (sortN l).Pairwise (fun x y => ltN x y = true) := by
  have h1 : (sortN l).Pairwise (fun x y => (!ltN y x) = true) := List.pairwise_mergeSort (fun a b c h1 h2 => by rw [ltN_eq] at *; simp at *; omega) (fun a b => by rw [ltN_eq, ltN_eq]; simp; omega) l
  have h2 : (sortN l).Nodup := (sortN_perm l).nodup_iff.2 hd
  refine (List.Pairwise.and h1 h2).imp fun {a b} h => ?_
  have h3 := h.1
  have h4 : a ≠ b := h.2
  rw [ltN_eq] at h3 ⊢
  simp at h3 ⊢
  have : ¬ (a.1 = b.1 ∧ a.2 = b.2) := fun e => h4 (Prod.ext e.1 e.2)
  omega
theorem len_sub {α : Type} : ∀ {a b : List α}, a.Nodup → (∀ x ∈ a, x ∈ b) → a.length ≤ b.length
  | [], _, _, _ => Nat.zero_le _
  | x :: a, b, hd, hs => by
    obtain ⟨b1, b2, rfl⟩ := List.append_of_mem (hs x (by simp))
    rw [List.nodup_cons] at hd
    have := len_sub (b := b1 ++ b2) hd.2 fun y hy => by
      rcases List.mem_append.1 (hs y (List.mem_cons_of_mem _ hy)) with h | h
      · exact List.mem_append_left _ h
      · rcases List.mem_cons.1 h with h | h
        · subst h; exact absurd hy hd.1
        · exact List.mem_append_right _ h
    simp at this ⊢
    omega
theorem ranges_same {H : Type} {P : Program} {w w' : World} {k : TypeId} {R : Value → Option (DataW H × List MemPlace)} {b r n : Nat} {D : DataW H} {left : Lit → Bool} {cnt : Nat} (h : w.ranges P k R b r n D left cnt) (hb : w'.heap[b]? = w.heap[b]?) (hr : w'.heap[r]? = w.heap[r]?) : w'.ranges P k R b r n D left cnt := by
  obtain ⟨es, clock, since, seen, c0, h1, F, hs, hD, h2, rest⟩ := h
  exact ⟨es, clock, since, seen, c0, hb.trans h1, F, hs, hD, hr.trans h2, rest⟩
def svA : Value → Option Addr | .slice a _ _ => a | _ => none
def svN : Value → Nat | .slice _ n _ => n | _ => 0
def svC : Value → Nat | .slice _ _ c => c | _ => 0
def stR (z : It) : StR := ⟨svA z.v1, svN z.v1, svC z.v1, svA z.v2, svN z.v2, svC z.v2, z.t.sh, z.t.cl, z.t.ov, z.t.e⟩
def fOf (l : List It) (n : Int × Int) : StR := match l.find? fun z => z.nm == n with | some z => stR z | none => noR (0, 0)
theorem fOf_at {l1 l2 : List It} {z : It} (h : ∀ y ∈ l1, y.nm ≠ z.nm) : fOf (l1 ++ z :: l2) z.nm = stR z := by
  unfold fOf
  rw [List.find?_append, List.find?_eq_none.2 (fun y hy => by simpa using h y hy)]
  simp
theorem Sat.strC {w : World} {L : List HA} {z : It} (H : Sat w (strL z.b z.s z.h z.v1 z.v2 z.t ++ L)) : strK z.s z.h z.v1 z.v2 z.t = (strC z.s z.h (stR z)).toArray := by
  obtain ⟨A, c, h1, -⟩ := (H.to 1 rfl).sl
  obtain ⟨B, d, h2, -⟩ := (H.to 2 rfl).sl
  unfold stR
  rw [h1, h2]
  rfl
def logN (l : List Td) : List ((Int × Int) × StS) := l.foldl stepL []
theorem mapB_inv : ∀ {l : List ((Int × Int) × Nat)} {s h : Int}, mapB l s h = none → ∀ p ∈ l, p.1 ≠ (s, h)
  | [], _, _, _, p, hp => by simp at hp
  | q :: l, s, h, H, p, hp => by
    rw [mapB] at H
    split at H
    · cases H
    · rename_i hn
      rcases List.mem_cons.1 hp with rfl | hp
      · intro e; exact hn ⟨by rw [e], by rw [e]⟩
      · exact mapB_inv H p hp
theorem log_take {l : List Td} {j : Nat} {x : Td} (hx : l[j]? = some x) : logN (l.take (j + 1)) = stepL (logN (l.take j)) x := by
  rw [List.take_add_one, hx]
  simp [logN, List.foldl_append]
theorem tdK_length (x : Td) : (tdK x).length = 7 := rfl
structure StI (w0 wr : World) (L : List HA) (mp : Nat) (l : List Td) (j : Nat) (items : List It) (o : Obj) : Prop where
  sat : Sat wr (ptA mp o :: each itemA items :: initA w0 :: L)
  ms : Ms wr mp items.length (mapB (placeI items)) items.length
  pl : plainI items = logN (l.take j)
  nd : (items.map It.nm).Nodup
  len : ∀ z ∈ items, z.t.wr.length ≤ 100 * j ∧ z.t.rd.length ≤ 100 * j
  wf : ∀ z ∈ items, wfI z.s ∧ wfI z.h
  cnt : items.length ≤ j
theorem Sat.item {w : World} {L : List HA} {z : It} (H : Sat w (itemA z :: L)) : Sat w (strL z.b z.s z.h z.v1 z.v2 z.t ++ L) := ((H.sep.to 1 rfl).sep.to 2 rfl)
theorem Sat.itemI {w : World} {L : List HA} (z : It) (H : Sat w (strL z.b z.s z.h z.v1 z.v2 z.t ++ L)) : Sat w (itemA z :: L) := ((Sat.sepI (H.back 2)).back 1).sepI
theorem Sat.pick {w w0 : World} {L : List HA} {l1 l2 : List It} {z : It} (H : Sat w (each itemA (l1 ++ z :: l2) :: initA w0 :: L)) : Sat w (strL z.b z.s z.h z.v1 z.v2 z.t ++ initA w0 :: each itemA (l1 ++ l2) :: L) := by
  have H1 : Sat w (itemA z :: each itemA (l1 ++ l2) :: initA w0 :: L) := (H.eachPerm List.perm_middle).eachCons
  have H2 : Sat w (each itemA (l1 ++ l2) :: itemA z :: initA w0 :: L) := H1.to 1 rfl
  exact Sat.item (H2.back 2)
theorem Sat.unpick {w w0 : World} {L : List HA} {l1 l2 : List It} (z : It) (H : Sat w (strL z.b z.s z.h z.v1 z.v2 z.t ++ initA w0 :: each itemA (l1 ++ l2) :: L)) : Sat w (each itemA (l1 ++ z :: l2) :: initA w0 :: L) := by
  have H1 : Sat w (itemA z :: initA w0 :: each itemA (l1 ++ l2) :: L) := Sat.itemI z H
  have H2 : Sat w (itemA z :: each itemA (l1 ++ l2) :: initA w0 :: L) := ((H1.to 2 rfl).back 1)
  exact H2.eachConsI.eachPerm List.perm_middle.symm
theorem place_new {l : List It} {n : Int × Int} (h : ∀ y ∈ l, y.nm ≠ n) : ∀ p ∈ placeI l, p.1 ≠ n := fun p hp => by
  obtain ⟨y, hy, rfl⟩ := List.mem_map.1 hp
  exact h y hy
set_option maxRecDepth 100000 in
set_option maxHeartbeats 12800000 in
theorem streams_any {w w0 : World} {L : List HA} {A : Option Addr} {n c : Nat} {l : List Td} (H : Sat w (initA w0 :: L)) (ha : Arg w0 7 tdK A n c l) (hd : ∀ x ∈ l, Arg w0 1 encB x.A x.m x.c x.d) (hw : ∀ x ∈ l, wfI x.s ∧ wfI x.h) (hn : n ≤ 60) (hm : ∀ x ∈ l, x.m ≤ 100) :
    Calls Tryz.prog 5 #[.slice A n c] w fun e w' => ∃ (items : List It) (ts : List (Int × Int)) (A2 : Option Addr) (c2 : Nat), e = .returned (.slice A2 ts.length c2) ∧
      Sat w' (rowA 31 8 (.slice A2 ts.length c2) ts.length (ts.flatMap (encS (fOf items))) :: each itemA items :: initA w0 :: L) ∧ plainI items = logN l ∧ (items.map It.nm).Nodup ∧ ts.Perm (items.map It.nm) ∧ ts.Pairwise (fun x y => ltN x y = true) ∧ items.length ≤ 60 := by
  have hmk : (Instr.makeMap 52 none).run Tryz.prog w = .ok (.map (some w.heap.size)) (w.alloc (.map #[] 0)) := rfl
  obtain ⟨W0, hW0⟩ : ∃ W0, w.alloc (.map #[] 0) = W0 := ⟨_, rfl⟩
  have S0 : Keep (StI w0 W0 L w.heap.size l 0 [] (.map #[] 0)) := ⟨⟨hW0 ▸ ((Sat.eachNil (f := itemA) H).allocO (.map #[] 0)), hW0 ▸ Ms.made w, rfl, by simp, by simp, by simp, by simp⟩⟩
  have HA := Keep.mk ha
  have HD := Keep.mk (And.intro hd (And.intro hw hm))
  have HN : Keep (n ≤ 60 ∧ l.length = n) := ⟨hn, ha.hlen⟩
  clear ha hd hw hm hn H
  go_enter Tryz.func5, Tryz.ntmps5
  go_wp2_with fail
  try rw [hW0]
  clear hmk hW0
  go_loopw [14] (fun i wr => ∃ (j : Nat) (items : List It) (o : Obj), i = .int .i64 j ∧ j ≤ n ∧ Keep (StI w0 wr L w.heap.size l j items o)) (fun i _ => n - (intOf i).toNat)
  case atStart => exact ⟨0, [], _, rfl, Nat.zero_le _, S0⟩
  case round =>
    obtain ⟨j, items, o, rfl, hj, HQ⟩ := hrel
    clear S0
    rcases Nat.lt_or_ge j n with hlt | hge
    · obtain ⟨x, hx⟩ : ∃ x, l[j]? = some x := ⟨l[j]'(by have := HN.out.2; omega), List.getElem?_eq_getElem _⟩
      have hxm := List.mem_of_getElem? hx
      obtain ⟨g, off, rfl, hg, hcs⟩ := HA.out.rd (by intro e; rw [e] at hx; simp at hx)
      have HB := (HQ.out.sat.to 2 rfl).initB
      have cc : ∀ (k : Nat) (u : Value), (tdK x)[k]? = some u → wr.cell? ⟨g, off + j * 7 + k, none⟩ = some u := fun k u hu => (HB.cell (p := ⟨g, off + j * 7 + k, none⟩) hg).trans (hcs j x hx k u hu)
      have c0 : wr.cell? ⟨g, off + j * 7, none⟩ = some (.int .i64 x.s) := cc 0 _ rfl
      have c1 : wr.cell? ⟨g, off + j * 7 + 1, none⟩ = some (.int .i64 x.tk) := cc 1 _ rfl
      have c2 : wr.cell? ⟨g, off + j * 7 + 2, none⟩ = some (.int .i64 x.k) := cc 2 _ rfl
      have c3 : wr.cell? ⟨g, off + j * 7 + 3, none⟩ = some (.int .i64 x.h) := cc 3 _ rfl
      have c4 : wr.cell? ⟨g, off + j * 7 + 4, none⟩ = some (.int .i64 x.n) := cc 4 _ rfl
      have c5 : wr.cell? ⟨g, off + j * 7 + 5, none⟩ = some (.slice x.A x.m x.c) := cc 5 _ rfl
      have c6 : wr.cell? ⟨g, off + j * 7 + 6, none⟩ = some (.int .i64 x.e) := cc 6 _ rfl
      have z1 : (wr.alloc (.cells (tdK x).toArray 27)).heap.size = wr.heap.size + 1 := by simp
      have H1 := HQ.out.sat.alloc (tdK x).toArray 27
      have t0 : (wr.alloc (.cells (tdK x).toArray 27)).cell? ⟨wr.heap.size, 0, none⟩ = some (.int .i64 x.s) := (H1.bkAt 0 rfl).c 0
      have t3 : (wr.alloc (.cells (tdK x).toArray 27)).cell? ⟨wr.heap.size, 3, none⟩ = some (.int .i64 x.h) := (H1.bkAt 0 rfl).c 3
      obtain ⟨W2, hW2⟩ : ∃ W2, (wr.alloc (.cells (tdK x).toArray 27)).alloc (.cells #[.int .i64 x.s, .int .i64 x.h] 54) = W2 := ⟨_, rfl⟩
      have H2 : Sat W2 (blkA (wr.heap.size + 1) #[.int .i64 x.s, .int .i64 x.h] 54 :: blkA wr.heap.size (tdK x).toArray 27 :: ptA w.heap.size o :: each itemA items :: initA w0 :: L) := by rw [← hW2, ← z1]; exact H1.alloc _ _
      have u0 : W2.cell? ⟨wr.heap.size, 0, none⟩ = some (.int .i64 x.s) := (H2.bkAt 1 rfl).c 0
      have u1 : W2.cell? ⟨wr.heap.size, 1, none⟩ = some (.int .i64 x.tk) := (H2.bkAt 1 rfl).c 1
      have u2 : W2.cell? ⟨wr.heap.size, 2, none⟩ = some (.int .i64 x.k) := (H2.bkAt 1 rfl).c 2
      have u3 : W2.cell? ⟨wr.heap.size, 3, none⟩ = some (.int .i64 x.h) := (H2.bkAt 1 rfl).c 3
      have u4 : W2.cell? ⟨wr.heap.size, 4, none⟩ = some (.int .i64 x.n) := (H2.bkAt 1 rfl).c 4
      have u5 : W2.cell? ⟨wr.heap.size, 5, none⟩ = some (.slice x.A x.m x.c) := (H2.bkAt 1 rfl).c 5
      have u6 : W2.cell? ⟨wr.heap.size, 6, none⟩ = some (.int .i64 x.e) := (H2.bkAt 1 rfl).c 6
      have n0 : W2.cell? ⟨wr.heap.size + 1, 0, none⟩ = some (.int .i64 x.s) := (H2.bkAt 0 rfl).c 0
      have n1 : W2.cell? ⟨wr.heap.size + 1, 1, none⟩ = some (.int .i64 x.h) := (H2.bkAt 0 rfl).c 1
      have M2 := HQ.out.ms.same (w' := W2) ((H2.to 2 rfl).pt.trans HQ.out.sat.pt.symm)
      have H2' : Sat W2 (ptA w.heap.size o :: each itemA items :: initA w0 :: L) := H2.tl.tl
      obtain ⟨hwf1, hwf2⟩ := HD.out.2.1 x hxm
      have hn60 : n ≤ 60 := HN.out.1
      have HLD : Keep (x.d.length = x.m ∧ x.m ≤ 100 ∧ Arg w0 1 encB x.A x.m x.c x.d) := ⟨(HD.out.1 x hxm).hlen, HD.out.2.2 x hxm, HD.out.1 x hxm⟩
      have HWF : Keep (wfI x.s ∧ wfI x.h) := ⟨hwf1, hwf2⟩
      have LK0 := M2.look1 hwf1 hwf2
      have K2 := Keep.mk H2'
      have KM := Keep.mk M2
      have HX := Keep.mk hx
      have HXM := Keep.mk hxm
      have HLT := Keep.mk hlt
      obtain ⟨b5, h5⟩ : ∃ b, (x.k == 5) = b := ⟨_, rfl⟩
      obtain ⟨b6, h6⟩ : ∃ b, (x.k == 6) = b := ⟨_, rfl⟩
      obtain ⟨bz, hz⟩ : ∃ b, (x.e == 0) = b := ⟨_, rfl⟩
      have HBG : Keep (isBeg x ↔ (b5 = true ∨ b6 = true) ∧ bz = true) := ⟨by rw [← h5, ← h6, ← hz]; simp [isBeg]⟩
      cases hM : mapB (placeI items) x.s x.h with
      | none =>
        have HNN : Keep (∀ y ∈ items, y.nm ≠ x.nm) := ⟨fun y hy => mapB_inv hM (y.nm, y.b) (List.mem_map_of_mem (f := fun z : It => (z.nm, z.b)) hy)⟩
        have LK : (Instr.lookup 52 (.map (some w.heap.size)) (.agg #[.int .i64 x.s, .int .i64 x.h]) false).run Tryz.prog W2 = .ok (.pointer none) W2 := by rw [hM] at LK0; exact LK0
        have HNO : Keep (¬ isBeg x → StI w0 W2 L w.heap.size l (j + 1) items o) := ⟨fun hb => ⟨K2.out, KM.out, by rw [log_take HX.out, ← HQ.out.pl]; exact (step_no hb HNN.out).symm, HQ.out.nd, fun z hz => ⟨by have := (HQ.out.len z hz).1; omega, by have := (HQ.out.len z hz).2; omega⟩, HQ.out.wf, by have := HQ.out.cnt; omega⟩⟩
        have KK2 := Keep.mk H2
        have HMN := Keep.mk hM
        have KLI : Keep (items.length ≤ 60) := ⟨by have := HQ.out.cnt; omega⟩
        clear LK0 M2 H2 H2' hM cc HB hcs hg hx hxm hwf1 hwf2 H1 z1
        by_cases hbeg : isBeg x
        · have hcase : (b5 = true ∧ bz = true) ∨ (b5 = false ∧ b6 = true ∧ bz = true) := by
            have := HBG.out.1 hbeg
            cases b5 <;> cases b6 <;> cases bz <;> simp at this ⊢
          obtain ⟨W3, hW3⟩ : ∃ W3, W2.alloc (.cells #[.int .i64 x.s, .int .i64 x.h, .slice none 0 0, .slice none 0 0, .bool false, .bool false, .bool false, .int .i64 0] 31) = W3 := ⟨_, rfl⟩
          have H3 : Sat W3 (blkA W2.heap.size #[.int .i64 x.s, .int .i64 x.h, .slice none 0 0, .slice none 0 0, .bool false, .bool false, .bool false, .int .i64 0] 31 :: blkA (wr.heap.size + 1) #[.int .i64 x.s, .int .i64 x.h] 54 :: blkA wr.heap.size (tdK x).toArray 27 :: ptA w.heap.size o :: each itemA items :: initA w0 :: L) := hW3 ▸ (KK2.out.alloc _ _)
          have M3 := KM.out.same (w' := W3) ((H3.to 3 rfl).pt.trans K2.out.pt.symm)
          obtain ⟨W4, hput0, M4, ht4⟩ := M3.put (by unfold maxLen; have := KLI.out; omega) W2.heap.size HWF.out.1 HWF.out.2
          have hput : (Instr.mapUpdate 52 (.map (some w.heap.size)) (.agg #[.int .i64 x.s, .int .i64 x.h]) (.pointer (some ⟨W2.heap.size, 0, none⟩))).run Tryz.prog W3 = .ok () W4 := hput0
          obtain ⟨o4, ho4⟩ : ∃ o4, W4.heap[w.heap.size]? = some o4 := ⟨_, Array.getElem?_eq_getElem M4.lt⟩
          have H4 : Sat W4 (blkA W2.heap.size #[.int .i64 x.s, .int .i64 x.h, .slice none 0 0, .slice none 0 0, .bool false, .bool false, .bool false, .int .i64 0] 31 :: blkA (wr.heap.size + 1) #[.int .i64 x.s, .int .i64 x.h] 54 :: blkA wr.heap.size (tdK x).toArray 27 :: ptA w.heap.size o4 :: each itemA items :: initA w0 :: L) := ((H3.to 3 rfl).ptTo (Fz.grown ht4.grown) ho4).back 3
          have v0 : W4.cell? ⟨wr.heap.size, 0, none⟩ = some (.int .i64 x.s) := (H4.bkAt 2 rfl).c 0
          have v1 : W4.cell? ⟨wr.heap.size, 1, none⟩ = some (.int .i64 x.tk) := (H4.bkAt 2 rfl).c 1
          have v2 : W4.cell? ⟨wr.heap.size, 2, none⟩ = some (.int .i64 x.k) := (H4.bkAt 2 rfl).c 2
          have v3 : W4.cell? ⟨wr.heap.size, 3, none⟩ = some (.int .i64 x.h) := (H4.bkAt 2 rfl).c 3
          have v4 : W4.cell? ⟨wr.heap.size, 4, none⟩ = some (.int .i64 x.n) := (H4.bkAt 2 rfl).c 4
          have v5 : W4.cell? ⟨wr.heap.size, 5, none⟩ = some (.slice x.A x.m x.c) := (H4.bkAt 2 rfl).c 5
          have v6 : W4.cell? ⟨wr.heap.size, 6, none⟩ = some (.int .i64 x.e) := (H4.bkAt 2 rfl).c 6
          have m0 : W4.cell? ⟨wr.heap.size + 1, 0, none⟩ = some (.int .i64 x.s) := (H4.bkAt 1 rfl).c 0
          have m1 : W4.cell? ⟨wr.heap.size + 1, 1, none⟩ = some (.int .i64 x.h) := (H4.bkAt 1 rfl).c 1
          rw [HMN.out, if_neg (by simp)] at M4
          rw [← mapB_snoc (place_new HNN.out)] at M4
          have LK4 : (Instr.lookup 52 (.map (some w.heap.size)) (.agg #[.int .i64 x.s, .int .i64 x.h]) false).run Tryz.prog W4 = .ok (.pointer (some ⟨W2.heap.size, 0, none⟩)) W4 := by
            have := M4.look1 HWF.out.1 HWF.out.2
            rw [mapB_at (l2 := []) (place_new HNN.out)] at this
            exact this
          have H5 : Sat W4 (ptA w.heap.size o4 :: each itemA (items ++ []) :: initA w0 :: blkA W2.heap.size (strK x.s x.h (.slice none 0 0) (.slice none 0 0) noSt) 31 :: L) := by rw [List.append_nil]; exact (((H4.rm 1 rfl).rm 1 rfl).back 3)
          have H6 : Sat W4 (strL W2.heap.size x.s x.h (.slice none 0 0) (.slice none 0 0) noSt ++ initA w0 :: each itemA (items ++ []) :: ptA w.heap.size o4 :: L) := by
            have q1 : Sat W4 (rowA 5 1 (.slice none 0 0) 0 [] :: rowA 5 1 (.slice none 0 0) 0 [] :: ptA w.heap.size o4 :: each itemA (items ++ []) :: initA w0 :: blkA W2.heap.size (strK x.s x.h (.slice none 0 0) (.slice none 0 0) noSt) 31 :: L) := (H5.nil _ _).nil _ _
            have q2 : Sat W4 (blkA W2.heap.size (strK x.s x.h (.slice none 0 0) (.slice none 0 0) noSt) 31 :: rowA 5 1 (.slice none 0 0) 0 [] :: rowA 5 1 (.slice none 0 0) 0 [] :: ptA w.heap.size o4 :: each itemA (items ++ []) :: initA w0 :: L) := q1.to 5 rfl
            have q3 : Sat W4 (ptA w.heap.size o4 :: blkA W2.heap.size (strK x.s x.h (.slice none 0 0) (.slice none 0 0) noSt) 31 :: rowA 5 1 (.slice none 0 0) 0 [] :: rowA 5 1 (.slice none 0 0) 0 [] :: each itemA (items ++ []) :: initA w0 :: L) := q2.to 3 rfl
            have q4 : Sat W4 (blkA W2.heap.size (strK x.s x.h (.slice none 0 0) (.slice none 0 0) noSt) 31 :: rowA 5 1 (.slice none 0 0) 0 [] :: rowA 5 1 (.slice none 0 0) 0 [] :: each itemA (items ++ []) :: initA w0 :: ptA w.heap.size o4 :: L) := q3.back 5
            exact ((q4.to 4 rfl).back 3)
          have HR := Keep.mk (hears_any (x := x) H6 HLD.out.2.2 (by show 0 + x.m ≤ _; have := HLD.out.2.1; omega) (by show 0 + x.m ≤ _; have := HLD.out.2.1; omega))
          have KO4 := Keep.mk (And.intro M4 ho4)
          have HBB := Keep.mk hbeg
          clear H3 M3 hput0 M4 ht4 ho4 H4 H5 H6 hbeg
          rcases hcase with ⟨rfl, rfl⟩ | ⟨rfl, rfl, rfl⟩
          all_goals
            go_wp2_with (first
              | (go_at_call 14
                 refine Calls.mono HR.out ?_
                 rintro e w5 ⟨rfl, v1', v2', h5⟩
                 have K5 := Keep.mk (Sat.unpick ⟨W2.heap.size, x.s, x.h, v1', v2', hearN noSt x⟩ h5)
                 clear h5 HR)
              | fail)
            go_roundw
            case rel =>
              refine ⟨j + 1, items ++ [It.mk W2.heap.size x.s x.h v1' v2' (hearN noSt x)], o4, by go_num, HLT.out, ⟨⟨K5.out.to 2 rfl, ?_, ?_, ?_, ?_, ?_, by have := HQ.out.cnt; simp at this ⊢; omega⟩⟩⟩
              · rw [List.length_append]
                show Ms _ _ _ (mapB (placeI (items ++ [_]))) _
                rw [show placeI (items ++ [⟨W2.heap.size, x.s, x.h, v1', v2', hearN noSt x⟩]) = placeI items ++ [((x.s, x.h), W2.heap.size)] by simp [placeI]]
                exact KO4.out.1.same ((K5.out.to 2 rfl).pt.trans KO4.out.2.symm)
              · rw [log_take HX.out, ← HQ.out.pl]
                exact step_new HBB.out HNN.out rfl rfl
              · rw [List.map_append, List.nodup_append]
                exact ⟨HQ.out.nd, by simp, fun a ha b hb e => by simp at hb; obtain ⟨y, hy, rfl⟩ := List.mem_map.1 ha; exact HNN.out y hy (e.trans hb)⟩
              · intro z hz
                rcases List.mem_append.1 hz with hz | hz
                · have := HQ.out.len z hz; omega
                · obtain rfl := List.mem_singleton.1 hz
                  have := hear_len noSt x
                  have e1 : noSt.wr.length = 0 := rfl
                  have e2 : noSt.rd.length = 0 := rfl
                  have := HLD.out
                  show (hearN noSt x).wr.length ≤ _ ∧ (hearN noSt x).rd.length ≤ _
                  omega
              · intro z hz
                rcases List.mem_append.1 hz with hz | hz
                · exact HQ.out.wf z hz
                · obtain rfl := List.mem_singleton.1 hz
                  exact HWF.out
            case measure => simp [intOf] <;> omega
        · have hcase : (b5 = true ∧ bz = false) ∨ (b5 = false ∧ b6 = true ∧ bz = false) ∨ (b5 = false ∧ b6 = false) := by
            have := mt HBG.out.2 hbeg
            cases b5 <;> cases b6 <;> cases bz <;> simp at this ⊢
          have HNB := Keep.mk hbeg
          clear hbeg
          rcases hcase with ⟨rfl, rfl⟩ | ⟨rfl, rfl, rfl⟩ | ⟨rfl, rfl⟩
          all_goals
            go_wp2_with fail
            go_roundw
            case rel => exact ⟨j + 1, items, o, by go_num, HLT.out, ⟨HNO.out HNB.out⟩⟩
            case measure => simp [intOf] <;> omega
      | some b =>
        obtain ⟨z, hz0, hzb⟩ : ∃ z ∈ items, (z.nm, z.b) = ((x.s, x.h), b) := List.mem_map.1 (mapB_mem hM)
        have hzn : z.nm = x.nm := congrArg Prod.fst hzb
        have hzb2 : z.b = b := congrArg Prod.snd hzb
        obtain ⟨l1, z, l2, rfl, hzn, hl1, hl2⟩ := split_nm HQ.out.nd ⟨z, hz0, hzn⟩
        have hbb : z.b = b := by
          have := hM
          rw [show placeI (l1 ++ z :: l2) = placeI l1 ++ ((x.s, x.h), z.b) :: placeI l2 by unfold placeI; rw [List.map_append, List.map_cons, hzn], mapB_at (place_new hl1)] at this
          exact Option.some.inj this
        subst hbb
        have LK : (Instr.lookup 52 (.map (some w.heap.size)) (.agg #[.int .i64 x.s, .int .i64 x.h]) false).run Tryz.prog W2 = .ok (.pointer (some ⟨z.b, 0, none⟩)) W2 := by rw [hM] at LK0; exact LK0
        have hlz := HQ.out.len z (by simp)
        have H6 := Sat.pick (H2'.back 2)
        have HR := Keep.mk (hears_any (x := x) H6 HLD.out.2.2 (by have := HLD.out.2.1; omega) (by have := HLD.out.2.1; omega))
        have HO : Keep (W2.heap[w.heap.size]? = some o) := ⟨K2.out.pt⟩
        have HZ := Keep.mk (And.intro hzn (And.intro hl1 (And.intro hl2 hlz)))
        have hcase : (b5 = true ∧ bz = true) ∨ (b5 = true ∧ bz = false) ∨ (b5 = false ∧ b6 = true ∧ bz = true) ∨ (b5 = false ∧ b6 = true ∧ bz = false) ∨ (b5 = false ∧ b6 = false) := by
          cases b5 <;> cases b6 <;> cases bz <;> simp
        clear LK0 M2 H2 H2' hM cc HB hcs hg hx hxm hwf1 hwf2 H1 z1 H6 hzn hl1 hl2 hlz hz0 hzb hzb2
        rcases hcase with ⟨rfl, rfl⟩ | ⟨rfl, rfl⟩ | ⟨rfl, rfl, rfl⟩ | ⟨rfl, rfl, rfl⟩ | ⟨rfl, rfl⟩
        all_goals
          go_wp2_with (first
            | (go_at_call 14
               refine Calls.mono HR.out ?_
               rintro e w5 ⟨rfl, v1', v2', h5⟩
               have K5 := Keep.mk (Sat.unpick (It.mk z.b z.s z.h v1' v2' (hearN z.t x)) h5)
               clear h5 HR)
            | fail)
          go_roundw
          case rel =>
            refine ⟨j + 1, l1 ++ It.mk z.b z.s z.h v1' v2' (hearN z.t x) :: l2, o, by go_num, HLT.out, ⟨⟨K5.out.to 2 rfl, ?_, ?_, ?_, ?_, ?_, by have := HQ.out.cnt; simp at this ⊢; omega⟩⟩⟩
            · rw [show (l1 ++ It.mk z.b z.s z.h v1' v2' (hearN z.t x) :: l2).length = (l1 ++ z :: l2).length by simp, show placeI (l1 ++ It.mk z.b z.s z.h v1' v2' (hearN z.t x) :: l2) = placeI (l1 ++ z :: l2) by simp [placeI]]
              exact KM.out.same ((K5.out.to 2 rfl).pt.trans HO.out.symm)
            · rw [log_take HX.out, ← HQ.out.pl]
              exact step_old (z := z) HZ.out.1 HZ.out.2.1 HZ.out.2.2.1
            · have := HQ.out.nd
              simpa using this
            · intro y hy
              rcases List.mem_append.1 hy with hy | hy
              · have := HQ.out.len y (by simp [hy]); omega
              · rcases List.mem_cons.1 hy with rfl | hy
                · have := hear_len z.t x
                  have := HLD.out
                  have := HZ.out.2.2.2
                  show (hearN z.t x).wr.length ≤ _ ∧ (hearN z.t x).rd.length ≤ _
                  omega
                · have := HQ.out.len y (by simp [hy]); omega
            · intro y hy
              rcases List.mem_append.1 hy with hy | hy
              · exact HQ.out.wf y (by simp [hy])
              · rcases List.mem_cons.1 hy with rfl | hy
                · exact HQ.out.wf z (by simp)
                · exact HQ.out.wf y (by simp [hy])
          case measure => simp [intOf] <;> omega
    · obtain rfl : j = n := by omega
      obtain ⟨D, hown, r1, r2, r3, r4⟩ := HQ.out.ms
      have R1 := Lib.hid r1
      have R2 := Lib.hid r2
      have R3 := Lib.hid r3
      have R4 := Keep.mk r4
      have HPL : Keep (plainI items = logN l) := ⟨by rw [HQ.out.pl, List.take_of_length_le (by rw [HN.out.2]; exact Nat.le_refl _)]⟩
      have KLI : Keep (items.length ≤ 60) := ⟨by have := HQ.out.cnt; have := HN.out; omega⟩
      have KWO : Keep (w.heap.size < wr.heap.size) := ⟨HQ.out.ms.lt⟩
      clear r1 r2 r3 r4 HA HD
      obtain ⟨wo, hwo⟩ : ∃ wo : World, wo = wr := ⟨_, rfl⟩
      subst hwo
      go_wp2_with (first
        | (at_range; refine wpList_range_own _ rfl _ 52 rfl 54 55 nmKeyed Tryz.underlying52 ptR w.heap.size items.length _ rfl hown ?_; intro wq hrg0 hg0 hs0)
        | fail)
      try go_frame
      obtain ⟨oi, hoi⟩ : ∃ o, wq.heap[wo.heap.size]? = some o := ⟨_, Array.getElem?_eq_getElem (by omega)⟩
      have H0 : Sat wq (ptA wo.heap.size oi :: ptA w.heap.size o :: each itemA items :: initA w0 :: L) := HQ.out.sat.new (Fz.grown hg0) (by show partH _ _ _ _ = _; unfold partH; rw [if_pos (by simp)]; exact hoi)
      have HR0 : Keep (wq.ranges Tryz.prog 54 ptR w.heap.size wo.heap.size items.length D (Maps.has D) items.length ∧ Sat wq (rowA 31 8 (.slice none 0 0) 0 [] :: ptA wo.heap.size oi :: ptA w.heap.size o :: each itemA items :: initA w0 :: L)) := ⟨⟨R4.out ▸ hrg0, H0.nil _ _⟩⟩
      have HND := Keep.mk HQ.out.nd
      have HWF := Keep.mk HQ.out.wf
      clear hrg0 hg0 hs0 hown H0 hoi HQ
      go_loopw [8] (fun out wr => ∃ (left : Lit → Bool) (cnt : Nat) (ts : List (Int × Int)) (A2 : Option Addr) (c2 : Nat) (oi : Obj), out = .slice A2 ts.length c2 ∧ Keep (wr.ranges Tryz.prog 54 ptR w.heap.size wo.heap.size items.length D left cnt) ∧
          Keep (Sat wr (rowA 31 8 (.slice A2 ts.length c2) ts.length (ts.flatMap (encS (fOf items))) :: ptA wo.heap.size oi :: ptA w.heap.size o :: each itemA items :: initA w0 :: L)) ∧
          Keep (ts.Nodup ∧ (∀ n ∈ ts, n ∈ items.map It.nm ∧ left (nmL n.1 n.2) = false) ∧ (∀ n ∈ items.map It.nm, n ∈ ts ∨ left (nmL n.1 n.2) = true) ∧ ∀ kl, left kl = true → Maps.has D kl = true))
        (fun _ wr => wr.rangeLeft w.heap.size wo.heap.size)
      case atStart =>
        refine ⟨_, _, [], none, 0, oi, rfl, ⟨HR0.out.1⟩, ⟨HR0.out.2⟩, ⟨by simp, by simp, fun n hn => .inr ?_, fun _ h => h⟩⟩
        obtain ⟨z, hz, rfl⟩ := List.mem_map.1 hn
        rw [R1.out z.s z.h (HWF.out z hz).1 (HWF.out z hz).2]
        cases hM : mapB (placeI items) z.s z.h with
        | none => exact absurd rfl (mapB_inv hM (z.nm, z.b) (List.mem_map_of_mem (f := fun z : It => (z.nm, z.b)) hz))
        | some b => rfl
      case round =>
        clear HR0
        obtain ⟨left, cnt, ts, A2, c2, oi, rfl, HRG, HS, HT⟩ := hrel
        have hrg := HRG.out
        go_wp2_with (first
          | (at_next; refine wpList_next_ranges _ rfl _ rfl 54 nmKeyed ptR id id (fun key _ _ => ⟨key, rfl⟩) (fun v _ _ => ⟨v, rfl⟩) w.heap.size wo.heap.size items.length _ _ _ rfl hrg ?_ ?_)
          | fail)
        · intro hc0 hlf
          have hperm : ts.Perm (items.map It.nm) := by
            refine (List.perm_ext_iff_of_nodup HT.out.1 HND.out).2 fun n => ⟨fun hn => (HT.out.2.1 n hn).1, fun hn => (HT.out.2.2.1 n hn).elim id fun h => ?_⟩
            rw [hlf] at h; cases h
          have hlen : ts.length ≤ 1000000 := by rw [hperm.length_eq, List.length_map]; have := KLI.out; omega
          have HSR := Keep.mk (sort_str (fOf items) 0 A2 c2 ts wr HS.out.own hlen)
          have HP := Keep.mk hperm
          clear hrg hc0 hlf hperm hlen
          go_wp2_with (first
            | (go_at_call 15
               refine HSR.out.mono ?_
               rintro e w2 ⟨rfl, ho2, hg2⟩
               have H2 := HS.out.grow ho2 hg2 (.inl rfl)
               have K2 := Keep.mk (((H2.rm 1 rfl).rm 1 rfl))
               clear ho2 hg2 H2)
            | fail)
          go_ret
          refine ⟨items, sortN ts, A2, c2, by rw [(sortN_perm ts).length_eq]; rfl, ?_, HPL.out, HND.out, (sortN_perm ts).trans HP.out, sortN_lt ts HT.out.1, KLI.out⟩
          rw [(sortN_perm ts).length_eq]
          exact K2.out
        · intro key val kl yd yp w1 cnt1 hkey hlx hv hat hrg1 hlt hg1 hs1 hen
          obtain ⟨s, y, ws, wy, rfl⟩ := R3.out kl (HT.out.2.2.2 kl hlx)
          have hM := R1.out s y ws wy
          rw [HT.out.2.2.2 _ hlx] at hM
          obtain ⟨b, hb⟩ := Option.isSome_iff_exists.1 hM.symm
          obtain rfl : key = nmV s y := nmKeyed.inj hkey (nm_key ws wy)
          have hae := R2.out s y b ws wy hb .nil
          rw [hat] at hae
          subst hae
          obtain rfl : val = ptV b := ptR_inv hv
          obtain ⟨z, hz0, hzb⟩ : ∃ z ∈ items, (z.nm, z.b) = ((s, y), b) := List.mem_map.1 (mapB_mem hb)
          have e1 : z.nm = (s, y) := congrArg Prod.fst hzb
          obtain ⟨oi1, hoi1⟩ : ∃ o, w1.heap[wo.heap.size]? = some o := ⟨_, Array.getElem?_eq_getElem (by rw [hs1]; exact hrg.lt)⟩
          have H1 := ((HS.out.to 1 rfl).ptTo (Fz.grown hg1) hoi1).back 1
          obtain ⟨l1, z', l2, hsp, hzn, hl1, hl2⟩ := split_nm HND.out ⟨z, hz0, rfl⟩
          have hzz : z' = z := by
            have hm2 : z ∈ l1 ++ z' :: l2 := hsp ▸ hz0
            rcases List.mem_append.1 hm2 with h | h
            · exact absurd rfl (hl1 z h)
            · rcases List.mem_cons.1 h with h | h
              · exact h.symm
              · exact absurd rfl (hl2 z h)
          subst hzz
          obtain rfl : z'.s = s := congrArg Prod.fst e1
          obtain rfl : z'.h = y := congrArg Prod.snd e1
          obtain rfl : z'.b = b := congrArg Prod.snd hzb
          have H2 : Sat w1 (each itemA (l1 ++ z' :: l2) :: initA w0 :: rowA 31 8 (.slice A2 ts.length c2) ts.length (ts.flatMap (encS (fOf items))) :: ptA wo.heap.size oi1 :: ptA w.heap.size o :: L) := by rw [← hsp]; exact ((H1.to 4 rfl).to 4 rfl)
          have H3 := H2.pick
          have hbk := H3.bk
          rw [H3.strC] at hbk
          have q0 : w1.cell? ⟨z'.b, 0, none⟩ = some (.int .i64 z'.s) := hbk.c 0
          have q1 : w1.cell? ⟨z'.b, 1, none⟩ = some (.int .i64 z'.h) := hbk.c 1
          have q2 : w1.cell? ⟨z'.b, 2, none⟩ = some (.slice (svA z'.v1) (svN z'.v1) (svC z'.v1)) := hbk.c 2
          have q3 : w1.cell? ⟨z'.b, 3, none⟩ = some (.slice (svA z'.v2) (svN z'.v2) (svC z'.v2)) := hbk.c 3
          have q4 : w1.cell? ⟨z'.b, 4, none⟩ = some (.bool z'.t.sh) := hbk.c 4
          have q5 : w1.cell? ⟨z'.b, 5, none⟩ = some (.bool z'.t.cl) := hbk.c 5
          have q6 : w1.cell? ⟨z'.b, 6, none⟩ = some (.bool z'.t.ov) := hbk.c 6
          have q7 : w1.cell? ⟨z'.b, 7, none⟩ = some (.int .i64 z'.t.e) := hbk.c 7
          have hen2 : (Instr.entry (.pointer (some ⟨wo.heap.size, 0, none⟩))).run Tryz.prog w1 = .ok (.tuple #[.agg #[.int .i64 z'.s, .int .i64 z'.h], .pointer (some ⟨z'.b, 0, none⟩)]) w1 := hen
          have HLC := Keep.mk hlt
          have K1 := Keep.mk H1
          have HRG1 := Keep.mk hrg1
          have HOI := Keep.mk hoi1
          have hzi : z'.nm ∈ items.map It.nm := List.mem_map_of_mem hz0
          have HTN : Keep (ts.length < 1000000) := ⟨by
            have h1 : ts.length ≤ (items.map It.nm).length := by
              exact len_sub HT.out.1 fun n hn => (HT.out.2.1 n hn).1
            rw [List.length_map] at h1; have := KLI.out; omega⟩
          have hf : fOf items z'.nm = stR z' := by rw [hsp]; exact fOf_at hl1
          have HF := Keep.mk hf
          have HT2 : Keep ((ts ++ [z'.nm]).Nodup ∧ (∀ n ∈ ts ++ [z'.nm], n ∈ items.map It.nm ∧ (left (nmL n.1 n.2) && !(nmL n.1 n.2).sameKey (nmL z'.s z'.h)) = false) ∧ (∀ n ∈ items.map It.nm, n ∈ ts ++ [z'.nm] ∨ (left (nmL n.1 n.2) && !(nmL n.1 n.2).sameKey (nmL z'.s z'.h)) = true) ∧ ∀ kl, (left kl && !kl.sameKey (nmL z'.s z'.h)) = true → Maps.has D kl = true) := ⟨by
            have hsk := (same_nm z'.s z'.h z'.s z'.h).2 rfl
            refine ⟨?_, fun n hn => ?_, fun n hn => ?_, fun kl hk => ?_⟩
            · rw [List.nodup_append]
              refine ⟨HT.out.1, by simp, fun a ha c hc e => ?_⟩
              obtain rfl := List.mem_singleton.1 hc
              have := (HT.out.2.1 a ha).2
              rw [e] at this
              exact absurd (hlx.symm.trans this) (by decide)
            · rcases List.mem_append.1 hn with h | h
              · exact ⟨(HT.out.2.1 n h).1, by rw [(HT.out.2.1 n h).2]; rfl⟩
              · obtain rfl := List.mem_singleton.1 h
                exact ⟨hzi, by rw [hsk]; simp⟩
            · rcases HT.out.2.2.1 n hn with h | h
              · exact .inl (List.mem_append_left _ h)
              · by_cases e : n = z'.nm
                · exact .inl (by rw [e]; simp)
                · refine .inr ?_
                  rw [h]
                  have : (nmL n.1 n.2).sameKey (nmL z'.s z'.h) = false := by
                    cases hs : (nmL n.1 n.2).sameKey (nmL z'.s z'.h) with
                    | false => rfl
                    | true =>
                      obtain ⟨y, hy, rfl⟩ := List.mem_map.1 hn
                      have := nm_inj (HWF.out y hy).1 (HWF.out y hy).2 ws wy ((same_nm _ _ _ _).1 hs)
                      exact absurd (Prod.ext this.1 this.2) e
                  rw [this]; rfl
            · simp only [Bool.and_eq_true] at hk
              exact HT.out.2.2.2 kl hk.1⟩
          clear hkey hlx hv hat hrg1 hlt hg1 hs1 hen hM hb ws wy hrg H2 H3 hbk hoi1 hz0 hzb e1 hsp hzn hl1 hl2 hzi hf H1
          go_wp2_with (first
            | (refine wpList_push rfl (.tmp 65) (.tmp 69) 28 rfl Tryz.underlying28 infoStr rfl (by omega) (by omega) ((K1.out.alloc _ _).to 1 rfl) rfl rfl rfl (by simp [Value.oneCell']) HTN.out ?_
               intro A3 c3 w4 h4
               have K4 := Keep.mk h4
               clear h4)
            | fail)
          go_roundw
          case rel =>
            refine ⟨_, cnt1, ts ++ [z'.nm], A3, c3, oi1, by rw [List.length_append]; rfl, ⟨ranges_same HRG1.out ((K4.out.to 2 rfl).pt.trans (K1.out.to 2 rfl).pt.symm) ((K4.out.to 1 rfl).pt.trans HOI.out.symm)⟩, ⟨?_⟩, HT2⟩
            rw [List.length_append, List.flatMap_append]
            have := K4.out
            simp only [List.flatMap_cons, List.flatMap_nil, List.append_nil, encS, HF.out]
            exact this
          case measure =>
            rw [(ranges_same HRG1.out ((K4.out.to 2 rfl).pt.trans (K1.out.to 2 rfl).pt.symm) ((K4.out.to 1 rfl).pt.trans HOI.out.symm)).left_eq, HRG.out.left_eq]
            exact HLC.out
end Go.Proofs.YtjpokeakemlffaaGreatDoor
