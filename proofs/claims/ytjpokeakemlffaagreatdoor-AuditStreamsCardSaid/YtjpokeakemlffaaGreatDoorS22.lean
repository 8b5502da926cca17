/-
  Walks and laws, one behind the other (part 22).
-/
import Derived.Test.YtjpokeakemlffaaGreatDoorS8
import Derived.Test.YtjpokeakemlffaaGreatDoorS14
import Derived.Test.YtjpokeakemlffaaGreatDoorS21
set_option linter.unusedSimpArgs false
set_option linter.unusedVariables false
/-
  Right segments; what a connection is made of: paths, sender, receiver.
-/
namespace Go.Proofs.YtjpokeakemlffaaGreatDoor
open Go.RowKit
set_option maxRecDepth 100000 in
theorem in_yes (x m : Int) (w : World) (h0 : 0 ≤ x) (h1 : x ≤ m) : Calls Tryz.prog 142 #[.int .i64 x, .int .i64 m] w fun e w' => e = .returned (.bool true) ∧ w' = w := by
  have d0 : decide (0 ≤ x) = true := decide_eq_true h0
  have d1 : decide (x ≤ m) = true := decide_eq_true h1
  go_enter Tryz.func142, Tryz.ntmps142
  go_wp2_with fail
  go_ret
  exact ⟨by first | rfl | simp [h0, h1], rfl⟩
set_option maxRecDepth 100000 in
theorem index_none (v : Value) (w : World) : Calls Tryz.prog 214 #[.slice none 0 0, v] w fun e w' => e = .returned (.int .i64 (-1)) ∧ w' = w := by
  go_enter Tryz.func214, Tryz.ntmps214
  go_wp2_with fail
  go_loopw [8] (fun i wr => i = .int .i64 0 ∧ wr = w) (fun _ _ => 0)
  case atStart => exact ⟨rfl, rfl⟩
  case round =>
    obtain ⟨rfl, rfl⟩ := hrel
    go_wp2_with fail
    go_ret
    exact ⟨rfl, rfl⟩
set_option maxRecDepth 100000 in
theorem contains_none (v : Value) (w : World) : Calls Tryz.prog 143 #[.slice none 0 0, v] w fun e w' => e = .returned (.bool false) ∧ w' = w := by
  go_enter Tryz.func143, Tryz.ntmps143
  go_wp2_with (first
    | (go_at_call 214
       go_loud (refine (index_none _ _).mono ?_; rintro e X ⟨rfl, hX⟩)
       rw [hX]
       clear hX)
    | fail)
  go_ret
  exact ⟨by first | rfl | simp, rfl⟩
abbrev bareS (src dst sp dp seq ack : Int) (syn acks fin rst : Bool) (win : Int) : Array Value :=
  #[.int .i64 src, .int .i64 dst, .int .i64 sp, .int .i64 dp, .int .u32 seq, .int .u32 ack, .bool syn, .bool acks, .bool fin, .bool rst, .int .i64 win, .slice none 0 0, .slice none 0 0]
set_option maxRecDepth 100000 in
set_option maxHeartbeats 1600000 in
theorem right_yes (src dst sp dp seq ack : Int) (syn acks fin rst : Bool) (win : Int) (w : World) (a1 : 0 ≤ src) (a2 : src ≤ 3) (b1 : 0 ≤ dst) (b2 : dst ≤ 3) (c1 : 0 ≤ sp) (c2 : sp ≤ 65535) (d1 : 0 ≤ dp) (d2 : dp ≤ 65535) (e1 : 0 ≤ win) (e2 : win ≤ 65535) :
    Calls Tryz.prog 90 #[.agg (bareS src dst sp dp seq ack syn acks fin rst win)] w fun e w' => e = .returned (.bool true) ∧ Below w.heap.size w w' := by
  have IA : Keep (∀ W, Calls Tryz.prog 142 #[.int .i64 src, .int .i64 3] W fun e w' => e = .returned (.bool true) ∧ w' = W) := ⟨fun W => in_yes src 3 W a1 a2⟩
  have IB : Keep (∀ W, Calls Tryz.prog 142 #[.int .i64 dst, .int .i64 3] W fun e w' => e = .returned (.bool true) ∧ w' = W) := ⟨fun W => in_yes dst 3 W b1 b2⟩
  have IC : Keep (∀ W, Calls Tryz.prog 142 #[.int .i64 sp, .int .i64 65535] W fun e w' => e = .returned (.bool true) ∧ w' = W) := ⟨fun W => in_yes sp 65535 W c1 c2⟩
  have ID : Keep (∀ W, Calls Tryz.prog 142 #[.int .i64 dp, .int .i64 65535] W fun e w' => e = .returned (.bool true) ∧ w' = W) := ⟨fun W => in_yes dp 65535 W d1 d2⟩
  have IE : Keep (∀ W, Calls Tryz.prog 142 #[.int .i64 win, .int .i64 65535] W fun e w' => e = .returned (.bool true) ∧ w' = W) := ⟨fun W => in_yes win 65535 W e1 e2⟩
  have HB : Keep (Below w.heap.size w (w.alloc (.cells (bareS src dst sp dp seq ack syn acks fin rst win) 132))) := ⟨(Below.refl _ w).alloc (Nat.le_refl _) _⟩
  clear a1 a2 b1 b2 c1 c2 d1 d2 e1 e2
  go_enter Tryz.func90, Tryz.ntmps90
  go_wp2_with (first
    | (go_at_call_of 142 (Value.int .i64 src)
       go_loud (refine (IA.out _).mono ?_; rintro e X ⟨rfl, hX⟩)
       rw [hX]
       clear hX)
    | (go_at_call_of 142 (Value.int .i64 dst)
       go_loud (refine (IB.out _).mono ?_; rintro e X ⟨rfl, hX⟩)
       rw [hX]
       clear hX)
    | (go_at_call_of 142 (Value.int .i64 sp)
       go_loud (refine (IC.out _).mono ?_; rintro e X ⟨rfl, hX⟩)
       rw [hX]
       clear hX)
    | (go_at_call_of 142 (Value.int .i64 dp)
       go_loud (refine (ID.out _).mono ?_; rintro e X ⟨rfl, hX⟩)
       rw [hX]
       clear hX)
    | (go_at_call_of 142 (Value.int .i64 win)
       go_loud (refine (IE.out _).mono ?_; rintro e X ⟨rfl, hX⟩)
       rw [hX]
       clear hX)
    | (go_at_call 143
       go_loud (refine (contains_none _ _).mono ?_; rintro e X ⟨rfl, hX⟩)
       rw [hX]
       clear hX)
    | fail)
  go_ret
  exact ⟨by first | rfl | simp, HB.out⟩
set_option maxRecDepth 100000 in
set_option maxHeartbeats 1600000 in
theorem snew_any (w : World) : Calls Tryz.prog 277 #[.slice none 0 0] w fun e w' => e = .returned (.pointer (some ⟨w.heap.size, 0, none⟩)) ∧ w' = w.alloc (.cells #[.slice none 0 0] 389) := by
  go_enter Tryz.func277, Tryz.ntmps277
  go_wp2_with fail
  go_loopw [10] (fun i wr => i = .int .i64 0 ∧ wr = w.alloc (.cells #[.slice none 0 0] 389)) (fun _ _ => 0)
  case atStart => exact ⟨rfl, rfl⟩
  case round =>
    obtain ⟨rfl, rfl⟩ := hrel
    go_wp2_with fail
    go_ret
    exact ⟨rfl, rfl⟩
set_option maxRecDepth 100000 in
theorem dsnew_any (w : World) : Calls Tryz.prog 218 #[] w fun e w' => e = .returned (.pointer (some ⟨w.heap.size + 1, 0, none⟩)) ∧ w' = (w.alloc (.cells #[.slice none 0 0] 389)).alloc (.cells #[.pointer (some ⟨w.heap.size, 0, none⟩), .int .i64 1, .int .i64 1, .int .i64 33, .slice none 0 0, .bool false, .bool false] 291) := by
  go_enter Tryz.func218, Tryz.ntmps218
  go_wp2_with (first
    | (go_at_call 277
       go_loud (refine (snew_any _).mono ?_; rintro e X ⟨rfl, hX⟩)
       rw [hX]
       clear hX)
    | fail)
  go_ret
  exact ⟨rfl, rfl⟩
set_option maxRecDepth 100000 in
theorem drnew_any (w : World) : Calls Tryz.prog 219 #[] w fun e w' => e = .returned (.pointer (some ⟨w.heap.size + 2, 0, none⟩)) ∧ w' = ((w.alloc (.map #[] 0)).alloc (.cells #[.slice none 0 0] 389)).alloc (.cells #[.int .i64 1, .slice none 0 0, .map (some w.heap.size), .pointer (some ⟨w.heap.size + 1, 0, none⟩), .int .i64 0] 294) := by
  have hmk : (Instr.makeMap 292 none).run Tryz.prog w = .ok (.map (some w.heap.size)) (w.alloc (.map #[] 0)) := rfl
  have SN := snew_any (w.alloc (.map #[] 0))
  rw [show (w.alloc (.map #[] 0)).heap.size = w.heap.size + 1 by simp] at SN
  have SN := Keep.mk SN
  go_enter Tryz.func219, Tryz.ntmps219
  go_wp2_with (first
    | (go_at_call 277
       go_loud (refine SN.out.mono ?_; rintro e X ⟨rfl, hX⟩)
       rw [hX]
       clear hX)
    | fail)
  go_ret
  exact ⟨rfl, rfl⟩
end Go.Proofs.YtjpokeakemlffaaGreatDoor
/-
  The paths; a connection's beginning.
-/
namespace Go.Proofs.YtjpokeakemlffaaGreatDoor
open Go.RowKit
set_option maxRecDepth 100000 in
theorem may_two (g : Nat) (w : World) (h : Bk w g #[.int .i64 0, .int .i64 1] 3) : Calls Tryz.prog 229 #[.slice (some ⟨g, 0, none⟩) 2 2] w fun e w' => e = .returned (.bool true) ∧ w' = w := by
  have HB := Keep.mk h
  clear h
  go_enter Tryz.func229, Tryz.ntmps229
  go_wp2_with fail
  go_loopw [7] (fun i wr => ∃ j : Nat, j ≤ 2 ∧ i = .int .i64 j ∧ wr = w) (fun i _ => 2 - (intOf i).toNat)
  case atStart => exact ⟨0, by omega, rfl, rfl⟩
  case round =>
    obtain ⟨j, hj, rfl, rfl⟩ := hrel
    have d0 : wr.cell? ⟨g, 0, none⟩ = some (.int .i64 0) := HB.out.c 0
    have d1 : wr.cell? ⟨g, 1, none⟩ = some (.int .i64 1) := HB.out.c 1
    rcases (by omega : j = 0 ∨ j = 1 ∨ j = 2) with rfl | rfl | rfl
    · go_wp2_with fail
      go_roundw
      case rel => exact ⟨1, by omega, rfl, by first | rfl | trivial⟩
      case measure => simp [intOf]
    · go_wp2_with fail
      go_roundw
      case rel => exact ⟨2, by omega, rfl, by first | rfl | trivial⟩
      case measure => simp [intOf]
    · go_wp2_with fail
      go_ret
      exact ⟨rfl, rfl⟩
abbrev pathC : Array Value := #[.bool true, .bool false, .bool false, .bool false, .bool false, .bool true, .bool false, .bool false, .bool false, .bool true, .bool false, .bool false, .bool false, .bool false, .bool false, .bool false, .bool false, .bool false, .bool false, .bool false, .bool false, .bool false, .bool false, .bool false, .int .i64 8]
set_option maxRecDepth 100000 in
set_option maxHeartbeats 1600000 in
theorem pnew_01 (w : World) : Calls Tryz.prog 217 #[.int .i64 0, .int .i64 1, .int .i64 8] w fun e w' => e = .returned (.tuple #[.pointer (some ⟨w.heap.size + 1, 0, none⟩), .int .i64 0]) ∧ Bk w' (w.heap.size + 1) pathC 302 ∧ Below w.heap.size w w' := by
  have MT := Keep.mk (may_two w.heap.size _ (Bk.new w #[.int .i64 0, .int .i64 1] 3))
  have hm : min (max (8 : Int) 1) 8 = 8 := by decide
  go_enter Tryz.func217, Tryz.ntmps217
  go_upto_region 4 with (first
    | (go_at_call 229
       go_loud (refine MT.out.mono ?_; rintro e X ⟨rfl, hX⟩)
       rw [hX]
       clear hX)
    | fail)
  -- reg pnew
  refine wp_region_noPanic ?_
  refine wp_region_held_drew (S := fun X => True) (by kernel_rfl) trivial (fun hHeld => ?_)
  refine wpAnyH_take (i := 0) (v := ?_) rfl (by kernel_rfl) (by kernel_rfl) (by kernel_rfl) (fun _ _ _ h => h) (Or.inl ⟨by rfl, ?_⟩) trivial ?_
  rotate_left
  · intro w hSw; go_simp; (try with_reducible rfl)
  try simp only [Act.put, List.setIfInBounds_toArray, List.set_cons_zero, List.set_cons_succ, List.getElem_toArray, List.getElem_cons_zero, List.getElem_cons_succ]
  refine wpAnyH_take (i := 1) (v := ?_) rfl (by kernel_rfl) (by kernel_rfl) (by kernel_rfl) (fun _ _ _ h => h) (Or.inl ⟨by rfl, ?_⟩) trivial ?_
  rotate_left
  · intro w hSw; go_simp; (try with_reducible rfl)
  try simp only [Act.put, List.setIfInBounds_toArray, List.set_cons_zero, List.set_cons_succ, List.getElem_toArray, List.getElem_cons_zero, List.getElem_cons_succ]
  refine wpAnyH_take (i := 2) (v := ?_) rfl (by kernel_rfl) (by kernel_rfl) (by kernel_rfl) (fun _ _ _ h => h) (Or.inl ⟨by rfl, ?_⟩) trivial ?_
  rotate_left
  · intro w hSw; go_simp; (try with_reducible rfl)
  try simp only [Act.put, List.setIfInBounds_toArray, List.set_cons_zero, List.set_cons_succ, List.getElem_toArray, List.getElem_cons_zero, List.getElem_cons_succ]
  refine wpAnyH_take (i := 3) (v := ?_) rfl (by kernel_rfl) (by kernel_rfl) (by kernel_rfl) (fun _ _ _ h => h) (Or.inl ⟨by rfl, ?_⟩) trivial ?_
  rotate_left
  · intro w hSw; go_simp; (try with_reducible rfl)
  try simp only [Act.put, List.setIfInBounds_toArray, List.set_cons_zero, List.set_cons_succ, List.getElem_toArray, List.getElem_cons_zero, List.getElem_cons_succ]
  refine wpAnyH_take (i := 4) (v := ?_) rfl (by kernel_rfl) (by kernel_rfl) (by kernel_rfl) (fun _ _ _ h => h) (Or.inl ⟨by rfl, ?_⟩) trivial ?_
  rotate_left
  · intro w hSw; go_simp; (try with_reducible rfl)
  try simp only [Act.put, List.setIfInBounds_toArray, List.set_cons_zero, List.set_cons_succ, List.getElem_toArray, List.getElem_cons_zero, List.getElem_cons_succ]
  refine wpAnyH_take (i := 5) (v := ?_) rfl (by kernel_rfl) (by kernel_rfl) (by kernel_rfl) (fun _ _ _ h => h) (Or.inl ⟨by rfl, ?_⟩) trivial ?_
  rotate_left
  · intro w hSw; go_simp; (try with_reducible rfl)
  try simp only [Act.put, List.setIfInBounds_toArray, List.set_cons_zero, List.set_cons_succ, List.getElem_toArray, List.getElem_cons_zero, List.getElem_cons_succ]
  refine wpAnyH_take (i := 6) (v := ?_) rfl (by kernel_rfl) (by kernel_rfl) (by kernel_rfl) (fun _ _ _ h => h) (Or.inl ⟨by rfl, ?_⟩) trivial ?_
  rotate_left
  · intro w hSw; go_simp; (try with_reducible rfl)
  try simp only [Act.put, List.setIfInBounds_toArray, List.set_cons_zero, List.set_cons_succ, List.getElem_toArray, List.getElem_cons_zero, List.getElem_cons_succ]
  refine wpAnyH_take (i := 7) (v := ?_) rfl (by kernel_rfl) (by kernel_rfl) (by kernel_rfl) (fun _ _ _ h => h) (Or.inl ⟨by rfl, ?_⟩) trivial ?_
  rotate_left
  · intro w hSw; go_simp; (try with_reducible rfl)
  try simp only [Act.put, List.setIfInBounds_toArray, List.set_cons_zero, List.set_cons_succ, List.getElem_toArray, List.getElem_cons_zero, List.getElem_cons_succ]
  refine wpAnyH_take (i := 8) (v := ?_) rfl (by kernel_rfl) (by kernel_rfl) (by kernel_rfl) (fun _ _ _ h => h) (Or.inl ⟨by rfl, ?_⟩) trivial ?_
  rotate_left
  · intro w hSw; go_simp; (try with_reducible rfl)
  try simp only [Act.put, List.setIfInBounds_toArray, List.set_cons_zero, List.set_cons_succ, List.getElem_toArray, List.getElem_cons_zero, List.getElem_cons_succ]
  refine wpAnyH_take (i := 9) (v := ?_) rfl (by kernel_rfl) (by kernel_rfl) (by kernel_rfl) (fun _ _ _ h => h) (Or.inl ⟨by rfl, ?_⟩) trivial ?_
  rotate_left
  · intro w hSw; go_simp; (try with_reducible rfl)
  try simp only [Act.put, List.setIfInBounds_toArray, List.set_cons_zero, List.set_cons_succ, List.getElem_toArray, List.getElem_cons_zero, List.getElem_cons_succ]
  refine wpAnyH_take (i := 11) (v := ?_) rfl (by kernel_rfl) (by kernel_rfl) (by kernel_rfl) (fun _ _ _ h => h) (Or.inl ⟨by rfl, ?_⟩) trivial ?_
  rotate_left
  · intro w hSw; go_simp; (try with_reducible rfl)
  try simp only [Act.put, List.setIfInBounds_toArray, List.set_cons_zero, List.set_cons_succ, List.getElem_toArray, List.getElem_cons_zero, List.getElem_cons_succ]
  refine wpAnyH_take (i := 12) (v := ?_) rfl (by kernel_rfl) (by kernel_rfl) (by kernel_rfl) (fun _ _ _ h => h) (Or.inl ⟨by rfl, ?_⟩) trivial ?_
  rotate_left
  · intro w hSw; go_simp; (try with_reducible rfl)
  try simp only [Act.put, List.setIfInBounds_toArray, List.set_cons_zero, List.set_cons_succ, List.getElem_toArray, List.getElem_cons_zero, List.getElem_cons_succ]
  refine wpAnyH_take (i := 15) (v := ?_) rfl (by kernel_rfl) (by kernel_rfl) (by kernel_rfl) (fun _ _ _ h => h) (Or.inl ⟨by rfl, ?_⟩) trivial ?_
  rotate_left
  · intro w hSw; go_simp; (try with_reducible rfl)
  try simp only [Act.put, List.setIfInBounds_toArray, List.set_cons_zero, List.set_cons_succ, List.getElem_toArray, List.getElem_cons_zero, List.getElem_cons_succ]
  refine wpAnyH_take (i := 16) (v := ?_) rfl (by kernel_rfl) (by kernel_rfl) (by kernel_rfl) (fun _ _ _ h => h) (Or.inl ⟨by rfl, ?_⟩) trivial ?_
  rotate_left
  · intro w hSw; go_simp; (try with_reducible rfl)
  try simp only [Act.put, List.setIfInBounds_toArray, List.set_cons_zero, List.set_cons_succ, List.getElem_toArray, List.getElem_cons_zero, List.getElem_cons_succ]
  refine wpAnyH_take (i := 17) (v := ?_) rfl (by kernel_rfl) (by kernel_rfl) (by kernel_rfl) (fun _ _ _ h => h) (Or.inl ⟨by rfl, ?_⟩) trivial ?_
  rotate_left
  · intro w hSw; go_simp; (try with_reducible rfl)
  try simp only [Act.put, List.setIfInBounds_toArray, List.set_cons_zero, List.set_cons_succ, List.getElem_toArray, List.getElem_cons_zero, List.getElem_cons_succ]
  refine wpAnyH_ready (rs := [10]) (by kernel_rfl) (by simp) ?_
  refine AllReadyH.cons rfl (fun K hK => ?_) AllReadyH.nil
  go_simp
  refine hK.out _ _ ?_ (fun hHeld => ?_)
  · exact trivial
  clear hK K
  try simp only [Act.put, List.setIfInBounds_toArray, List.set_cons_zero, List.set_cons_succ, List.getElem_toArray, List.getElem_cons_zero, List.getElem_cons_succ]
  refine wpAnyH_take (i := 13) (v := ?_) rfl (by kernel_rfl) (by kernel_rfl) (by kernel_rfl) (fun _ _ _ h => h) (Or.inl ⟨by rfl, ?_⟩) trivial ?_
  rotate_left
  · intro w hSw; go_simp; (try with_reducible rfl)
  try simp only [Act.put, List.setIfInBounds_toArray, List.set_cons_zero, List.set_cons_succ, List.getElem_toArray, List.getElem_cons_zero, List.getElem_cons_succ]
  refine wpAnyH_ready (rs := [14]) (by kernel_rfl) (by simp) ?_
  refine AllReadyH.cons rfl (fun K hK => ?_) AllReadyH.nil
  go_simp
  refine hK.out _ _ ?_ (fun hHeld => ?_)
  · exact trivial
  clear hK K
  try simp only [Act.put, List.setIfInBounds_toArray, List.set_cons_zero, List.set_cons_succ, List.getElem_toArray, List.getElem_cons_zero, List.getElem_cons_succ]
  refine wpAnyH_take (i := 18) (v := ?_) rfl (by kernel_rfl) (by kernel_rfl) (by kernel_rfl) (fun _ _ _ h => h) (Or.inl ⟨by rfl, ?_⟩) trivial ?_
  rotate_left
  · intro w hSw; go_simp; (try with_reducible rfl)
  try simp only [Act.put, List.setIfInBounds_toArray, List.set_cons_zero, List.set_cons_succ, List.getElem_toArray, List.getElem_cons_zero, List.getElem_cons_succ]
  refine wpAnyH_ready (rs := [19]) (by kernel_rfl) (by simp) ?_
  refine AllReadyH.cons rfl (fun K hK => ?_) AllReadyH.nil
  go_simp
  refine hK.out _ _ ?_ (fun hHeld => ?_)
  · exact trivial
  clear hK K
  try simp only [Act.put, List.setIfInBounds_toArray, List.set_cons_zero, List.set_cons_succ, List.getElem_toArray, List.getElem_cons_zero, List.getElem_cons_succ]
  refine wpAnyH_done (by kernel_rfl) ?_ _
  refine NoPanic.normal ?_
  go_wp2_with fail
  refine bodyPost_ret (results_tmp2 rfl _ _ _) rfl ⟨rfl, ?_, ?_⟩
  · have b := (Bk.new (w.alloc (.cells #[.int .i64 0, .int .i64 1] 3)) pathC 302).fz (Fz.drew _ 1) (by simp)
    rw [show (w.alloc (.cells #[.int .i64 0, .int .i64 1] 3)).heap.size = w.heap.size + 1 by simp] at b
    exact b
  · exact (((Below.refl _ w).alloc (Nat.le_refl _) _).alloc (by simp) _).drew
  -- end reg
end Go.Proofs.YtjpokeakemlffaaGreatDoor
/-
  A connection's beginning.
-/
namespace Go.Proofs.YtjpokeakemlffaaGreatDoor
open Go.RowKit
abbrev conC (p1 p2 k his : Int) (known : Bool) (state err : Int) (sd rv pb : Nat) (l0 : Value) (how last : Int) (wb : Nat) (made endTries asked : Int) (closed : Bool) (lastDeath : Int) (first : Bool) (out : Value) (told ended : Bool) : Array Value :=
  #[.int .u64 k, .int .u64 his, .bool known, .int .i64 0, .int .i64 1, .int .i64 p1, .int .i64 p2, .int .i64 state, .int .i64 err, .pointer (some ⟨sd, 0, none⟩), .pointer (some ⟨rv, 0, none⟩), .pointer (some ⟨pb, 0, none⟩),
    l0, .pointer none, .pointer none, .pointer none, .pointer none, .pointer none, .pointer none, .pointer none, .int .i64 how, .int .i64 last, .pointer (some ⟨wb, 0, none⟩), .int .u64 made, .int .i64 endTries, .int .i64 asked, .bool closed, .int .i64 lastDeath, .bool first, out, .bool told, .bool ended]
abbrev sndC (st : Nat) : Array Value := #[.pointer (some ⟨st, 0, none⟩), .int .i64 1, .int .i64 1, .int .i64 33, .slice none 0 0, .bool false, .bool false]
abbrev rcvC (mp st : Nat) : Array Value := #[.int .i64 1, .slice none 0 0, .map (some mp), .pointer (some ⟨st, 0, none⟩), .int .i64 0]
theorem dsnew_l (w : World) : Calls Tryz.prog 218 #[] w fun e w' => ∃ st sd, e = .returned (.pointer (some ⟨sd, 0, none⟩)) ∧ w.heap.size ≤ st ∧ w.heap.size ≤ sd ∧ st ≠ sd ∧ Bk w' sd (sndC st) 291 ∧ Bk w' st #[.slice none 0 0] 389 ∧ Below w.heap.size w w' := by
  refine (dsnew_any w).mono ?_
  rintro e w' ⟨rfl, rfl⟩
  have b := Bk.new (w.alloc (.cells #[.slice none 0 0] 389)) (sndC w.heap.size) 291
  rw [show (w.alloc (.cells #[.slice none 0 0] 389)).heap.size = w.heap.size + 1 by simp] at b
  exact ⟨w.heap.size, w.heap.size + 1, rfl, Nat.le_refl _, by omega, by omega, b, (Bk.new w _ _).fz (Fz.alloc _ _) (by simp), ((Below.refl _ w).alloc (Nat.le_refl _) _).alloc (by simp) _⟩
theorem drnew_l (w : World) : Calls Tryz.prog 219 #[] w fun e w' => ∃ mp st rv, e = .returned (.pointer (some ⟨rv, 0, none⟩)) ∧ w.heap.size ≤ rv ∧ Bk w' rv (rcvC mp st) 294 ∧ Below w.heap.size w w' := by
  refine (drnew_any w).mono ?_
  rintro e w' ⟨rfl, rfl⟩
  have b := Bk.new ((w.alloc (.map #[] 0)).alloc (.cells #[.slice none 0 0] 389)) (rcvC w.heap.size (w.heap.size + 1)) 294
  rw [show ((w.alloc (.map #[] 0)).alloc (.cells #[.slice none 0 0] 389)).heap.size = w.heap.size + 2 by simp] at b
  exact ⟨w.heap.size, w.heap.size + 1, w.heap.size + 2, rfl, by omega, b, (((Below.refl _ w).alloc (Nat.le_refl _) _).alloc (by simp) _).alloc (by simp; omega) _⟩
structure Beg (w w' : World) (p1 p2 k now : Int) (c sd st rv mp st2 pb base wb wm : Nat) : Prop where
  cn : Bk w' c (conC p1 p2 k 0 false 0 0 sd rv pb (.pointer none) 0 0 wb 0 0 0 false 0 false (.slice none 0 0) false false) 191
  snd : Bk w' sd (sndC st) 291
  set : Bk w' st #[.slice none 0 0] 389
  rcv : Bk w' rv (rcvC mp st2) 294
  pth : Bk w' pb pathC 302
  wl : Wl w' base wb wm 0 (fun _ => .slice none 0 0) now []
  off : c ≠ wb ∧ c ≠ wm ∧ sd < base ∧ st < base ∧ rv < base ∧ pb < base
  low : w.heap.size ≤ sd ∧ w.heap.size ≤ st ∧ w.heap.size ≤ rv ∧ w.heap.size ≤ pb ∧ w.heap.size ≤ c ∧ w.heap.size ≤ base
  ne : sd ≠ c ∧ rv ≠ c ∧ pb ≠ c ∧ st ≠ c
  below : Below w.heap.size w w'
set_option maxRecDepth 100000 in
set_option maxHeartbeats 3200000 in
theorem begin_any (p1 p2 k tick now : Int) (w : World) (a1 : 0 ≤ p1) (a2 : p1 ≤ 65535) (b1 : 0 ≤ p2) (b2 : p2 ≤ 65535) (hn : min (max tick 0) 1099511627776 = now) : Calls Tryz.prog 149 #[.int .u64 k, .agg #[.int .i64 0, .int .i64 1, .int .i64 p1, .int .i64 p2], .int .i64 tick] w fun e w' => ∃ c sd st rv mp st2 pb base wb wm, e = .returned (.tuple #[.pointer (some ⟨c, 0, none⟩), .int .i64 0]) ∧ Beg w w' p1 p2 k now c sd st rv mp st2 pb base wb wm := by
  have RY := Keep.mk (right_yes 0 1 p1 p2 0 0 false false false false 0 (w.alloc (.cells #[.int .i64 0, .int .i64 1, .int .i64 p1, .int .i64 p2] 149)) (by omega) (by omega) (by omega) (by omega) (by omega) (by omega) (by omega) (by omega) (by omega) (by omega))
  have E0 := Keep.mk (Bk.new w #[.int .i64 0, .int .i64 1, .int .i64 p1, .int .i64 p2] 149)
  have F0 := Keep.mk (Fz.alloc w (.cells #[.int .i64 0, .int .i64 1, .int .i64 p1, .int .i64 p2] 149))
  have HN := Keep.mk hn
  clear hn a1 a2 b1 b2
  go_enter Tryz.func149, Tryz.ntmps149
  go_upto_region 4 with (first
    | (go_at_call 90
       go_loud (refine RY.out.mono ?_; rintro e w1 ⟨rfl, hb1⟩)
       have B1 := Fz.below hb1 (Nat.le_refl _)
       have F1 : Keep (Fz w w1 []) := ⟨(F0.out.trans B1).mono (by simp)⟩
       have E1 := Keep.mk (E0.out.fz B1 (by simp))
       have c0 : w1.cell? ⟨w.heap.size, 0, none⟩ = some (.int .i64 0) := E1.out.c 0
       have c1 : w1.cell? ⟨w.heap.size, 1, none⟩ = some (.int .i64 1) := E1.out.c 1
       clear hb1 B1)
    | (go_at_call 217
       go_loud (refine (pnew_01 _).mono ?_; rintro e w2 ⟨rfl, p2, hb2⟩)
       have B2 := Fz.below hb2 (Nat.le_refl _)
       have F2 : Keep (Fz w w2 []) := ⟨(F1.out.trans B2).mono (by simp)⟩
       have E2 := Keep.mk (E1.out.fz B2 (by simp))
       have LP : Keep (w.heap.size < w1.heap.size) := ⟨E1.out.lt⟩
       obtain ⟨pb, hpb⟩ : ∃ pb, w1.heap.size + 1 = pb := ⟨_, rfl⟩
       rw [hpb] at p2
       have P2 := Keep.mk p2
       have HPB := Keep.mk hpb
       clear hb2 B2 p2)
    | fail)
  -- reg begin
  refine wp_region_noPanic ?_
  refine wp_region_held_drew (S := fun X => X.cell? ⟨w.heap.size, 0, none⟩ = some (.int .i64 0) ∧ X.cell? ⟨w.heap.size, 1, none⟩ = some (.int .i64 1) ∧ X.cell? ⟨w.heap.size, 2, none⟩ = some (.int .i64 p1) ∧ X.cell? ⟨w.heap.size, 3, none⟩ = some (.int .i64 p2)) (by kernel_rfl) ⟨E2.out.c 0, E2.out.c 1, E2.out.c 2, E2.out.c 3⟩ (fun hHeld => ?_)
  refine wpAnyH_take (i := 0) (v := ?_) rfl (by kernel_rfl) (by kernel_rfl) (by kernel_rfl) (fun _ _ _ h => h) (Or.inl ⟨by rfl, ?_⟩) (by assumption) ?_
  rotate_left
  · intro w hSw; go_simp; (try with_reducible rfl)
  try simp only [Act.put, List.setIfInBounds_toArray, List.set_cons_zero, List.set_cons_succ, List.getElem_toArray, List.getElem_cons_zero, List.getElem_cons_succ]
  refine wpAnyH_take (i := 1) (v := ?_) rfl (by kernel_rfl) (by kernel_rfl) (by kernel_rfl) (fun _ _ _ h => h) (Or.inl ⟨by rfl, ?_⟩) (by assumption) ?_
  rotate_left
  · intro w hSw; go_simp; (try with_reducible rfl)
  try simp only [Act.put, List.setIfInBounds_toArray, List.set_cons_zero, List.set_cons_succ, List.getElem_toArray, List.getElem_cons_zero, List.getElem_cons_succ]
  refine wpAnyH_take (i := 4) (v := ?_) rfl (by kernel_rfl) (by kernel_rfl) (by kernel_rfl) (fun _ _ _ h => h) (Or.inl ⟨by rfl, ?_⟩) (by assumption) ?_
  rotate_left
  · intro w hSw; go_simp; (try with_reducible rfl)
  try simp only [Act.put, List.setIfInBounds_toArray, List.set_cons_zero, List.set_cons_succ, List.getElem_toArray, List.getElem_cons_zero, List.getElem_cons_succ]
  refine wpAnyH_take (i := 5) (v := ?_) rfl (by kernel_rfl) (by kernel_rfl) (by kernel_rfl) (fun _ _ _ h => h) (Or.inl ⟨by rfl, ?_⟩) (by assumption) ?_
  rotate_left
  · intro w hSw; go_simp; (try with_reducible rfl)
  try simp only [Act.put, List.setIfInBounds_toArray, List.set_cons_zero, List.set_cons_succ, List.getElem_toArray, List.getElem_cons_zero, List.getElem_cons_succ]
  refine wpAnyH_ready (rs := [2]) (by kernel_rfl) (by simp) ?_
  refine AllReadyH.cons rfl (fun K hK => ?_) AllReadyH.nil
  go_simp
  refine (dsnew_l _).mono ?_
  rintro e w3 ⟨st, sd, rfl, l1, l2, hss, s3, t3, hb3⟩
  have B3 := (Fz.drew w2 1).trans (Fz.below hb3 (Nat.le_refl _))
  have E3 := Keep.mk (E2.out.fz B3 (by simp))
  have P3 := Keep.mk (P2.out.fz B3 (by simp))
  have F3 : Keep (Fz w w3 []) := ⟨(F2.out.trans B3).mono (by simp)⟩
  have L1 : Keep (w2.heap.size ≤ st ∧ w2.heap.size ≤ sd) := ⟨l1, l2⟩
  have S3 := Keep.mk s3
  have T3 := Keep.mk t3
  clear l1 l2 hss s3 t3 hb3 B3
  refine hK.out _ _ ?_ (fun hHeld => ?_)
  · first | exact ⟨E2.out.c 0, E2.out.c 1, E2.out.c 2, E2.out.c 3⟩ | exact ⟨E3.out.c 0, E3.out.c 1, E3.out.c 2, E3.out.c 3⟩ | exact ⟨E4.out.c 0, E4.out.c 1, E4.out.c 2, E4.out.c 3⟩ | exact ⟨E5.out.c 0, E5.out.c 1, E5.out.c 2, E5.out.c 3⟩ | exact ⟨(E5.out.fz (Fz.alloc w5 (.cells (conC p1 p2 k 0 false 0 0 sd rv pb (.pointer none) 0 0 (w4.heap.size + 1) 0 0 0 false 0 false (.slice none 0 0) false false) 191)) (by simp)).c 0, (E5.out.fz (Fz.alloc w5 (.cells (conC p1 p2 k 0 false 0 0 sd rv pb (.pointer none) 0 0 (w4.heap.size + 1) 0 0 0 false 0 false (.slice none 0 0) false false) 191)) (by simp)).c 1, (E5.out.fz (Fz.alloc w5 (.cells (conC p1 p2 k 0 false 0 0 sd rv pb (.pointer none) 0 0 (w4.heap.size + 1) 0 0 0 false 0 false (.slice none 0 0) false false) 191)) (by simp)).c 2, (E5.out.fz (Fz.alloc w5 (.cells (conC p1 p2 k 0 false 0 0 sd rv pb (.pointer none) 0 0 (w4.heap.size + 1) 0 0 0 false 0 false (.slice none 0 0) false false) 191)) (by simp)).c 3⟩
  clear hK K
  try simp only [Act.put, List.setIfInBounds_toArray, List.set_cons_zero, List.set_cons_succ, List.getElem_toArray, List.getElem_cons_zero, List.getElem_cons_succ]
  refine wpAnyH_ready (rs := [3]) (by kernel_rfl) (by simp) ?_
  refine AllReadyH.cons rfl (fun K hK => ?_) AllReadyH.nil
  go_simp
  refine (drnew_l _).mono ?_
  rintro e w4 ⟨mp, st2, rv, rfl, l3, r4, hb4⟩
  have B4 := Fz.below hb4 (Nat.le_refl _)
  have E4 := Keep.mk (E3.out.fz B4 (by simp))
  have P4 := Keep.mk (P3.out.fz B4 (by simp))
  have S4 := Keep.mk (S3.out.fz B4 (by simp))
  have T4 := Keep.mk (T3.out.fz B4 (by simp))
  have F4 : Keep (Fz w w4 []) := ⟨(F3.out.trans B4).mono (by simp)⟩
  have L2 : Keep (w3.heap.size ≤ rv) := ⟨l3⟩
  have R4 := Keep.mk r4
  clear l3 r4 hb4 B4
  refine hK.out _ _ ?_ (fun hHeld => ?_)
  · first | exact ⟨E2.out.c 0, E2.out.c 1, E2.out.c 2, E2.out.c 3⟩ | exact ⟨E3.out.c 0, E3.out.c 1, E3.out.c 2, E3.out.c 3⟩ | exact ⟨E4.out.c 0, E4.out.c 1, E4.out.c 2, E4.out.c 3⟩ | exact ⟨E5.out.c 0, E5.out.c 1, E5.out.c 2, E5.out.c 3⟩ | exact ⟨(E5.out.fz (Fz.alloc w5 (.cells (conC p1 p2 k 0 false 0 0 sd rv pb (.pointer none) 0 0 (w4.heap.size + 1) 0 0 0 false 0 false (.slice none 0 0) false false) 191)) (by simp)).c 0, (E5.out.fz (Fz.alloc w5 (.cells (conC p1 p2 k 0 false 0 0 sd rv pb (.pointer none) 0 0 (w4.heap.size + 1) 0 0 0 false 0 false (.slice none 0 0) false false) 191)) (by simp)).c 1, (E5.out.fz (Fz.alloc w5 (.cells (conC p1 p2 k 0 false 0 0 sd rv pb (.pointer none) 0 0 (w4.heap.size + 1) 0 0 0 false 0 false (.slice none 0 0) false false) 191)) (by simp)).c 2, (E5.out.fz (Fz.alloc w5 (.cells (conC p1 p2 k 0 false 0 0 sd rv pb (.pointer none) 0 0 (w4.heap.size + 1) 0 0 0 false 0 false (.slice none 0 0) false false) 191)) (by simp)).c 3⟩
  clear hK K
  try simp only [Act.put, List.setIfInBounds_toArray, List.set_cons_zero, List.set_cons_succ, List.getElem_toArray, List.getElem_cons_zero, List.getElem_cons_succ]
  refine wpAnyH_ready (rs := [6]) (by kernel_rfl) (by simp) ?_
  refine AllReadyH.cons rfl (fun K hK => ?_) AllReadyH.nil
  go_simp
  refine (new_wl tick w4).mono ?_
  rintro e w5 ⟨rfl, wl5, hb5⟩
  rw [HN.out] at wl5
  have B5 := Fz.below hb5 (Nat.le_refl _)
  have E5 := Keep.mk (E4.out.fz B5 (by simp))
  have P5 := Keep.mk (P4.out.fz B5 (by simp))
  have S5 := Keep.mk (S4.out.fz B5 (by simp))
  have T5 := Keep.mk (T4.out.fz B5 (by simp))
  have R5 := Keep.mk (R4.out.fz B5 (by simp))
  have F5 : Keep (Fz w w5 []) := ⟨(F4.out.trans B5).mono (by simp)⟩
  have W5 := Keep.mk wl5
  have LB : Keep (w4.heap.size + 1 < w5.heap.size) := ⟨wl5.lt (.inl rfl)⟩
  clear hb5 B5 wl5
  refine hK.out _ _ ?_ (fun hHeld => ?_)
  · first | exact ⟨E2.out.c 0, E2.out.c 1, E2.out.c 2, E2.out.c 3⟩ | exact ⟨E3.out.c 0, E3.out.c 1, E3.out.c 2, E3.out.c 3⟩ | exact ⟨E4.out.c 0, E4.out.c 1, E4.out.c 2, E4.out.c 3⟩ | exact ⟨E5.out.c 0, E5.out.c 1, E5.out.c 2, E5.out.c 3⟩ | exact ⟨(E5.out.fz (Fz.alloc w5 (.cells (conC p1 p2 k 0 false 0 0 sd rv pb (.pointer none) 0 0 (w4.heap.size + 1) 0 0 0 false 0 false (.slice none 0 0) false false) 191)) (by simp)).c 0, (E5.out.fz (Fz.alloc w5 (.cells (conC p1 p2 k 0 false 0 0 sd rv pb (.pointer none) 0 0 (w4.heap.size + 1) 0 0 0 false 0 false (.slice none 0 0) false false) 191)) (by simp)).c 1, (E5.out.fz (Fz.alloc w5 (.cells (conC p1 p2 k 0 false 0 0 sd rv pb (.pointer none) 0 0 (w4.heap.size + 1) 0 0 0 false 0 false (.slice none 0 0) false false) 191)) (by simp)).c 2, (E5.out.fz (Fz.alloc w5 (.cells (conC p1 p2 k 0 false 0 0 sd rv pb (.pointer none) 0 0 (w4.heap.size + 1) 0 0 0 false 0 false (.slice none 0 0) false false) 191)) (by simp)).c 3⟩
  clear hK K
  try simp only [Act.put, List.setIfInBounds_toArray, List.set_cons_zero, List.set_cons_succ, List.getElem_toArray, List.getElem_cons_zero, List.getElem_cons_succ]
  refine wpAnyH_take (i := 7) (v := ?_) rfl (by kernel_rfl) (by kernel_rfl) (by kernel_rfl) (fun _ _ _ h => h) (Or.inl ⟨by rfl, ?_⟩) (by assumption) ?_
  rotate_left
  · intro w hSw; go_simp; (try with_reducible rfl)
  try simp only [Act.put, List.setIfInBounds_toArray, List.set_cons_zero, List.set_cons_succ, List.getElem_toArray, List.getElem_cons_zero, List.getElem_cons_succ]
  refine wpAnyH_ready (rs := [8]) (by kernel_rfl) (by simp) ?_
  refine AllReadyH.cons rfl (fun K hK => ?_) AllReadyH.nil
  go_simp
  refine hK.out _ _ ?_ (fun hHeld => ?_)
  · first | exact ⟨E2.out.c 0, E2.out.c 1, E2.out.c 2, E2.out.c 3⟩ | exact ⟨E3.out.c 0, E3.out.c 1, E3.out.c 2, E3.out.c 3⟩ | exact ⟨E4.out.c 0, E4.out.c 1, E4.out.c 2, E4.out.c 3⟩ | exact ⟨E5.out.c 0, E5.out.c 1, E5.out.c 2, E5.out.c 3⟩ | exact ⟨(E5.out.fz (Fz.alloc w5 (.cells (conC p1 p2 k 0 false 0 0 sd rv pb (.pointer none) 0 0 (w4.heap.size + 1) 0 0 0 false 0 false (.slice none 0 0) false false) 191)) (by simp)).c 0, (E5.out.fz (Fz.alloc w5 (.cells (conC p1 p2 k 0 false 0 0 sd rv pb (.pointer none) 0 0 (w4.heap.size + 1) 0 0 0 false 0 false (.slice none 0 0) false false) 191)) (by simp)).c 1, (E5.out.fz (Fz.alloc w5 (.cells (conC p1 p2 k 0 false 0 0 sd rv pb (.pointer none) 0 0 (w4.heap.size + 1) 0 0 0 false 0 false (.slice none 0 0) false false) 191)) (by simp)).c 2, (E5.out.fz (Fz.alloc w5 (.cells (conC p1 p2 k 0 false 0 0 sd rv pb (.pointer none) 0 0 (w4.heap.size + 1) 0 0 0 false 0 false (.slice none 0 0) false false) 191)) (by simp)).c 3⟩
  clear hK K
  try simp only [Act.put, List.setIfInBounds_toArray, List.set_cons_zero, List.set_cons_succ, List.getElem_toArray, List.getElem_cons_zero, List.getElem_cons_succ]
  refine wpAnyH_take (i := 9) (v := ?_) rfl (by kernel_rfl) (by kernel_rfl) (by kernel_rfl) (fun _ _ _ h => h) (Or.inl ⟨by rfl, ?_⟩) (by assumption) ?_
  rotate_left
  · intro w hSw; go_simp; (try with_reducible rfl)
  try simp only [Act.put, List.setIfInBounds_toArray, List.set_cons_zero, List.set_cons_succ, List.getElem_toArray, List.getElem_cons_zero, List.getElem_cons_succ]
  refine wpAnyH_take (i := 10) (v := ?_) rfl (by kernel_rfl) (by kernel_rfl) (by kernel_rfl) (fun _ _ _ h => h) (Or.inl ⟨by rfl, ?_⟩) (by assumption) ?_
  rotate_left
  · intro w hSw; go_simp; (try with_reducible rfl)
  try simp only [Act.put, List.setIfInBounds_toArray, List.set_cons_zero, List.set_cons_succ, List.getElem_toArray, List.getElem_cons_zero, List.getElem_cons_succ]
  refine wpAnyH_done (by kernel_rfl) ?_ _
  refine NoPanic.normal ?_
  go_wp2_with fail
  have A6 := Fz.alloc w5 (.cells (conC p1 p2 k 0 false 0 0 sd rv pb (.pointer none) 0 0 (w4.heap.size + 1) 0 0 0 false 0 false (.slice none 0 0) false false) 191)
  have z1 := P4.out.lt
  have z2 := S4.out.lt
  have z3 := T4.out.lt
  have z4 := R4.out.lt
  have z5 := LB.out
  have y1 := L1.out.1
  have y2 := L1.out.2
  have y3 := L2.out
  have y4 := HPB.out
  have y5 := LP.out
  have y6 := F3.out.size
  have y7 := F2.out.size
  have y8 := F4.out.size
  refine bodyPost_ret (results_tmp2 rfl _ _ _) rfl ⟨w5.heap.size, sd, st, rv, mp, st2, pb, w4.heap.size, w4.heap.size + 1, w4.heap.size, rfl, ⟨Bk.new w5 _ _, S5.out.fz A6 (by simp), T5.out.fz A6 (by simp), R5.out.fz A6 (by simp), P5.out.fz A6 (by simp), W5.out.below ((Below.refl _ w5).alloc (Nat.le_refl _) _), ⟨by omega, by omega, by omega, by omega, by omega, by omega⟩, ⟨by omega, by omega, by omega, by omega, by omega, by omega⟩, ⟨by omega, by omega, by omega, by omega⟩, (F5.out.trans A6).toBelow (Nat.le_refl _) (by simp)⟩⟩
  -- end reg
end Go.Proofs.YtjpokeakemlffaaGreatDoor
/-
  A connection's fresh numbers; its legs: over, put.
-/
namespace Go.Proofs.YtjpokeakemlffaaGreatDoor
open Go.RowKit
theorem xr_bd (a b : Int) : 0 ≤ bits .xor .u64 a b ∧ bits .xor .u64 a b < 18446744073709551616 := by
  show 0 ≤ IntKind.u64.wrap _ ∧ IntKind.u64.wrap _ < _
  rw [IntKind.wrap_u64]
  omega
set_option maxRecDepth 100000 in
set_option maxHeartbeats 1600000 in
theorem fresh_any (c : Nat) (k : Int) (arr : Array Value) (w : World) (h : Bk w c arr 191) (h0 : arr[0]? = some (.int .u64 k)) (h23 : arr[23]? = some (.int .u64 0)) :
    Calls Tryz.prog 152 #[.pointer (some ⟨c, 0, none⟩)] w fun e w' => ∃ s, e = .returned (.int .u32 s) ∧ Bk w' c (arr.setIfInBounds 23 (.int .u64 1)) 191 ∧ Fz w w' [c] := by
  have c23 : w.cell? ⟨c, 23, none⟩ = some (.int .u64 0) := (h.c 23).trans h23
  have f23 := h.free 23
  have B1 := h.set 23 (.int .u64 1)
  have E1 := Fz.set w c 23 (.int .u64 1)
  have hlt : 23 < arr.size := (Array.getElem?_eq_some_iff.1 h23).1
  have d0 : (w.setCell ⟨c, 23, none⟩ (.int .u64 1)).drew.cell? ⟨c, 0, none⟩ = some (.int .u64 k) := (B1.c 0).trans (by rw [Array.getElem?_setIfInBounds_ne (by omega)]; exact h0)
  have d23 : (w.setCell ⟨c, 23, none⟩ (.int .u64 1)).drew.cell? ⟨c, 23, none⟩ = some (.int .u64 1) := (B1.c 23).trans (by rw [Array.getElem?_setIfInBounds_self, if_pos hlt])
  have HA0 : Keep ((arr.setIfInBounds 23 (.int .u64 1))[0]? = some (.int .u64 k)) := ⟨by rw [Array.getElem?_setIfInBounds_ne (by omega)]; exact h0⟩
  have HA23 : Keep ((arr.setIfInBounds 23 (.int .u64 1))[23]? = some (.int .u64 1)) := ⟨by rw [Array.getElem?_setIfInBounds_self, if_pos hlt]⟩
  have KB := Keep.mk B1
  have KE := Keep.mk E1
  clear h h0 h23 B1 E1 hlt
  go_enter Tryz.func152, Tryz.ntmps152
  go_wp2_with fail
  -- reg fresh
  refine wp_region_noPanic ?_
  refine wp_region_held_drew (S := fun X => X.cell? ⟨c, 0, none⟩ = some (.int .u64 k) ∧ X.cell? ⟨c, 23, none⟩ = some (.int .u64 1)) (by kernel_rfl) ⟨d0, d23⟩ (fun hHeld => ?_)
  refine wpAnyH_take (i := 0) (v := ?_) rfl (by kernel_rfl) (by kernel_rfl) (by kernel_rfl) (fun _ _ _ h => h) (Or.inl ⟨by rfl, ?_⟩) (by assumption) ?_
  rotate_left
  · intro w hSw; go_simp; (try with_reducible rfl)
  try simp only [Act.put, List.setIfInBounds_toArray, List.set_cons_zero, List.set_cons_succ, List.getElem_toArray, List.getElem_cons_zero, List.getElem_cons_succ]
  refine wpAnyH_take (i := 1) (v := ?_) rfl (by kernel_rfl) (by kernel_rfl) (by kernel_rfl) (fun _ _ _ h => h) (Or.inl ⟨by rfl, ?_⟩) (by assumption) ?_
  rotate_left
  · intro w hSw; go_simp; (try with_reducible rfl)
  try simp only [Act.put, List.setIfInBounds_toArray, List.set_cons_zero, List.set_cons_succ, List.getElem_toArray, List.getElem_cons_zero, List.getElem_cons_succ]
  refine wpAnyH_take (i := 2) (v := ?_) rfl (by kernel_rfl) (by kernel_rfl) (by kernel_rfl) (fun _ _ _ h => h) (Or.inl ⟨by rfl, ?_⟩) (by assumption) ?_
  rotate_left
  · intro w hSw; go_simp; (try with_reducible rfl)
  try simp only [Act.put, List.setIfInBounds_toArray, List.set_cons_zero, List.set_cons_succ, List.getElem_toArray, List.getElem_cons_zero, List.getElem_cons_succ]
  refine wpAnyH_take (i := 3) (v := ?_) rfl (by kernel_rfl) (by kernel_rfl) (by kernel_rfl) (fun _ _ _ h => h) (Or.inl ⟨by rfl, ?_⟩) (by assumption) ?_
  rotate_left
  · intro w hSw; go_simp; (try with_reducible rfl)
  try simp only [Act.put, List.setIfInBounds_toArray, List.set_cons_zero, List.set_cons_succ, List.getElem_toArray, List.getElem_cons_zero, List.getElem_cons_succ]
  refine wpAnyH_take (i := 4) (v := ?_) rfl (by kernel_rfl) (by kernel_rfl) (by kernel_rfl) (fun _ _ _ h => h) (Or.inl ⟨by rfl, ?_⟩) (by assumption) ?_
  rotate_left
  · intro w hSw; go_simp; (try with_reducible rfl)
  try simp only [Act.put, List.setIfInBounds_toArray, List.set_cons_zero, List.set_cons_succ, List.getElem_toArray, List.getElem_cons_zero, List.getElem_cons_succ]
  refine wpAnyH_take (i := 5) (v := ?_) rfl (by kernel_rfl) (by kernel_rfl) (by kernel_rfl) (fun _ _ _ h => h) (Or.inl ⟨by rfl, ?_⟩) (by assumption) ?_
  rotate_left
  · intro w hSw; go_simp; (try with_reducible rfl)
  try simp only [Act.put, List.setIfInBounds_toArray, List.set_cons_zero, List.set_cons_succ, List.getElem_toArray, List.getElem_cons_zero, List.getElem_cons_succ]
  refine wpAnyH_take (i := 6) (v := ?_) rfl (by kernel_rfl) (by kernel_rfl) (by kernel_rfl) (fun _ _ _ h => h) (Or.inl ⟨by rfl, ?_⟩) (by assumption) ?_
  rotate_left
  · intro w hSw; go_simp; (try with_reducible rfl)
  try simp only [Act.put, List.setIfInBounds_toArray, List.set_cons_zero, List.set_cons_succ, List.getElem_toArray, List.getElem_cons_zero, List.getElem_cons_succ]
  refine wpAnyH_take (i := 7) (v := ?_) rfl (by kernel_rfl) (by kernel_rfl) (by kernel_rfl) (fun _ _ _ h => h) (Or.inl ⟨by rfl, ?_⟩) (by assumption) ?_
  rotate_left
  · intro w hSw; go_simp; (try with_reducible rfl)
  try simp only [Act.put, List.setIfInBounds_toArray, List.set_cons_zero, List.set_cons_succ, List.getElem_toArray, List.getElem_cons_zero, List.getElem_cons_succ]
  refine wpAnyH_take (i := 8) (v := ?_) rfl (by kernel_rfl) (by kernel_rfl) (by kernel_rfl) (fun _ _ _ h => h) (Or.inl ⟨by rfl, ?_⟩) (by assumption) ?_
  rotate_left
  · intro w hSw; go_simp; (try with_reducible rfl)
  try simp only [Act.put, List.setIfInBounds_toArray, List.set_cons_zero, List.set_cons_succ, List.getElem_toArray, List.getElem_cons_zero, List.getElem_cons_succ]
  refine wpAnyH_take (i := 9) (v := ?_) rfl (by kernel_rfl) (by kernel_rfl) (by kernel_rfl) (fun _ _ _ h => h) (Or.inl ⟨by rfl, ?_⟩) (by assumption) ?_
  rotate_left
  · intro w hSw; go_simp; (try with_reducible rfl)
  try simp only [Act.put, List.setIfInBounds_toArray, List.set_cons_zero, List.set_cons_succ, List.getElem_toArray, List.getElem_cons_zero, List.getElem_cons_succ]
  refine wpAnyH_ready (rs := [10]) (by kernel_rfl) (by simp) ?_
  refine AllReadyH.cons rfl (fun K hK => ?_) AllReadyH.nil
  go_simp
  refine (token_any _ _ (xr_bd _ _).1 (xr_bd _ _).2).mono ?_
  rintro e w2 ⟨rfl, hb2⟩
  generalize tokN (bits BinOp.xor IntKind.u64 k (IntKind.u64.wrap 4294967296)) = s
  have B2 := (Fz.drew _ 1).trans (Fz.below hb2 (Nat.le_refl _))
  have KB2 := Keep.mk (KB.out.fz B2 (by simp))
  have F2 : Keep (Fz w w2 [c]) := ⟨(KE.out.trans B2).mono (by simp)⟩
  have d0b : w2.cell? ⟨c, 0, none⟩ = some (.int .u64 k) := (KB2.out.c 0).trans HA0.out
  have d23b : w2.cell? ⟨c, 23, none⟩ = some (.int .u64 1) := (KB2.out.c 23).trans HA23.out
  clear hb2 B2
  refine hK.out _ _ ?_ (fun hHeld => ?_)
  · exact ⟨d0b, d23b⟩
  clear hK K
  try simp only [Act.put, List.setIfInBounds_toArray, List.set_cons_zero, List.set_cons_succ, List.getElem_toArray, List.getElem_cons_zero, List.getElem_cons_succ]
  refine wpAnyH_take (i := 11) (v := ?_) rfl (by kernel_rfl) (by kernel_rfl) (by kernel_rfl) (fun _ _ _ h => h) (Or.inl ⟨by rfl, ?_⟩) (by assumption) ?_
  rotate_left
  · intro w hSw; go_simp; (try with_reducible rfl)
  try simp only [Act.put, List.setIfInBounds_toArray, List.set_cons_zero, List.set_cons_succ, List.getElem_toArray, List.getElem_cons_zero, List.getElem_cons_succ]
  refine wpAnyH_done (by kernel_rfl) ?_ _
  refine NoPanic.normal ?_
  go_wp2_with fail
  go_ret
  exact ⟨s, rfl, KB2.out, F2.out⟩
  -- end reg
set_option maxRecDepth 100000 in
theorem over_nil (w : World) : Calls Tryz.prog 158 #[.pointer none] w fun e w' => e = .returned (.bool true) ∧ w' = w := by
  go_enter Tryz.func158, Tryz.ntmps158
  go_wp2_with fail
  go_ret
  exact ⟨rfl, rfl⟩
set_option maxRecDepth 100000 in
theorem fstate_any (f q : Nat) (times state rcv tries at_ : Int) (has : Bool) (since : Int) (twice : Bool) (out : Value) (w : World) (h : Bk w f (flC q times state rcv tries at_ has since twice out) 283) :
    Calls Tryz.prog 186 #[.pointer (some ⟨f, 0, none⟩)] w fun e w' => e = .returned (.int .i64 state) ∧ w' = w := by
  have c5 : w.cell? ⟨f, 5, none⟩ = some (.int .i64 state) := h.c 5
  clear h
  go_enter Tryz.func186, Tryz.ntmps186
  go_wp2_with fail
  go_ret
  exact ⟨rfl, rfl⟩
abbrev legC (f : Nat) : Array Value := #[.pointer (some ⟨f, 0, none⟩), .int .i64 0, .int .i64 1, .bool true, .bool false, .bool false, .int .u32 0, .int .u32 0, .int .u64 0]
set_option maxRecDepth 100000 in
theorem over_any (l f q : Nat) (times state rcv tries at_ : Int) (has : Bool) (since : Int) (twice : Bool) (out : Value) (w : World) (hl : Bk w l (legC f) 211) (h : Bk w f (flC q times state rcv tries at_ has since twice out) 283) :
    Calls Tryz.prog 158 #[.pointer (some ⟨l, 0, none⟩)] w fun e w' => e = .returned (.bool (decide (10 ≤ state))) ∧ w' = w := by
  have c0 : w.cell? ⟨l, 0, none⟩ = some (.pointer (some ⟨f, 0, none⟩)) := hl.c 0
  have FS := Keep.mk (fstate_any f q times state rcv tries at_ has since twice out w h)
  clear hl h
  go_enter Tryz.func158, Tryz.ntmps158
  go_wp2_with (first
    | (go_at_call 186
       go_loud (refine FS.out.mono ?_; rintro e X ⟨rfl, hX⟩)
       rw [hX]
       clear hX)
    | fail)
  go_ret
  exact ⟨by first | rfl | simp, rfl⟩
theorem infoLegP : (Tryz.prog.info? 187).map (fun i => (i.zero, i.size, i.bytes)) = some (some (.pointer none), 1, 8) := by kernel_rfl
theorem index_leg (cs : Array Value) (i : Nat) (v : Value) (h : cs[i]? = some v) (hi : i < 8) (W : World) :
    (Instr.index 188 (.agg cs) (.int .i64 (i : Int))).run Tryz.prog W = .ok v W := by
  obtain ⟨i0, h0, _, h1, _⟩ := info_parts infoLegP
  simp [Instr.index, run_underlying Tryz.underlying188, asIntOf, hi, sizeOf, typeInfo, part, go_sem, h0, h1, h]
set_option maxRecDepth 100000 in
set_option maxHeartbeats 1600000 in
theorem put_first (c l : Nat) (arr : Array Value) (w : World) (h : Bk w c arr 191) (hs : arr.size = 32) (h0 : ∀ i, i < 8 → arr[12 + i]? = some (.pointer none)) :
    Calls Tryz.prog 150 #[.pointer (some ⟨c, 0, none⟩), .pointer (some ⟨l, 0, none⟩)] w fun e w' => e = .returned (.bool true) ∧ Bk w' c (arr.setIfInBounds 12 (.pointer (some ⟨l, 0, none⟩))) 191 ∧ Fz w w' [c] := by
  have l0 : w.cell? ⟨c, 12, none⟩ = some (.pointer none) := (h.c 12).trans (h0 0 (by omega))
  have l1 : w.cell? ⟨c, 13, none⟩ = some (.pointer none) := (h.c 13).trans (h0 1 (by omega))
  have l2 : w.cell? ⟨c, 14, none⟩ = some (.pointer none) := (h.c 14).trans (h0 2 (by omega))
  have l3 : w.cell? ⟨c, 15, none⟩ = some (.pointer none) := (h.c 15).trans (h0 3 (by omega))
  have l4 : w.cell? ⟨c, 16, none⟩ = some (.pointer none) := (h.c 16).trans (h0 4 (by omega))
  have l5 : w.cell? ⟨c, 17, none⟩ = some (.pointer none) := (h.c 17).trans (h0 5 (by omega))
  have l6 : w.cell? ⟨c, 18, none⟩ = some (.pointer none) := (h.c 18).trans (h0 6 (by omega))
  have l7 : w.cell? ⟨c, 19, none⟩ = some (.pointer none) := (h.c 19).trans (h0 7 (by omega))
  have f12 := h.free 12
  have HB := Keep.mk h
  clear h h0
  go_enter Tryz.func150, Tryz.ntmps150
  go_wp2_with fail
  go_loopw [11] (fun i wr => i = .int .i64 0 ∧ wr = w) (fun _ _ => 0)
  case atStart => exact ⟨rfl, rfl⟩
  case round =>
    obtain ⟨rfl, rfl⟩ := hrel
    have ix := index_leg #[.pointer none, .pointer none, .pointer none, .pointer none, .pointer none, .pointer none, .pointer none, .pointer none] 0 (.pointer none) rfl (by omega) wr
    rw [show ((0 : Nat) : Int) = 0 from rfl] at ix
    go_wp2_with (first
      | (go_at_call 158
         go_loud (refine (over_nil _).mono ?_; rintro e X ⟨rfl, hX⟩)
         rw [hX]
         clear hX)
      | fail)
    go_ret
    exact ⟨rfl, HB.out.set 12 _, Fz.set _ c 12 _⟩
end Go.Proofs.YtjpokeakemlffaaGreatDoor
/-
  A connection with one leg, and its wheel: the state; what its parts answer.
-/
namespace Go.Proofs.YtjpokeakemlffaaGreatDoor
open Go.RowKit
structure Cs (w0 w : World) (base wb wm nb : Nat) (S : Nat → Value) (now : Int) (L : List Due) (c sd st rv mp st2 lg fl : Nat) (carr farr : Array Value) : Prop where
  wl : Wl w base wb wm nb S now L
  cn : Bk w c carr 191
  snd : Bk w sd (sndC st) 291
  rcv : Bk w rv (rcvC mp st2) 294
  leg : Bk w lg (legC fl) 211
  flw : Bk w fl farr 283
  ow : ∀ k ∈ [c, sd, rv, lg, fl], ¬ Owns wb wm S k
  nd : [c, sd, rv, lg, fl].Nodup
  below : Below w0.heap.size w0 w
  hb : w0.heap.size ≤ base
  hs : base ≤ w.heap.size
  lo : ∀ k ∈ [c, sd, rv, lg, fl], w0.heap.size ≤ k
section
variable {w0 w w1 : World} {base wb wm nb nb' : Nat} {S S' : Nat → Value} {now now' : Int} {L L' : List Due} {c sd st rv mp st2 lg fl : Nat} {carr farr carr' farr' : Array Value}
theorem Cs.mine (h : Cs w0 w base wb wm nb S now L c sd st rv mp st2 lg fl carr farr) : ∀ k ∈ [c, sd, rv, lg, fl], k < w.heap.size := by
  intro k hk
  simp only [List.mem_cons, List.not_mem_nil, or_false] at hk
  rcases hk with rfl | rfl | rfl | rfl | rfl
  · exact h.cn.lt
  · exact h.snd.lt
  · exact h.rcv.lt
  · exact h.leg.lt
  · exact h.flw.lt
theorem Cs.quiet (h : Cs w0 w base wb wm nb S now L c sd st rv mp st2 lg fl carr farr) (hB : Below w.heap.size w w1) : Cs w0 w1 base wb wm nb S now L c sd st rv mp st2 lg fl carr farr :=
  have F := Fz.below hB (Nat.le_refl _)
  ⟨h.wl.below hB, h.cn.fz F (by simp), h.snd.fz F (by simp), h.rcv.fz F (by simp), h.leg.fz F (by simp), h.flw.fz F (by simp), h.ow, h.nd, h.below.trans (hB.mono h.below.size), h.hb, Nat.le_trans h.hs hB.size, h.lo⟩
theorem Cs.wheel (h : Cs w0 w base wb wm nb S now L c sd st rv mp st2 lg fl carr farr) (hw : Wl w1 base wb wm nb' S' now' L') (hf : Fm w w1 wb wm S S') : Cs w0 w1 base wb wm nb' S' now' L' c sd st rv mp st2 lg fl carr farr := by
  have kb : ∀ k ∈ [c, sd, rv, lg, fl], w1.heap[k]? = w.heap[k]? := fun k hk => hf.other (h.mine k hk) (h.ow k hk)
  refine ⟨hw, ⟨(kb c (by simp)).trans h.cn.eq⟩, ⟨(kb sd (by simp)).trans h.snd.eq⟩, ⟨(kb rv (by simp)).trans h.rcv.eq⟩, ⟨(kb lg (by simp)).trans h.leg.eq⟩, ⟨(kb fl (by simp)).trans h.flw.eq⟩, fun k hk ho => ?_, h.nd, h.below.trans ((h.wl.fmBelow hf h.hs).mono h.hb), h.hb, Nat.le_trans h.hs hf.size, h.lo⟩
  rcases hf.owns ho with h1 | h1
  · exact h.ow k hk h1
  · have := h.mine k hk; omega
theorem Cs.own {l : List Nat} (h : Cs w0 w base wb wm nb S now L c sd st rv mp st2 lg fl carr farr) (F : Fz w w1 (c :: fl :: l)) (hc : Bk w1 c carr' 191) (hf : Bk w1 fl farr' 283) (hl : ∀ k ∈ l, w0.heap.size ≤ k ∧ ¬ Owns wb wm S k ∧ k ∉ [sd, rv, lg]) : Cs w0 w1 base wb wm nb S now L c sd st rv mp st2 lg fl carr' farr' := by
  have nd := h.nd
  simp only [List.nodup_cons, List.mem_cons, List.not_mem_nil, or_false, not_or, not_false_eq_true, List.nodup_nil, and_true] at nd
  obtain ⟨⟨n1, n2, n3, n4⟩, ⟨n5, n6, n7⟩, ⟨n8, n9⟩, n10⟩ := nd
  have hl3 : sd ∉ l ∧ rv ∉ l ∧ lg ∉ l := ⟨fun e => (hl _ e).2.2 (by simp), fun e => (hl _ e).2.2 (by simp), fun e => (hl _ e).2.2 (by simp)⟩
  refine ⟨h.wl.same F.size fun k ho => F.block k (h.wl.lt ho) ?_, hc, h.snd.fz F ?_, h.rcv.fz F ?_, h.leg.fz F ?_, hf, h.ow, h.nd, h.below.trans (F.toBelow h.below.size ?_), h.hb, Nat.le_trans h.hs F.size, h.lo⟩
  · simp only [List.mem_cons, not_or]
    exact ⟨fun e => h.ow c (by simp) (e ▸ ho), fun e => h.ow fl (by simp) (e ▸ ho), fun e => (hl _ e).2.1 ho⟩
  · simp only [List.mem_cons, not_or]
    exact ⟨fun e => n1 e.symm, n7, hl3.1⟩
  · simp only [List.mem_cons, not_or]
    exact ⟨fun e => n2 e.symm, n9, hl3.2.1⟩
  · simp only [List.mem_cons, not_or]
    exact ⟨fun e => n3 e.symm, n10, hl3.2.2⟩
  · intro k hk
    simp only [List.mem_cons] at hk
    rcases hk with rfl | rfl | hk
    · exact h.lo _ (by simp)
    · exact h.lo _ (by simp)
    · exact (hl _ hk).1
end
structure Fw (w w' : World) (b m : Nat) (S S' : Nat → Value) (cs : List Nat) : Prop where
  os : w'.os = w.os
  tape : w'.tape = w.tape
  output : w'.output = w.output
  size : w.heap.size ≤ w'.heap.size
  owns : ∀ k, Owns b m S' k → Owns b m S k ∨ w.heap.size ≤ k
  block : ∀ k, k < w.heap.size → ¬ Owns b m S k → k ∉ cs → w'.heap[k]? = w.heap[k]?
section
variable {w w1 w2 : World} {b m k : Nat} {S S1 S2 : Nat → Value} {cs cs' : List Nat} {arr : Array Value} {ty : TypeId}
theorem Fm.fw (h : Fm w w1 b m S S1) : Fw w w1 b m S S1 [] := ⟨h.os, h.tape, h.output, h.size, fun _ ho => h.owns ho, fun _ hk ho _ => h.other hk ho⟩
theorem Fz.fw (h : Fz w w1 cs) (b m : Nat) (S : Nat → Value) : Fw w w1 b m S S cs := ⟨h.os, h.tape, h.output, h.size, fun _ ho => .inl ho, fun _ hk _ hn => h.block _ hk hn⟩
theorem Fw.trans (h : Fw w w1 b m S S1 cs) (h' : Fw w1 w2 b m S1 S2 cs') : Fw w w2 b m S S2 (cs ++ cs') where
  os := h'.os.trans h.os
  tape := h'.tape.trans h.tape
  output := h'.output.trans h.output
  size := Nat.le_trans h.size h'.size
  owns k ho := by
    rcases h'.owns k ho with h1 | h1
    · exact h.owns k h1
    · exact .inr (Nat.le_trans h.size h1)
  block k hk ho hn := by
    refine (h'.block k (Nat.lt_of_lt_of_le hk h.size) (fun o => ?_) (fun e => hn (by simp [e]))).trans (h.block k hk ho (fun e => hn (by simp [e])))
    rcases h.owns k o with h1 | h1
    · exact ho h1
    · omega
theorem Fw.mono (h : Fw w w1 b m S S1 cs) (hs : ∀ k, k < w.heap.size → k ∈ cs → k ∈ cs') : Fw w w1 b m S S1 cs' := ⟨h.os, h.tape, h.output, h.size, h.owns, fun k hk ho hn => h.block k hk ho fun e => hn (hs k hk e)⟩
theorem Bk.fw (h : Bk w k arr ty) (F : Fw w w1 b m S S1 cs) (ho : ¬ Owns b m S k) (hn : k ∉ cs) : Bk w1 k arr ty := ⟨(F.block k h.lt ho hn).trans h.eq⟩
theorem Fw.free (F : Fw w w1 b m S S1 cs) (hk : k < w.heap.size) (ho : ¬ Owns b m S k) : ¬ Owns b m S1 k := fun o => by
  rcases F.owns k o with h1 | h1
  · exact ho h1
  · omega
end
section
variable {sd st rv mp st2 : Nat}
set_option maxRecDepth 100000 in
theorem done_no (w : World) (h : Bk w sd (sndC st) 291) : Calls Tryz.prog 203 #[.pointer (some ⟨sd, 0, none⟩)] w fun e w' => e = .returned (.bool false) ∧ w' = w := by
  have c6 : w.cell? ⟨sd, 6, none⟩ = some (.bool false) := h.c 6
  clear h
  go_enter Tryz.func203, Tryz.ntmps203
  go_wp2_with fail
  go_ret
  exact ⟨rfl, rfl⟩
set_option maxRecDepth 100000 in
theorem ended_no (w : World) (h : Bk w rv (rcvC mp st2) 294) : Calls Tryz.prog 204 #[.pointer (some ⟨rv, 0, none⟩)] w fun e w' => e = .returned (.bool false) ∧ ∃ n, w' = w.drewN n := by
  have c0 : w.cell? ⟨rv, 0, none⟩ = some (.int .i64 1) := h.c 0
  have c4 : w.cell? ⟨rv, 4, none⟩ = some (.int .i64 0) := h.c 4
  clear h
  go_enter Tryz.func204, Tryz.ntmps204
  go_wp2_with fail
  go_big_quiet (fail)
  go_wp2_with fail
  go_ret
  exact ⟨by first | rfl | simp, _, rfl⟩
set_option maxRecDepth 100000 in
theorem due_no (w : World) (h : Bk w sd (sndC st) 291) : Calls Tryz.prog 266 #[.pointer (some ⟨sd, 0, none⟩)] w fun e w' => e = .returned (.tuple #[.int .i64 0, .bool false]) ∧ ∃ n, w' = w.drewN n := by
  have c5 : w.cell? ⟨sd, 5, none⟩ = some (.bool false) := h.c 5
  clear h
  go_enter Tryz.func266, Tryz.ntmps266
  go_wp2_with fail
  go_big_quiet (fail)
  go_wp2_with fail
  refine bodyPost_ret (results_tmp2 rfl _ _ _) rfl ⟨by first | rfl | simp, _, rfl⟩
set_option maxRecDepth 100000 in
theorem edge_any (w : World) (h : Bk w rv (rcvC mp st2) 294) : Calls Tryz.prog 223 #[.pointer (some ⟨rv, 0, none⟩)] w fun e w' => e = .returned (.int .i64 33) ∧ ∃ n, w' = w.drewN n := by
  have c0 : w.cell? ⟨rv, 0, none⟩ = some (.int .i64 1) := h.c 0
  have c1 : w.cell? ⟨rv, 1, none⟩ = some (.slice none 0 0) := h.c 1
  clear h
  go_enter Tryz.func223, Tryz.ntmps223
  go_wp2_with fail
  go_big_quiet (fail)
  go_wp2_with fail
  go_ret
  exact ⟨by first | rfl | simp, _, rfl⟩
set_option maxRecDepth 100000 in
theorem win_any (w : World) (h : Bk w rv (rcvC mp st2) 294) : Calls Tryz.prog 156 #[.pointer (some ⟨rv, 0, none⟩)] w fun e w' => e = .returned (.int .i64 32) ∧ ∃ n, w' = w.drewN n := by
  have c0 : w.cell? ⟨rv, 0, none⟩ = some (.int .i64 1) := h.c 0
  have EW : Keep (∀ n, Calls Tryz.prog 223 #[.pointer (some ⟨rv, 0, none⟩)] (w.drewN n) fun e w' => e = .returned (.int .i64 33) ∧ ∃ m, w' = (w.drewN n).drewN m) := ⟨fun n => edge_any _ (h.fz (Fz.drew w n) (by simp))⟩
  clear h
  go_enter Tryz.func156, Tryz.ntmps156
  go_wp2_with fail
  go_big_quiet (first | (go_at_call 223; exact Calls.quiet_of (EW.out _)) | fail)
  go_wp2_with fail
  go_ret
  exact ⟨by first | rfl | simp, _, rfl⟩
end
end Go.Proofs.YtjpokeakemlffaaGreatDoor
/-
  A connection that opens: pump, Legs, alone, the end's timer.
-/
namespace Go.Proofs.YtjpokeakemlffaaGreatDoor
open Go.RowKit
abbrev legsA (lg : Nat) : Array Value := #[.pointer (some ⟨lg, 0, none⟩), .pointer none, .pointer none, .pointer none, .pointer none, .pointer none, .pointer none, .pointer none]
theorem legsA_nil {lg j : Nat} (h0 : 0 < j) (h8 : j < 8) : (legsA lg)[j]? = some (.pointer none) := by
  rcases (by omega : j = 1 ∨ j = 2 ∨ j = 3 ∨ j = 4 ∨ j = 5 ∨ j = 6 ∨ j = 7) with rfl | rfl | rfl | rfl | rfl | rfl | rfl <;> rfl
abbrev conD (p1 p2 k : Int) (sd rv pb lg wb : Nat) (out : Value) : Array Value := conC p1 p2 k 0 false 0 0 sd rv pb (.pointer (some ⟨lg, 0, none⟩)) 0 0 wb 1 0 0 false 0 false out false false
section
variable {w0 w : World} {base wb wm nb : Nat} {S : Nat → Value} {now : Int} {L : List Due} {c sd st rv mp st2 lg fl pb q : Nat} {p1 p2 k : Int} {out fout : Value} {times rcv tries at_ since : Int} {has twice : Bool} {farr : Array Value}
set_option maxRecDepth 100000 in
theorem pump_init (tick : Int) (h : Bk w c (conD p1 p2 k sd rv pb lg wb out) 191) : Calls Tryz.prog 205 #[.pointer (some ⟨c, 0, none⟩), .int .i64 tick] w fun e w' => e = .returned (.tuple #[]) ∧ w' = w := by
  have c7 : w.cell? ⟨c, 7, none⟩ = some (.int .i64 0) := h.c 7
  clear h
  go_enter Tryz.func205, Tryz.ntmps205
  go_wp2_with fail
  try simp only [Exit.inBlock, Exit.then]
  refine bodyPost_ret (results_none rfl _ _ _) rfl ⟨rfl, rfl⟩
set_option maxRecDepth 100000 in
set_option maxHeartbeats 1600000 in
theorem legs_one (h : Bk w c (conD p1 p2 k sd rv pb lg wb out) 191) (hl : Bk w lg (legC fl) 211) (hf : Bk w fl (flC q times 1 rcv tries at_ has since twice fout) 283) :
    Calls Tryz.prog 211 #[.pointer (some ⟨c, 0, none⟩)] w fun e w' => e = .returned (.int .i64 1) ∧ w' = w := by
  have l0 : w.cell? ⟨c, 12, none⟩ = some (.pointer (some ⟨lg, 0, none⟩)) := h.c 12
  have l1 : w.cell? ⟨c, 13, none⟩ = some (.pointer none) := h.c 13
  have l2 : w.cell? ⟨c, 14, none⟩ = some (.pointer none) := h.c 14
  have l3 : w.cell? ⟨c, 15, none⟩ = some (.pointer none) := h.c 15
  have l4 : w.cell? ⟨c, 16, none⟩ = some (.pointer none) := h.c 16
  have l5 : w.cell? ⟨c, 17, none⟩ = some (.pointer none) := h.c 17
  have l6 : w.cell? ⟨c, 18, none⟩ = some (.pointer none) := h.c 18
  have l7 : w.cell? ⟨c, 19, none⟩ = some (.pointer none) := h.c 19
  have OV := Keep.mk (over_any lg fl q times 1 rcv tries at_ has since twice fout w hl hf)
  clear h hl hf
  go_enter Tryz.func211, Tryz.ntmps211
  go_wp2_with fail
  clear l0 l1 l2 l3 l4 l5 l6 l7
  go_loopw [3, 12] (fun n i wr => ∃ j : Nat, j ≤ 8 ∧ i = .int .i64 j ∧ n = .int .i64 (if j = 0 then 0 else 1) ∧ wr = w) (fun _ i _ => 8 - (intOf i).toNat)
  case atStart => exact ⟨0, by omega, rfl, rfl, rfl⟩
  case round =>
    obtain ⟨j, hj, rfl, rfl, rfl⟩ := hrel
    rcases Nat.eq_zero_or_pos j with rfl | hpos
    · have ix := index_leg (legsA lg) 0 _ rfl (by omega) wr
      rw [show ((0 : Nat) : Int) = 0 from rfl] at ix
      go_wp2_with (first
        | (go_at_call 158
           go_loud (refine OV.out.mono ?_; rintro e X ⟨rfl, hX⟩)
           rw [hX]
           clear hX)
        | fail)
      go_roundw
      case rel => exact ⟨1, by omega, by go_num, by first | rfl | trivial, by first | rfl | trivial⟩
      case measure => simp [intOf]
    · have hif : (if j = 0 then (0 : Int) else 1) = 1 := if_neg (by omega)
      rcases Nat.lt_or_ge j 8 with hlt | hge
      · have ix := index_leg (legsA lg) j _ (legsA_nil hpos hlt) hlt wr
        have hji : ((j : Nat) : Int) < 8 := by omega
        have HIF := Keep.mk hif
        rw [hif]
        have HP := Keep.mk hpos
        clear hif hpos
        go_wp2_with (first
          | (go_at_call 158
             go_loud (refine (over_nil _).mono ?_; rintro e X ⟨rfl, hX⟩)
             rw [hX]
             clear hX)
          | fail)
        go_roundw
        case rel => exact ⟨j + 1, by omega, by go_num, by rw [if_neg (by omega)], by first | rfl | trivial⟩
        case measure => simp [intOf] <;> omega
      · obtain rfl : j = 8 := by omega
        go_wp2_with fail
        go_ret
        exact ⟨rfl, rfl⟩
set_option maxRecDepth 100000 in
theorem alone_one (tick : Int) (h : Bk w c (conD p1 p2 k sd rv pb lg wb out) 191) (hl : Bk w lg (legC fl) 211) (hf : Bk w fl (flC q times 1 rcv tries at_ has since twice fout) 283) :
    Calls Tryz.prog 208 #[.pointer (some ⟨c, 0, none⟩), .int .i64 tick] w fun e w' => e = .returned (.tuple #[]) ∧ w' = w := by
  have c7 : w.cell? ⟨c, 7, none⟩ = some (.int .i64 0) := h.c 7
  have LG := Keep.mk (legs_one h hl hf)
  clear h hl hf
  go_enter Tryz.func208, Tryz.ntmps208
  go_wp2_with (first
    | (go_at_call 211
       go_loud (refine LG.out.mono ?_; rintro e X ⟨rfl, hX⟩)
       rw [hX]
       clear hX)
    | fail)
  try simp only [Exit.inBlock, Exit.then]
  refine bodyPost_ret (results_none rfl _ _ _) rfl ⟨rfl, rfl⟩
theorem below_dn (w : World) (n : Nat) : Below w.heap.size w (w.drewN n) := ⟨rfl, rfl, rfl, Nat.le_refl _, fun _ _ => rfl⟩
theorem Fm.alloc (w : World) (o : Obj) (b m : Nat) (S : Nat → Value) : Fm w (w.alloc o) b m S S := Fm.quiet ((Below.refl _ w).alloc (Nat.le_refl _) o) b m S
theorem cells_one (w : World) (x : Int) : (w.alloc (.cells #[.int .i64 x] 3)).cell? ⟨w.heap.size, 0, none⟩ = some (.int .i64 x) := by rw [World.cell?_alloc_new]; rfl
set_option maxRecDepth 100000 in
set_option maxHeartbeats 1600000 in
theorem tellend_init (tick : Int) (h : Cs w0 w base wb wm nb S now L c sd st rv mp st2 lg fl (conD p1 p2 k sd rv pb lg wb out) farr) (hn : 0 ≤ now) (hn2 : now < 2305843009213693952) (hL : L.length ≤ 10000) (h8 : tk L 8 = none) :
    Calls Tryz.prog 206 #[.pointer (some ⟨c, 0, none⟩), .int .i64 tick] w fun e w' => e = .returned (.tuple #[]) ∧ ∃ S', Cs w0 w' base wb wm nb S' now (dropH 8 L) c sd st rv mp st2 lg fl (conD p1 p2 k sd rv pb lg wb out) farr ∧ Fm w w' wb wm S S' := by
  have c9 : w.cell? ⟨c, 9, none⟩ = some (.pointer (some ⟨sd, 0, none⟩)) := h.cn.c 9
  have DN := Keep.mk (due_no w h.snd)
  have W8 : Keep (wfI 8) := ⟨wfI_of (by omega) (by omega)⟩
  have HC := Keep.mk h
  have HN : Keep (0 ≤ now ∧ now < 2305843009213693952 ∧ L.length ≤ 10000) := ⟨hn, hn2, hL⟩
  have H8 := Keep.mk h8
  clear h hn hn2 hL h8
  go_enter Tryz.func206, Tryz.ntmps206
  go_wp2_with (first
    | (go_at_call 266
       go_loud (refine DN.out.mono ?_; rintro e w1 ⟨rfl, n1, hw1⟩)
       have C1 := Keep.mk (HC.out.quiet (w1 := w1) (by rw [hw1]; exact below_dn w n1))
       have c22 : w1.cell? ⟨c, 22, none⟩ = some (.pointer (some ⟨wb, 0, none⟩)) := C1.out.cn.c 22
       have AT := Keep.mk (at_wl C1.out.wl W8.out)
       have M1 : Keep (Fm w w1 wb wm S S) := ⟨Fm.quiet (by rw [hw1]; exact below_dn w n1) _ _ _⟩
       clear hw1)
    | (go_at_call 267
       go_loud (refine AT.out.mono ?_; rintro e X ⟨cx, rfl, -, hX⟩)
       rw [hX, H8.out]
       clear hX
       have C2 := Keep.mk (C1.out.quiet ((Below.refl _ w1).alloc (Nat.le_refl _) (.cells #[.int .i64 8] 3)))
       have CW := Keep.mk (cancel_wl (c := 1) C2.out.wl C2.out.hs (by simp) (cells_one w1 8) W8.out HN.out.1 HN.out.2.1 HN.out.2.2))
    | (go_at_call 227
       go_loud (refine CW.out.mono ?_; rintro e w3 ⟨rfl, S', wl3, fm3⟩)
       have C3 := Keep.mk (C2.out.wheel wl3 fm3)
       have M3 := Keep.mk ((M1.out.trans (Fm.alloc w1 _ wb wm S)).trans fm3)
       clear wl3 fm3)
    | fail)
  try simp only [Exit.inBlock, Exit.then]
  refine bodyPost_ret (results_none rfl _ _ _) rfl ⟨rfl, S', C3.out, M3.out⟩
end
end Go.Proofs.YtjpokeakemlffaaGreatDoor
/-
  A connection that opens: what goes with its first segment; flush.
-/
namespace Go.Proofs.YtjpokeakemlffaaGreatDoor
open Go.RowKit
abbrev capO (k : Int) : Array Value := #[.int .i64 1, .int .u64 k, .int .u64 0, .int .u32 0, .int .u32 0, .int .i64 0, .int .i64 0, .bool false, .bool false, .int .i64 0, .bool false, .int .i64 0, .int .i64 0, .bool false]
section
variable {w0 w : World} {base wb wm nb : Nat} {S : Nat → Value} {now : Int} {L : List Due} {c sd st rv mp st2 lg fl pb q : Nat} {p1 p2 k : Int} {out fout : Value} {times state rcv tries at_ since : Int} {has twice : Bool} {farr : Array Value}
set_option maxRecDepth 100000 in
set_option maxHeartbeats 1600000 in
theorem opens_cap (h : Bk w c (conD p1 p2 k sd rv pb lg wb out) 191) (hl : Bk w lg (legC fl) 211) :
    Calls Tryz.prog 322 #[.pointer (some ⟨c, 0, none⟩), .pointer (some ⟨lg, 0, none⟩)] w fun e w' => e = .returned (.agg (capO k)) ∧ Below w.heap.size w w' := by
  have A := Fz.alloc w (.cells #[.int .i64 0, .int .u64 0, .int .u64 0, .int .u32 0, .int .u32 0, .int .i64 0, .int .i64 0, .bool false, .bool false, .int .i64 0, .bool false, .int .i64 0, .int .i64 0, .bool false] 173)
  have d0 := (h.fz A (by simp)).c 0
  have d4 := (hl.fz A (by simp)).c 4
  have c0 : (w.alloc (.cells #[.int .i64 0, .int .u64 0, .int .u64 0, .int .u32 0, .int .u32 0, .int .i64 0, .int .i64 0, .bool false, .bool false, .int .i64 0, .bool false, .int .i64 0, .int .i64 0, .bool false] 173)).cell? ⟨c, 0, none⟩ = some (.int .u64 k) := d0
  have c4 : (w.alloc (.cells #[.int .i64 0, .int .u64 0, .int .u64 0, .int .u32 0, .int .u32 0, .int .i64 0, .int .i64 0, .bool false, .bool false, .int .i64 0, .bool false, .int .i64 0, .int .i64 0, .bool false] 173)).cell? ⟨lg, 4, none⟩ = some (.bool false) := d4
  clear h hl A d0 d4
  go_enter Tryz.func322, Tryz.ntmps322
  go_wp2_with fail
  try simp only [Exit.inBlock, Exit.then]
  exact bodyPost_ret (v := .agg (capO k)) (results_cell_row Tryz.results322 _ _ w.heap.size 173 _ (0, 0) _ rfl (heap_alloc_new _ _) Tryz.underlying173 rfl (by kernel_rfl)) rfl ⟨rfl, (Below.refl _ w).alloc (Nat.le_refl _) _⟩
set_option maxRecDepth 100000 in
set_option maxHeartbeats 1600000 in
theorem with_syn (s : Int) (h : Bk w c (conD p1 p2 k sd rv pb lg wb out) 191) (hl : Bk w lg (legC fl) 211) :
    Calls Tryz.prog 270 #[.pointer (some ⟨c, 0, none⟩), .pointer (some ⟨lg, 0, none⟩), .agg (synO s).toArray] w fun e w' => ∃ g, e = .returned (.slice (some ⟨g, 0, none⟩) 1 1) ∧ w.heap.size ≤ g ∧ Bk w' g (capO k) 173 ∧ Below w.heap.size w w' := by
  have A := Fz.alloc w (.cells (synO s).toArray 334)
  have OC := Keep.mk (opens_cap (h.fz A (by simp)) (hl.fz A (by simp)))
  have HB := Keep.mk ((Below.refl _ w).alloc (Nat.le_refl _) (.cells (synO s).toArray 334))
  clear h hl A
  go_enter Tryz.func270, Tryz.ntmps270
  go_wp2_with (first
    | (go_at_call 322
       go_loud (refine OC.out.mono ?_; rintro e w1 ⟨rfl, hb1⟩)
       have B1 := Keep.mk (HB.out.trans (hb1.mono HB.out.size))
       clear hb1)
    | fail)
  go_ret
  exact ⟨w1.heap.size, rfl, B1.out.size, Bk.new w1 _ _, B1.out.alloc B1.out.size _⟩
set_option maxRecDepth 100000 in
theorem fout_any (h : Bk w fl (flC q times state rcv tries at_ has since twice fout) 283) (A : Option Addr) (n cc : Nat) (hv : fout = .slice A n cc) :
    Calls Tryz.prog 235 #[.pointer (some ⟨fl, 0, none⟩)] w fun e w' => e = .returned (.slice A n cc) ∧ Bk w' fl (flC q times state rcv tries at_ has since twice (.slice none 0 0)) 283 ∧ Fz w w' [fl] := by
  subst hv
  have c12 : w.cell? ⟨fl, 12, none⟩ = some (.slice A n cc) := h.c 12
  have f12 := h.free 12
  have HB := Keep.mk h
  clear h
  go_enter Tryz.func235, Tryz.ntmps235
  go_wp2_with fail
  go_ret
  exact ⟨rfl, HB.out.set 12 _, Fz.set _ fl 12 _⟩
end
end Go.Proofs.YtjpokeakemlffaaGreatDoor
/-
  A connection that opens: flush.
-/
namespace Go.Proofs.YtjpokeakemlffaaGreatDoor
open Go.RowKit
theorem infoSeg : (Tryz.prog.info? 132).map (fun i => (i.zero, i.size, i.bytes)) = some (some (.agg #[.int .i64 0, .int .i64 0, .int .i64 0, .int .i64 0, .int .u32 0, .int .u32 0, .bool false, .bool false, .bool false, .bool false, .int .i64 0, .slice none 0 0, .slice none 0 0]), 13, 104) := by kernel_rfl
abbrev segS (p1 p2 s : Int) (go : Nat) : List Value := [.int .i64 0, .int .i64 1, .int .i64 p1, .int .i64 p2, .int .u32 s, .int .u32 0, .bool true, .bool false, .bool false, .bool false, .int .i64 32, .slice (some ⟨go, 0, none⟩) 1 1, .slice none 0 0]
theorem step_store_row {P : Program} {w : World} {ops : Array Oper} {o : Oper} {a : Act} {K : Act → World → Prop} {Q : Exit → Act → World → Prop} {E : Prop} (hw : Region.wanted o (yielded ops a.tmps) = true) (ty : TypeId) (x y : Operand) (ho : o.op = .store ty x y)
    (g : Nat) (cells : Array Value) (hx : a.eval x = .pointer (some ⟨g, 0, none⟩)) (hy : a.eval y = .agg cells)
    (t : TypeId) (old : Array Value) (hg : w.heap[g]? = some (.cells old t (0, 0))) (hi : (P.info? ty).map (·.size) = some cells.size)
    (hold : old.size = cells.size) (h1 : cells.all (·.oneCell') = true)
    (h : K (a.put o.dst undef) (w.setRow g cells)) : if Region.wanted o (yielded ops a.tmps) = true then Oper.wp P o a w K Q else E := by
  rw [if_pos hw]
  exact Go.wp_store_row ty x y ho g cells hx hy t old hg hi hold h1 h
abbrev zeroS : Array Value := #[.int .i64 0, .int .i64 0, .int .i64 0, .int .i64 0, .int .u32 0, .int .u32 0, .bool false, .bool false, .bool false, .bool false, .int .i64 0, .slice none 0 0, .slice none 0 0]
abbrev segZ (p1 p2 s : Int) : Array Value := #[.int .i64 0, .int .i64 1, .int .i64 p1, .int .i64 p2, .int .u32 s, .int .u32 0, .bool true, .bool false, .bool false, .bool false, .int .i64 32, .slice none 0 0, .slice none 0 0]
structure Outs (w : World) (lo : Nat) (p1 p2 k s : Int) (ov : Value) (gos : List Nat) : Prop where
  row : w.ownsRow lo 132 13 ov gos.length (gos.flatMap (segS p1 p2 s))
  opt : ∀ go ∈ gos, Bk w go (capO k) 173
theorem Outs.lt {w : World} {lo : Nat} {p1 p2 k s : Int} {ov : Value} {gos : List Nat} (h : Outs w lo p1 p2 k s ov gos) {kb : Nat} (e : ov.ownBlock = some kb) : lo ≤ kb ∧ kb < w.heap.size :=
  let ⟨h1, _, h2⟩ := own_ty h.row e; ⟨h1, h2.lt⟩
theorem Outs.ne {w : World} {lo b : Nat} {p1 p2 k s : Int} {ov : Value} {gos : List Nat} {arr : Array Value} {ty : TypeId} (h : Outs w lo p1 p2 k s ov gos) (hb : Bk w b arr ty) (ht : 132 ≠ ty) {kb : Nat} (e : ov.ownBlock = some kb) : kb ≠ b :=
  let ⟨_, _, h2⟩ := own_ty h.row e; h2.ne_ty hb ht
theorem Outs.nil (w : World) (lo : Nat) (p1 p2 k s : Int) : Outs w lo p1 p2 k s (.slice none 0 0) [] := ⟨World.ownsRow_nil _ _ _ _, fun _ h => by cases h⟩
theorem Outs.keep {w w' : World} {lo : Nat} {p1 p2 k s : Int} {ov : Value} {gos : List Nat} (h : Outs w lo p1 p2 k s ov gos) (hk : ∀ kb, (ov.ownBlock = some kb ∨ kb ∈ gos) → w'.heap[kb]? = w.heap[kb]?) : Outs w' lo p1 p2 k s ov gos :=
  ⟨own_blockW h.row (w' := w') (fun kb e => hk kb (.inl e)), fun go hg => ⟨(hk go (.inr hg)).trans (h.opt go hg).eq⟩⟩
theorem Outs.lt' {w : World} {lo : Nat} {p1 p2 k s : Int} {ov : Value} {gos : List Nat} (h : Outs w lo p1 p2 k s ov gos) {kb : Nat} (e : ov.ownBlock = some kb ∨ kb ∈ gos) : kb < w.heap.size :=
  e.elim (fun e => (h.lt e).2) (fun e => (h.opt kb e).lt)
theorem Outs.ne' {w : World} {lo b : Nat} {p1 p2 k s : Int} {ov : Value} {gos : List Nat} {arr : Array Value} {ty : TypeId} (h : Outs w lo p1 p2 k s ov gos) (hb : Bk w b arr ty) (ht : 132 ≠ ty) (ht2 : 173 ≠ ty) {kb : Nat} (e : ov.ownBlock = some kb ∨ kb ∈ gos) : kb ≠ b :=
  e.elim (fun e => h.ne hb ht e) (fun e => (h.opt kb e).ne_ty hb ht2)
theorem Outs.fw {w w' : World} {lo b m : Nat} {S S' : Nat → Value} {cs : List Nat} {p1 p2 k s : Int} {ov : Value} {gos : List Nat} (h : Outs w lo p1 p2 k s ov gos) (F : Fw w w' b m S S' cs) (hk : ∀ kb, (ov.ownBlock = some kb ∨ kb ∈ gos) → ¬ Owns b m S kb ∧ kb ∉ cs) : Outs w' lo p1 p2 k s ov gos :=
  h.keep fun kb e => F.block kb (h.lt' e) (hk kb e).1 (hk kb e).2
theorem Outs.one {w : World} {lo : Nat} {p1 p2 k s : Int} {ov : Value} {go : Nat} (h : Outs w lo p1 p2 k s ov [go]) : ∃ g cc, ov = .slice (some ⟨g, 0, none⟩) 1 cc ∧ lo ≤ g ∧ g < w.heap.size ∧ ∀ j u, (segS p1 p2 s go)[j]? = some u → w.cell? ⟨g, j, none⟩ = some u := by
  rcases h.row.2 with ⟨_, e⟩ | ⟨g, cap, cur, rfl, hb, hg, hnc, hcm, hcs, htake⟩
  · cases e
  · refine ⟨g, cap, rfl, hb, lt_of_block hg, fun j u hu => ?_⟩
    have hj : j < 13 := by have := (List.getElem?_eq_some_iff.1 hu).1; simpa using this
    rw [cell_of_row w g j cur _ (0, 0) hg, ← Array.getElem?_toList]
    rw [show segS p1 p2 s go = [go].flatMap (segS p1 p2 s) by simp, ← htake, List.getElem?_take_of_lt (by simp; omega)] at hu
    exact hu
structure Flu (w w' : World) (lo c fl : Nat) (p1 p2 k s : Int) (sd rv pb lg wb : Nat) (farr : Array Value) (ov ov' : Value) (gos gos' : List Nat) : Prop where
  cn : Bk w' c (conD p1 p2 k sd rv pb lg wb ov') 191
  flw : Bk w' fl farr 283
  outs : Outs w' lo p1 p2 k s ov' gos'
  old : ∀ go ∈ gos', go ∈ gos ∨ w.heap.size ≤ go
  blk : ∀ kb, ov'.ownBlock = some kb → ov.ownBlock = some kb ∨ w.heap.size ≤ kb
  fz : Fz w w' (c :: fl :: ov.ownBlock.toList)
section
variable {w0 w : World} {lo c sd st rv mp st2 lg fl pb q wb g0 c0 : Nat} {ov : Value} {gos : List Nat} {p1 p2 k : Int} {times rcv tries at_ since : Int} {has twice : Bool}
set_option maxRecDepth 100000 in
set_option maxHeartbeats 6400000 in
theorem flush_syn (s : Int) (h : Bk w c (conD p1 p2 k sd rv pb lg wb ov) 191) (hl : Bk w lg (legC fl) 211) (hr : Bk w rv (rcvC mp st2) 294) (hf : Bk w fl (flC q times 1 rcv tries at_ has since twice (.slice (some ⟨g0, 0, none⟩) 1 c0)) 283)
    (hg : g0 < w.heap.size) (ho : ∀ j u, (synO s)[j]? = some u → w.cell? ⟨g0, j, none⟩ = some u) (nd : [c, rv, lg, fl].Nodup) (hgf : g0 ≠ fl) (hov : Outs w lo p1 p2 k s ov gos) (hlo : lo ≤ w.heap.size) (hgl : gos.length ≤ 1000) :
    Calls Tryz.prog 207 #[.pointer (some ⟨c, 0, none⟩), .pointer (some ⟨lg, 0, none⟩), .slice none 0 0] w fun e w' => e = .returned (.tuple #[]) ∧ ∃ ov' go, Flu w w' lo c fl p1 p2 k s sd rv pb lg wb (flC q times 1 rcv tries at_ has since twice (.slice none 0 0)) ov ov' gos (gos ++ [go]) := by
  have nd' := nd
  simp only [List.nodup_cons, List.mem_cons, List.not_mem_nil, or_false, not_or, not_false_eq_true, List.nodup_nil, and_true] at nd'
  obtain ⟨⟨n1, n2, n3⟩, ⟨n4, n5⟩, n6⟩ := nd'
  have HND : Keep ((c ≠ rv ∧ c ≠ lg ∧ c ≠ fl) ∧ (rv ≠ lg ∧ rv ≠ fl) ∧ lg ≠ fl ∧ g0 ≠ fl) := ⟨⟨n1, n2, n3⟩, ⟨n4, n5⟩, n6, hgf⟩
  have c0l : w.cell? ⟨lg, 0, none⟩ = some (.pointer (some ⟨fl, 0, none⟩)) := hl.c 0
  have FO := Keep.mk (fout_any hf (some ⟨g0, 0, none⟩) 1 c0 rfl)
  have HC := Keep.mk h
  have HL := Keep.mk hl
  have HR := Keep.mk hr
  have HG := Keep.mk hg
  have HO := Lib.hid ho
  have HOV : Keep (∀ kb, ov.ownBlock = some kb → lo ≤ kb ∧ kb < w.heap.size ∧ kb ≠ c ∧ kb ≠ fl) := ⟨fun kb e => ⟨(hov.lt e).1, (hov.lt e).2, hov.ne h (by decide) e, hov.ne hf (by decide) e⟩⟩
  have HOW := Keep.mk hov
  have HLO : Keep (lo ≤ w.heap.size ∧ gos.length ≤ 1000) := ⟨hlo, hgl⟩
  have HGT : Keep (∀ go ∈ gos, go ≠ c ∧ go ≠ fl ∧ go ∉ ov.ownBlock.toList) := ⟨fun go hgo => ⟨(hov.opt go hgo).ne_ty h (by decide), (hov.opt go hgo).ne_ty hf (by decide), fun e => hov.ne (hov.opt go hgo) (by decide) (by simpa using e) rfl⟩⟩
  clear h hl hr hf hg ho nd hgf hov hlo hgl n1 n2 n3 n4 n5 n6
  go_enter Tryz.func207, Tryz.ntmps207
  go_wp2_with (first
    | (go_at_call 235
       go_loud (refine FO.out.mono ?_; rintro e w1 ⟨rfl, f1, e1⟩)
       have C1 := Keep.mk (HC.out.fz e1 (by simp; exact HND.out.1.2.2))
       have L1 := Keep.mk (HL.out.fz e1 (by simp; exact HND.out.2.2.1))
       have R1 := Keep.mk (HR.out.fz e1 (by simp; exact HND.out.2.1.2))
       have G1 : Keep (∀ j u, (synO s)[j]? = some u → w1.cell? ⟨g0, j, none⟩ = some u) := ⟨fun j u hu => (World.cell?_of_block (e1.block g0 HG.out (by simp; exact HND.out.2.2.2))).trans (HO.out j u hu)⟩
       have F1 := Keep.mk f1
       have E1 := Keep.mk e1
       clear f1 e1)
    | fail)
  clear c0l
  go_loopw [17] (fun i wr => (i = .int .i64 0 ∧ wr = w1) ∨ (i = .int .i64 1 ∧ Keep (∃ ov' go, Flu w wr lo c fl p1 p2 k s sd rv pb lg wb (flC q times 1 rcv tries at_ has since twice (.slice none 0 0)) ov ov' gos (gos ++ [go])))) (fun i _ => 1 - (intOf i).toNat)
  case atStart => exact .inl ⟨rfl, rfl⟩
  case round =>
    rcases hrel with ⟨rfl, rfl⟩ | ⟨rfl, HP⟩
    · have o0 : wr.cell? ⟨g0, 0, none⟩ = some (.int .u32 s) := G1.out 0 _ rfl
      have o1 : wr.cell? ⟨g0, 1, none⟩ = some (.bool true) := G1.out 1 _ rfl
      have o2 : wr.cell? ⟨g0, 2, none⟩ = some (.bool false) := G1.out 2 _ rfl
      have o3 : wr.cell? ⟨g0, 3, none⟩ = some (.slice none 0 0) := G1.out 3 _ rfl
      have o4 : wr.cell? ⟨g0, 4, none⟩ = some (.int .i64 0) := G1.out 4 _ rfl
      have o5 : wr.cell? ⟨g0, 5, none⟩ = some (.bool false) := G1.out 5 _ rfl
      have o6 : wr.cell? ⟨g0, 6, none⟩ = some (.int .u32 0) := G1.out 6 _ rfl
      have o7 : wr.cell? ⟨g0, 7, none⟩ = some (.bool false) := G1.out 7 _ rfl
      have o8 : wr.cell? ⟨g0, 8, none⟩ = some (.bool false) := G1.out 8 _ rfl
      go_wp2_with fail
      obtain ⟨W, hW⟩ : ∃ W, wr.alloc (.cells #[.int .u32 s, .bool true, .bool false, .slice none 0 0, .int .i64 0, .bool false, .int .u32 0, .bool false, .bool false] 334) = W := ⟨_, rfl⟩
      have A0 : Fz wr W [] := hW ▸ Fz.alloc wr _
      have O2 : Keep (Bk W wr.heap.size (synO s).toArray 334) := ⟨hW ▸ Bk.new wr _ _⟩
      have C2 := Keep.mk (C1.out.fz A0 (by simp))
      have L2 := Keep.mk (L1.out.fz A0 (by simp))
      have R2 := Keep.mk (R1.out.fz A0 (by simp))
      have F2 := Keep.mk (F1.out.fz A0 (by simp))
      have E2 : Keep (Fz w W [fl]) := ⟨(E1.out.trans A0).mono (by simp)⟩
      have HS2 : Keep (wr.heap.size < W.heap.size) := ⟨O2.out.lt⟩
      rw [hW]
      clear hW A0 o0 o1 o2 o3 o4 o5 o6 o7 o8
      have AZ := (Fz.alloc W (.cells zeroS 132)).trans (Fz.drew _ 1)
      have O2b := Keep.mk (O2.out.fz AZ (by simp))
      have C2b := Keep.mk (C2.out.fz AZ (by simp))
      have L2b := Keep.mk (L2.out.fz AZ (by simp))
      have F2b := Keep.mk (F2.out.fz AZ (by simp))
      have Z2b := Keep.mk ((Bk.new W zeroS 132).fz (Fz.drew _ 1) (by simp))
      have E2b : Keep (Fz W (W.alloc (.cells zeroS 132)).drew []) := ⟨AZ.mono (by simp)⟩
      have WA := Keep.mk (win_any W.drew (R2.out.fz (Fz.drew _ 1) (by simp)))
      have WB := Keep.mk (win_any (W.alloc (.cells zeroS 132)).drew (R2.out.fz AZ (by simp)))
      have HON : Keep ((segZ p1 p2 s).all (fun x => x.oneCell') = true) := ⟨by simp [Value.oneCell']⟩
      clear AZ
      -- reg flush4
      refine wp_region_noPanic ?_
      refine wp_region_held_drew (S := fun X => X.cell? ⟨lg, 1, none⟩ = some (.int .i64 0) ∧ X.cell? ⟨lg, 2, none⟩ = some (.int .i64 1) ∧ X.cell? ⟨c, 5, none⟩ = some (.int .i64 p1) ∧ X.cell? ⟨c, 6, none⟩ = some (.int .i64 p2) ∧ X.cell? ⟨c, 10, none⟩ = some (.pointer (some ⟨rv, 0, none⟩)) ∧ X.cell? ⟨wr.heap.size, 0, none⟩ = some (.int .u32 s) ∧ X.cell? ⟨wr.heap.size, 1, none⟩ = some (.bool true) ∧ X.cell? ⟨wr.heap.size, 2, none⟩ = some (.bool false) ∧ X.cell? ⟨wr.heap.size, 3, none⟩ = some (.slice none 0 0) ∧ X.cell? ⟨wr.heap.size, 4, none⟩ = some (.int .i64 0) ∧ X.cell? ⟨wr.heap.size, 5, none⟩ = some (.bool false) ∧ X.cell? ⟨wr.heap.size, 6, none⟩ = some (.int .u32 0) ∧ X.cell? ⟨wr.heap.size, 7, none⟩ = some (.bool false) ∧ X.cell? ⟨wr.heap.size, 8, none⟩ = some (.bool false)) (by kernel_rfl) ⟨L2.out.c 1, L2.out.c 2, C2.out.c 5, C2.out.c 6, C2.out.c 10, O2.out.c 0, O2.out.c 1, O2.out.c 2, O2.out.c 3, O2.out.c 4, O2.out.c 5, O2.out.c 6, O2.out.c 7, O2.out.c 8⟩ (fun hHeld => ?_)
      refine wpAnyH_take (i := 0) (v := ?_) rfl (by kernel_rfl) (by kernel_rfl) (by kernel_rfl) (fun _ _ _ h => h) (Or.inl ⟨by rfl, ?_⟩) (by assumption) ?_
      rotate_left
      · intro w hSw; go_simp; (try with_reducible rfl)
      try simp only [Act.put, List.setIfInBounds_toArray, List.set_cons_zero, List.set_cons_succ, List.getElem_toArray, List.getElem_cons_zero, List.getElem_cons_succ]
      refine wpAnyH_take (i := 1) (v := ?_) rfl (by kernel_rfl) (by kernel_rfl) (by kernel_rfl) (fun _ _ _ h => h) (Or.inl ⟨by rfl, ?_⟩) (by assumption) ?_
      rotate_left
      · intro w hSw; go_simp; (try with_reducible rfl)
      try simp only [Act.put, List.setIfInBounds_toArray, List.set_cons_zero, List.set_cons_succ, List.getElem_toArray, List.getElem_cons_zero, List.getElem_cons_succ]
      refine wpAnyH_take (i := 2) (v := ?_) rfl (by kernel_rfl) (by kernel_rfl) (by kernel_rfl) (fun _ _ _ h => h) (Or.inl ⟨by rfl, ?_⟩) (by assumption) ?_
      rotate_left
      · intro w hSw; go_simp; (try with_reducible rfl)
      try simp only [Act.put, List.setIfInBounds_toArray, List.set_cons_zero, List.set_cons_succ, List.getElem_toArray, List.getElem_cons_zero, List.getElem_cons_succ]
      refine wpAnyH_take (i := 3) (v := ?_) rfl (by kernel_rfl) (by kernel_rfl) (by kernel_rfl) (fun _ _ _ h => h) (Or.inl ⟨by rfl, ?_⟩) (by assumption) ?_
      rotate_left
      · intro w hSw; go_simp; (try with_reducible rfl)
      try simp only [Act.put, List.setIfInBounds_toArray, List.set_cons_zero, List.set_cons_succ, List.getElem_toArray, List.getElem_cons_zero, List.getElem_cons_succ]
      refine wpAnyH_take (i := 4) (v := ?_) rfl (by kernel_rfl) (by kernel_rfl) (by kernel_rfl) (fun _ _ _ h => h) (Or.inl ⟨by rfl, ?_⟩) (by assumption) ?_
      rotate_left
      · intro w hSw; go_simp; (try with_reducible rfl)
      try simp only [Act.put, List.setIfInBounds_toArray, List.set_cons_zero, List.set_cons_succ, List.getElem_toArray, List.getElem_cons_zero, List.getElem_cons_succ]
      refine wpAnyH_take (i := 5) (v := ?_) rfl (by kernel_rfl) (by kernel_rfl) (by kernel_rfl) (fun _ _ _ h => h) (Or.inl ⟨by rfl, ?_⟩) (by assumption) ?_
      rotate_left
      · intro w hSw; go_simp; (try with_reducible rfl)
      try simp only [Act.put, List.setIfInBounds_toArray, List.set_cons_zero, List.set_cons_succ, List.getElem_toArray, List.getElem_cons_zero, List.getElem_cons_succ]
      refine wpAnyH_take (i := 6) (v := ?_) rfl (by kernel_rfl) (by kernel_rfl) (by kernel_rfl) (fun _ _ _ h => h) (Or.inl ⟨by rfl, ?_⟩) (by assumption) ?_
      rotate_left
      · intro w hSw; go_simp; (try with_reducible rfl)
      try simp only [Act.put, List.setIfInBounds_toArray, List.set_cons_zero, List.set_cons_succ, List.getElem_toArray, List.getElem_cons_zero, List.getElem_cons_succ]
      refine wpAnyH_take (i := 7) (v := ?_) rfl (by kernel_rfl) (by kernel_rfl) (by kernel_rfl) (fun _ _ _ h => h) (Or.inl ⟨by rfl, ?_⟩) (by assumption) ?_
      rotate_left
      · intro w hSw; go_simp; (try with_reducible rfl)
      try simp only [Act.put, List.setIfInBounds_toArray, List.set_cons_zero, List.set_cons_succ, List.getElem_toArray, List.getElem_cons_zero, List.getElem_cons_succ]
      refine wpAnyH_take (i := 8) (v := ?_) rfl (by kernel_rfl) (by kernel_rfl) (by kernel_rfl) (fun _ _ _ h => h) (Or.inl ⟨by rfl, ?_⟩) (by assumption) ?_
      rotate_left
      · intro w hSw; go_simp; (try with_reducible rfl)
      try simp only [Act.put, List.setIfInBounds_toArray, List.set_cons_zero, List.set_cons_succ, List.getElem_toArray, List.getElem_cons_zero, List.getElem_cons_succ]
      refine wpAnyH_take (i := 9) (v := ?_) rfl (by kernel_rfl) (by kernel_rfl) (by kernel_rfl) (fun _ _ _ h => h) (Or.inl ⟨by rfl, ?_⟩) (by assumption) ?_
      rotate_left
      · intro w hSw; go_simp; (try with_reducible rfl)
      try simp only [Act.put, List.setIfInBounds_toArray, List.set_cons_zero, List.set_cons_succ, List.getElem_toArray, List.getElem_cons_zero, List.getElem_cons_succ]
      refine wpAnyH_take (i := 10) (v := ?_) rfl (by kernel_rfl) (by kernel_rfl) (by kernel_rfl) (fun _ _ _ h => h) (Or.inl ⟨by rfl, ?_⟩) (by assumption) ?_
      rotate_left
      · intro w hSw; go_simp; (try with_reducible rfl)
      try simp only [Act.put, List.setIfInBounds_toArray, List.set_cons_zero, List.set_cons_succ, List.getElem_toArray, List.getElem_cons_zero, List.getElem_cons_succ]
      refine wpAnyH_take (i := 11) (v := ?_) rfl (by kernel_rfl) (by kernel_rfl) (by kernel_rfl) (fun _ _ _ h => h) (Or.inl ⟨by rfl, ?_⟩) (by assumption) ?_
      rotate_left
      · intro w hSw; go_simp; (try with_reducible rfl)
      try simp only [Act.put, List.setIfInBounds_toArray, List.set_cons_zero, List.set_cons_succ, List.getElem_toArray, List.getElem_cons_zero, List.getElem_cons_succ]
      refine wpAnyH_take (i := 12) (v := ?_) rfl (by kernel_rfl) (by kernel_rfl) (by kernel_rfl) (fun _ _ _ h => h) (Or.inl ⟨by rfl, ?_⟩) (by assumption) ?_
      rotate_left
      · intro w hSw; go_simp; (try with_reducible rfl)
      try simp only [Act.put, List.setIfInBounds_toArray, List.set_cons_zero, List.set_cons_succ, List.getElem_toArray, List.getElem_cons_zero, List.getElem_cons_succ]
      refine wpAnyH_take (i := 13) (v := ?_) rfl (by kernel_rfl) (by kernel_rfl) (by kernel_rfl) (fun _ _ _ h => h) (Or.inl ⟨by rfl, ?_⟩) (by assumption) ?_
      rotate_left
      · intro w hSw; go_simp; (try with_reducible rfl)
      try simp only [Act.put, List.setIfInBounds_toArray, List.set_cons_zero, List.set_cons_succ, List.getElem_toArray, List.getElem_cons_zero, List.getElem_cons_succ]
      refine wpAnyH_take (i := 14) (v := ?_) rfl (by kernel_rfl) (by kernel_rfl) (by kernel_rfl) (fun _ _ _ h => h) (Or.inl ⟨by rfl, ?_⟩) (by assumption) ?_
      rotate_left
      · intro w hSw; go_simp; (try with_reducible rfl)
      try simp only [Act.put, List.setIfInBounds_toArray, List.set_cons_zero, List.set_cons_succ, List.getElem_toArray, List.getElem_cons_zero, List.getElem_cons_succ]
      refine wpAnyH_take (i := 15) (v := ?_) rfl (by kernel_rfl) (by kernel_rfl) (by kernel_rfl) (fun _ _ _ h => h) (Or.inl ⟨by rfl, ?_⟩) (by assumption) ?_
      rotate_left
      · intro w hSw; go_simp; (try with_reducible rfl)
      try simp only [Act.put, List.setIfInBounds_toArray, List.set_cons_zero, List.set_cons_succ, List.getElem_toArray, List.getElem_cons_zero, List.getElem_cons_succ]
      refine wpAnyH_take (i := 16) (v := ?_) rfl (by kernel_rfl) (by kernel_rfl) (by kernel_rfl) (fun _ _ _ h => h) (Or.inl ⟨by rfl, ?_⟩) (by assumption) ?_
      rotate_left
      · intro w hSw; go_simp; (try with_reducible rfl)
      try simp only [Act.put, List.setIfInBounds_toArray, List.set_cons_zero, List.set_cons_succ, List.getElem_toArray, List.getElem_cons_zero, List.getElem_cons_succ]
      refine wpAnyH_take (i := 17) (v := ?_) rfl (by kernel_rfl) (by kernel_rfl) (by kernel_rfl) (fun _ _ _ h => h) (Or.inl ⟨by rfl, ?_⟩) (by assumption) ?_
      rotate_left
      · intro w hSw; go_simp; (try with_reducible rfl)
      try simp only [Act.put, List.setIfInBounds_toArray, List.set_cons_zero, List.set_cons_succ, List.getElem_toArray, List.getElem_cons_zero, List.getElem_cons_succ]
      refine wpAnyH_take (i := 18) (v := ?_) rfl (by kernel_rfl) (by kernel_rfl) (by kernel_rfl) (fun _ _ _ h => h) (Or.inl ⟨by rfl, ?_⟩) (by assumption) ?_
      rotate_left
      · intro w hSw; go_simp; (try with_reducible rfl)
      try simp only [Act.put, List.setIfInBounds_toArray, List.set_cons_zero, List.set_cons_succ, List.getElem_toArray, List.getElem_cons_zero, List.getElem_cons_succ]
      refine wpAnyH_take (i := 19) (v := ?_) rfl (by kernel_rfl) (by kernel_rfl) (by kernel_rfl) (fun _ _ _ h => h) (Or.inl ⟨by rfl, ?_⟩) (by assumption) ?_
      rotate_left
      · intro w hSw; go_simp; (try with_reducible rfl)
      try simp only [Act.put, List.setIfInBounds_toArray, List.set_cons_zero, List.set_cons_succ, List.getElem_toArray, List.getElem_cons_zero, List.getElem_cons_succ]
      refine wpAnyH_take (i := 20) (v := ?_) rfl (by kernel_rfl) (by kernel_rfl) (by kernel_rfl) (fun _ _ _ h => h) (Or.inl ⟨by rfl, ?_⟩) (by assumption) ?_
      rotate_left
      · intro w hSw; go_simp; (try with_reducible rfl)
      try simp only [Act.put, List.setIfInBounds_toArray, List.set_cons_zero, List.set_cons_succ, List.getElem_toArray, List.getElem_cons_zero, List.getElem_cons_succ]
      refine wpAnyH_take (i := 21) (v := ?_) rfl (by kernel_rfl) (by kernel_rfl) (by kernel_rfl) (fun _ _ _ h => h) (Or.inl ⟨by rfl, ?_⟩) (by assumption) ?_
      rotate_left
      · intro w hSw; go_simp; (try with_reducible rfl)
      try simp only [Act.put, List.setIfInBounds_toArray, List.set_cons_zero, List.set_cons_succ, List.getElem_toArray, List.getElem_cons_zero, List.getElem_cons_succ]
      refine wpAnyH_take (i := 22) (v := ?_) rfl (by kernel_rfl) (by kernel_rfl) (by kernel_rfl) (fun _ _ _ h => h) (Or.inl ⟨by rfl, ?_⟩) (by assumption) ?_
      rotate_left
      · intro w hSw; go_simp; (try with_reducible rfl)
      try simp only [Act.put, List.setIfInBounds_toArray, List.set_cons_zero, List.set_cons_succ, List.getElem_toArray, List.getElem_cons_zero, List.getElem_cons_succ]
      refine wpAnyH_take (i := 23) (v := ?_) rfl (by kernel_rfl) (by kernel_rfl) (by kernel_rfl) (fun _ _ _ h => h) (Or.inl ⟨by rfl, ?_⟩) (by assumption) ?_
      rotate_left
      · intro w hSw; go_simp; (try with_reducible rfl)
      try simp only [Act.put, List.setIfInBounds_toArray, List.set_cons_zero, List.set_cons_succ, List.getElem_toArray, List.getElem_cons_zero, List.getElem_cons_succ]
      refine wpAnyH_take (i := 24) (v := ?_) rfl (by kernel_rfl) (by kernel_rfl) (by kernel_rfl) (fun _ _ _ h => h) (Or.inl ⟨by rfl, ?_⟩) (by assumption) ?_
      rotate_left
      · intro w hSw; go_simp; (try with_reducible rfl)
      try simp only [Act.put, List.setIfInBounds_toArray, List.set_cons_zero, List.set_cons_succ, List.getElem_toArray, List.getElem_cons_zero, List.getElem_cons_succ]
      refine wpAnyH_take (i := 25) (v := ?_) rfl (by kernel_rfl) (by kernel_rfl) (by kernel_rfl) (fun _ _ _ h => h) (Or.inl ⟨by rfl, ?_⟩) (by assumption) ?_
      rotate_left
      · intro w hSw; go_simp; (try with_reducible rfl)
      try simp only [Act.put, List.setIfInBounds_toArray, List.set_cons_zero, List.set_cons_succ, List.getElem_toArray, List.getElem_cons_zero, List.getElem_cons_succ]
      refine wpAnyH_take (i := 26) (v := ?_) rfl (by kernel_rfl) (by kernel_rfl) (by kernel_rfl) (fun _ _ _ h => h) (Or.inl ⟨by rfl, ?_⟩) (by assumption) ?_
      rotate_left
      · intro w hSw; go_simp; (try with_reducible rfl)
      try simp only [Act.put, List.setIfInBounds_toArray, List.set_cons_zero, List.set_cons_succ, List.getElem_toArray, List.getElem_cons_zero, List.getElem_cons_succ]
      refine wpAnyH_take (i := 27) (v := ?_) rfl (by kernel_rfl) (by kernel_rfl) (by kernel_rfl) (fun _ _ _ h => h) (Or.inl ⟨by rfl, ?_⟩) (by assumption) ?_
      rotate_left
      · intro w hSw; go_simp; (try with_reducible rfl)
      try simp only [Act.put, List.setIfInBounds_toArray, List.set_cons_zero, List.set_cons_succ, List.getElem_toArray, List.getElem_cons_zero, List.getElem_cons_succ]
      refine wpAnyH_take (i := 28) (v := ?_) rfl (by kernel_rfl) (by kernel_rfl) (by kernel_rfl) (fun _ _ _ h => h) (Or.inl ⟨by rfl, ?_⟩) (by assumption) ?_
      rotate_left
      · intro w hSw; go_simp; (try with_reducible rfl)
      try simp only [Act.put, List.setIfInBounds_toArray, List.set_cons_zero, List.set_cons_succ, List.getElem_toArray, List.getElem_cons_zero, List.getElem_cons_succ]
      refine wpAnyH_take (i := 29) (v := ?_) rfl (by kernel_rfl) (by kernel_rfl) (by kernel_rfl) (fun _ _ _ h => h) (Or.inl ⟨by rfl, ?_⟩) (by assumption) ?_
      rotate_left
      · intro w hSw; go_simp; (try with_reducible rfl)
      try simp only [Act.put, List.setIfInBounds_toArray, List.set_cons_zero, List.set_cons_succ, List.getElem_toArray, List.getElem_cons_zero, List.getElem_cons_succ]
      refine wpAnyH_take (i := 30) (v := ?_) rfl (by kernel_rfl) (by kernel_rfl) (by kernel_rfl) (fun _ _ _ h => h) (Or.inl ⟨by rfl, ?_⟩) (by assumption) ?_
      rotate_left
      · intro w hSw; go_simp; (try with_reducible rfl)
      try simp only [Act.put, List.setIfInBounds_toArray, List.set_cons_zero, List.set_cons_succ, List.getElem_toArray, List.getElem_cons_zero, List.getElem_cons_succ]
      refine wpAnyH_take (i := 31) (v := ?_) rfl (by kernel_rfl) (by kernel_rfl) (by kernel_rfl) (fun _ _ _ h => h) (Or.inl ⟨by rfl, ?_⟩) (by assumption) ?_
      rotate_left
      · intro w hSw; go_simp; (try with_reducible rfl)
      try simp only [Act.put, List.setIfInBounds_toArray, List.set_cons_zero, List.set_cons_succ, List.getElem_toArray, List.getElem_cons_zero, List.getElem_cons_succ]
      refine wpAnyH_take (i := 32) (v := ?_) rfl (by kernel_rfl) (by kernel_rfl) (by kernel_rfl) (fun _ _ _ h => h) (Or.inl ⟨by rfl, ?_⟩) (by assumption) ?_
      rotate_left
      · intro w hSw; go_simp; (try with_reducible rfl)
      try simp only [Act.put, List.setIfInBounds_toArray, List.set_cons_zero, List.set_cons_succ, List.getElem_toArray, List.getElem_cons_zero, List.getElem_cons_succ]
      refine wpAnyH_take (i := 33) (v := ?_) rfl (by kernel_rfl) (by kernel_rfl) (by kernel_rfl) (fun _ _ _ h => h) (Or.inl ⟨by rfl, ?_⟩) (by assumption) ?_
      rotate_left
      · intro w hSw; go_simp; (try with_reducible rfl)
      try simp only [Act.put, List.setIfInBounds_toArray, List.set_cons_zero, List.set_cons_succ, List.getElem_toArray, List.getElem_cons_zero, List.getElem_cons_succ]
      refine wpAnyH_take (i := 34) (v := ?_) rfl (by kernel_rfl) (by kernel_rfl) (by kernel_rfl) (fun _ _ _ h => h) (Or.inl ⟨by rfl, ?_⟩) (by assumption) ?_
      rotate_left
      · intro w hSw; go_simp; (try with_reducible rfl)
      try simp only [Act.put, List.setIfInBounds_toArray, List.set_cons_zero, List.set_cons_succ, List.getElem_toArray, List.getElem_cons_zero, List.getElem_cons_succ]
      refine wpAnyH_take (i := 35) (v := ?_) rfl (by kernel_rfl) (by kernel_rfl) (by kernel_rfl) (fun _ _ _ h => h) (Or.inl ⟨by rfl, ?_⟩) (by assumption) ?_
      rotate_left
      · intro w hSw; go_simp; (try with_reducible rfl)
      try simp only [Act.put, List.setIfInBounds_toArray, List.set_cons_zero, List.set_cons_succ, List.getElem_toArray, List.getElem_cons_zero, List.getElem_cons_succ]
      refine wpAnyH_take (i := 36) (v := ?_) rfl (by kernel_rfl) (by kernel_rfl) (by kernel_rfl) (fun _ _ _ h => h) (Or.inl ⟨by rfl, ?_⟩) (by assumption) ?_
      rotate_left
      · intro w hSw; go_simp; (try with_reducible rfl)
      try simp only [Act.put, List.setIfInBounds_toArray, List.set_cons_zero, List.set_cons_succ, List.getElem_toArray, List.getElem_cons_zero, List.getElem_cons_succ]
      refine wpAnyH_take (i := 37) (v := ?_) rfl (by kernel_rfl) (by kernel_rfl) (by kernel_rfl) (fun _ _ _ h => h) (Or.inl ⟨by rfl, ?_⟩) (by assumption) ?_
      rotate_left
      · intro w hSw; go_simp; (try with_reducible rfl)
      try simp only [Act.put, List.setIfInBounds_toArray, List.set_cons_zero, List.set_cons_succ, List.getElem_toArray, List.getElem_cons_zero, List.getElem_cons_succ]
      refine wpAnyH_take (i := 38) (v := ?_) rfl (by kernel_rfl) (by kernel_rfl) (by kernel_rfl) (fun _ _ _ h => h) (Or.inl ⟨by rfl, ?_⟩) (by assumption) ?_
      rotate_left
      · intro w hSw; go_simp; (try with_reducible rfl)
      try simp only [Act.put, List.setIfInBounds_toArray, List.set_cons_zero, List.set_cons_succ, List.getElem_toArray, List.getElem_cons_zero, List.getElem_cons_succ]
      refine wpAnyH_take (i := 39) (v := ?_) rfl (by kernel_rfl) (by kernel_rfl) (by kernel_rfl) (fun _ _ _ h => h) (Or.inl ⟨by rfl, ?_⟩) (by assumption) ?_
      rotate_left
      · intro w hSw; go_simp; (try with_reducible rfl)
      try simp only [Act.put, List.setIfInBounds_toArray, List.set_cons_zero, List.set_cons_succ, List.getElem_toArray, List.getElem_cons_zero, List.getElem_cons_succ]
      refine wpAnyH_ready (rs := [40, 42]) (by kernel_rfl) (by simp) ?_
      refine AllReadyH.cons rfl (fun K hK => ?_) (AllReadyH.cons rfl (fun K hK => ?_) AllReadyH.nil)
      · go_simp
        refine WA.out.mono ?_
        rintro e w5 ⟨rfl, n5, hw5⟩
        have B5 : Fz (W.drew) w5 [] := hw5 ▸ (Fz.drew _ n5)
        have B5 := ((Fz.drew W 1).trans B5)
        have O5 := Keep.mk (O2.out.fz B5 (by simp))
        have C5 := Keep.mk (C2.out.fz B5 (by simp))
        have L5 := Keep.mk (L2.out.fz B5 (by simp))
        have F5 := Keep.mk (F2.out.fz B5 (by simp))
        have G5 : Keep (Fz W w5 []) := ⟨B5.mono (by simp)⟩
        clear hw5 B5
        refine hK.out _ _ ?_ (fun hHeld => ?_)
        · exact ⟨L5.out.c 1, L5.out.c 2, C5.out.c 5, C5.out.c 6, C5.out.c 10, O5.out.c 0, O5.out.c 1, O5.out.c 2, O5.out.c 3, O5.out.c 4, O5.out.c 5, O5.out.c 6, O5.out.c 7, O5.out.c 8⟩
        clear hK K
        try simp only [Act.put, List.setIfInBounds_toArray, List.set_cons_zero, List.set_cons_succ, List.getElem_toArray, List.getElem_cons_zero, List.getElem_cons_succ]
        refine wpAnyH_take (i := 41) (v := ?_) rfl (by kernel_rfl) (by kernel_rfl) (by kernel_rfl) (fun _ _ _ h => h) (Or.inl ⟨by rfl, ?_⟩) (by assumption) ?_
        rotate_left
        · intro w hSw; go_simp; (try with_reducible rfl)
        try simp only [Act.put, List.setIfInBounds_toArray, List.set_cons_zero, List.set_cons_succ, List.getElem_toArray, List.getElem_cons_zero, List.getElem_cons_succ]
        refine wpAnyH_ready (rs := [42]) (by kernel_rfl) (by simp) ?_
        refine AllReadyH.cons rfl (fun K hK => ?_) AllReadyH.nil
        go_simp
        refine hK.out _ _ ?_ (fun hHeld => ?_)
        · exact ⟨(L5.out.fz (Fz.alloc w5 (.cells zeroS 132)) (by simp)).c 1, (L5.out.fz (Fz.alloc w5 (.cells zeroS 132)) (by simp)).c 2, (C5.out.fz (Fz.alloc w5 (.cells zeroS 132)) (by simp)).c 5, (C5.out.fz (Fz.alloc w5 (.cells zeroS 132)) (by simp)).c 6, (C5.out.fz (Fz.alloc w5 (.cells zeroS 132)) (by simp)).c 10, (O5.out.fz (Fz.alloc w5 (.cells zeroS 132)) (by simp)).c 0, (O5.out.fz (Fz.alloc w5 (.cells zeroS 132)) (by simp)).c 1, (O5.out.fz (Fz.alloc w5 (.cells zeroS 132)) (by simp)).c 2, (O5.out.fz (Fz.alloc w5 (.cells zeroS 132)) (by simp)).c 3, (O5.out.fz (Fz.alloc w5 (.cells zeroS 132)) (by simp)).c 4, (O5.out.fz (Fz.alloc w5 (.cells zeroS 132)) (by simp)).c 5, (O5.out.fz (Fz.alloc w5 (.cells zeroS 132)) (by simp)).c 6, (O5.out.fz (Fz.alloc w5 (.cells zeroS 132)) (by simp)).c 7, (O5.out.fz (Fz.alloc w5 (.cells zeroS 132)) (by simp)).c 8⟩
        clear hK K
        try simp only [Act.put, List.setIfInBounds_toArray, List.set_cons_zero, List.set_cons_succ, List.getElem_toArray, List.getElem_cons_zero, List.getElem_cons_succ]
        refine wpAnyH_ready (rs := [43]) (by kernel_rfl) (by simp) ?_
        refine AllReadyH.cons rfl (fun K hK => ?_) AllReadyH.nil
        refine step_store_row rfl 132 (.tmp 9) (.tmp 63) rfl w5.heap.size (segZ p1 p2 s) rfl rfl 132 zeroS (heap_alloc_new _ _) (by kernel_rfl) rfl HON.out ?_
        rw [World.setRow_alloc_new]
        obtain ⟨w6, hw6⟩ : ∃ w6, w5.alloc (.cells (segZ p1 p2 s) 132) = w6 := ⟨_, rfl⟩
        have Z6 : Bk w6 w5.heap.size (segZ p1 p2 s) 132 := hw6 ▸ Bk.new w5 _ _
        have Y6 : Fz w5 w6 [] := hw6 ▸ Fz.alloc w5 _
        have X6 : Fz W w6 [] := (G5.out.trans Y6).mono (by simp)
        have O6 := O5.out.fz Y6 (by simp)
        have C6 := C5.out.fz Y6 (by simp)
        have L6 := L5.out.fz Y6 (by simp)
        have F6 := F5.out.fz Y6 (by simp)
        obtain ⟨sb, hsb⟩ : ∃ sb, w5.heap.size = sb := ⟨_, rfl⟩
        have HSB : W.heap.size ≤ sb := by have := G5.out.size; omega
        rw [hsb] at Z6
        rw [hw6]
        refine hK.out _ _ ?_ (fun hHeld => ?_)
        · exact ⟨L6.c 1, L6.c 2, C6.c 5, C6.c 6, C6.c 10, O6.c 0, O6.c 1, O6.c 2, O6.c 3, O6.c 4, O6.c 5, O6.c 6, O6.c 7, O6.c 8⟩
        clear hK K hHeld
        try simp only [Act.put, List.setIfInBounds_toArray, List.set_cons_zero, List.set_cons_succ, List.getElem_toArray, List.getElem_cons_zero, List.getElem_cons_succ]
        refine wpAnyH_done (by kernel_rfl) ?_ _
        refine NoPanic.normal ?_
        try rw [hsb]
        have KZ6 := Keep.mk Z6
        have KX6 := Keep.mk X6
        have KF6 := Keep.mk F6
        have KC6 := Keep.mk C6
        have KS := Keep.mk HSB
        have pp0 : w6.cell? ⟨wr.heap.size, 0, none⟩ = some (.int .u32 s) := O6.c 0
        have pp1 : w6.cell? ⟨wr.heap.size, 1, none⟩ = some (.bool true) := O6.c 1
        have pp2 : w6.cell? ⟨wr.heap.size, 2, none⟩ = some (.bool false) := O6.c 2
        have pp3 : w6.cell? ⟨wr.heap.size, 3, none⟩ = some (.slice none 0 0) := O6.c 3
        have pp4 : w6.cell? ⟨wr.heap.size, 4, none⟩ = some (.int .i64 0) := O6.c 4
        have pp5 : w6.cell? ⟨wr.heap.size, 5, none⟩ = some (.bool false) := O6.c 5
        have pp6 : w6.cell? ⟨wr.heap.size, 6, none⟩ = some (.int .u32 0) := O6.c 6
        have pp7 : w6.cell? ⟨wr.heap.size, 7, none⟩ = some (.bool false) := O6.c 7
        have pp8 : w6.cell? ⟨wr.heap.size, 8, none⟩ = some (.bool false) := O6.c 8
        have WI := Keep.mk (with_syn s C6 L6)
        clear Z6 X6 F6 C6 L6 O6 HSB Y6 hw6 hsb
        go_wp2_with (first
          | (go_at_call 270
             go_loud (refine WI.out.mono ?_; rintro e w7 ⟨go, rfl, lo7, k7, hb7⟩)
             have B7 := Fz.below hb7 (Nat.le_refl _)
             have Z7 := KZ6.out.fz B7 (by simp)
             have c11 : w7.cell? ⟨sb, 11, none⟩ = some (.slice none 0 0) := Z7.c 11
             have f11 := Z7.free 11
             have KZ7 := Keep.mk Z7
             have KB7 := Keep.mk B7
             have K7 := Keep.mk k7
             have LO7 := Keep.mk lo7
             have d11 : (w7.setCell ⟨sb, 11, none⟩ (.slice (some ⟨go, 0, none⟩) 1 1)).cell? ⟨sb, 11, none⟩ = some (.slice (some ⟨go, 0, none⟩) 1 1) := (Z7.set 11 _).c 11
             have g11 := (Z7.set 11 (.slice (some ⟨go, 0, none⟩) 1 1)).free 11
             clear lo7 k7 hb7 B7 Z7)
          | fail)
        obtain ⟨w8, hw8⟩ : ∃ w8, (w7.setCell ⟨sb, 11, none⟩ (.slice (some ⟨go, 0, none⟩) 1 1)).setCell ⟨sb, 11, none⟩ (.slice (some ⟨go, 0, none⟩) 1 1) = w8 := ⟨_, rfl⟩
        have Y8 : Fz w7 w8 [sb] := hw8 ▸ ((Fz.set w7 sb 11 _).trans (Fz.set _ sb 11 _)).mono (by simp)
        have z8 := (KZ7.out.set 11 (.slice (some ⟨go, 0, none⟩) 1 1)).set 11 (.slice (some ⟨go, 0, none⟩) 1 1)
        rw [hw8] at z8
        have Z8 : Bk w8 sb (segS p1 p2 s go).toArray 132 := z8
        have HCS : c ≠ sb := by have := C2.out.lt; have := KS.out; omega
        have HFS : fl ≠ sb := by have := F2.out.lt; have := KS.out; omega
        have HGS : go ≠ sb := by have := LO7.out; have := KZ6.out.lt; omega
        have C8 := (KC6.out.fz KB7.out (by simp)).fz Y8 (by simp; exact HCS)
        have F8 := (KF6.out.fz KB7.out (by simp)).fz Y8 (by simp; exact HFS)
        have G8 := K7.out.fz Y8 (by simp; exact HGS)
        have X8 : Fz W w8 [] := ((KX6.out.trans KB7.out).trans Y8).mono (by simp; have := KS.out; omega)
        rw [hw8]
        have c29 : w8.drew.cell? ⟨c, 29, none⟩ = some ov := C8.c 29
        have AB := (Fz.alloc w8 (.cells (segS p1 p2 s go).toArray 132)).trans (Fz.drew _ 1)
        have C8b := C8.fz AB (by simp)
        have c29b : (w8.alloc (.cells #[.int .i64 0, .int .i64 1, .int .i64 p1, .int .i64 p2, .int .u32 s, .int .u32 0, .bool true, .bool false, .bool false, .bool false, .int .i64 32, .slice (some ⟨go, 0, none⟩) 1 1, .slice none 0 0] 132)).drew.cell? ⟨c, 29, none⟩ = some ov := C8b.c 29
        have KC8 := Keep.mk C8b
        have KF8 := Keep.mk (F8.fz AB (by simp))
        have KG8 := Keep.mk (G8.fz AB (by simp))
        have KZ8 := Keep.mk Z8
        have KZ8b := Keep.mk (Z8.fz AB (by simp))
        have KX8 : Keep (Fz W (w8.alloc (.cells (segS p1 p2 s go).toArray 132)).drew []) := ⟨(X8.trans AB).mono (by simp)⟩
        have KLG : Keep (W.heap.size ≤ go ∧ c ≠ sb ∧ w.heap.size ≤ W.heap.size ∧ W.heap.size ≤ sb) := ⟨by have := LO7.out; have := KX6.out.size; omega, HCS, E2.out.size, KS.out⟩
        have KRW : Keep ((w8.alloc (.cells (segS p1 p2 s go).toArray 132)).drew.ownsRow lo 132 13 ov gos.length (gos.flatMap (segS p1 p2 s))) := ⟨own_blockW HOW.out.row fun kb e => (KX8.out.block kb (by have := HOV.out kb e; have := E2.out.size; omega) (by simp)).trans (E2.out.block kb (HOV.out kb e).2.1 (by simp; exact (HOV.out kb e).2.2.2))⟩
        have KSZ : Keep (W.heap.size ≤ (w8.alloc (.cells (segS p1 p2 s go).toArray 132)).drew.heap.size) := ⟨KX8.out.size⟩
        clear Y8 z8 Z8 HCS HFS HGS C8 F8 G8 X8 AB C8b hw8 d11 g11 c11 f11
        refine wp_region_noPanic ?_
        refine wp_region_held_drew (S := fun X => X.cell? ⟨sb, 0, none⟩ = some (.int .i64 0) ∧ X.cell? ⟨sb, 1, none⟩ = some (.int .i64 1) ∧ X.cell? ⟨sb, 2, none⟩ = some (.int .i64 p1) ∧ X.cell? ⟨sb, 3, none⟩ = some (.int .i64 p2) ∧ X.cell? ⟨sb, 4, none⟩ = some (.int .u32 s) ∧ X.cell? ⟨sb, 5, none⟩ = some (.int .u32 0) ∧ X.cell? ⟨sb, 6, none⟩ = some (.bool true) ∧ X.cell? ⟨sb, 7, none⟩ = some (.bool false) ∧ X.cell? ⟨sb, 8, none⟩ = some (.bool false) ∧ X.cell? ⟨sb, 9, none⟩ = some (.bool false) ∧ X.cell? ⟨sb, 10, none⟩ = some (.int .i64 32) ∧ X.cell? ⟨sb, 11, none⟩ = some (.slice (some ⟨go, 0, none⟩) 1 1) ∧ X.cell? ⟨sb, 12, none⟩ = some (.slice none 0 0)) (by kernel_rfl) ⟨KZ8.out.c 0, KZ8.out.c 1, KZ8.out.c 2, KZ8.out.c 3, KZ8.out.c 4, KZ8.out.c 5, KZ8.out.c 6, KZ8.out.c 7, KZ8.out.c 8, KZ8.out.c 9, KZ8.out.c 10, KZ8.out.c 11, KZ8.out.c 12⟩ (fun hHeld => ?_)
        refine wpAnyH_take (i := 0) (v := ?_) rfl (by kernel_rfl) (by kernel_rfl) (by kernel_rfl) (fun _ _ _ h => h) (Or.inl ⟨by rfl, ?_⟩) (by assumption) ?_
        rotate_left
        · intro w hSw; go_simp; (try with_reducible rfl)
        try simp only [Act.put, List.setIfInBounds_toArray, List.set_cons_zero, List.set_cons_succ, List.getElem_toArray, List.getElem_cons_zero, List.getElem_cons_succ]
        refine wpAnyH_take (i := 1) (v := ?_) rfl (by kernel_rfl) (by kernel_rfl) (by kernel_rfl) (fun _ _ _ h => h) (Or.inl ⟨by rfl, ?_⟩) (by assumption) ?_
        rotate_left
        · intro w hSw; go_simp; (try with_reducible rfl)
        try simp only [Act.put, List.setIfInBounds_toArray, List.set_cons_zero, List.set_cons_succ, List.getElem_toArray, List.getElem_cons_zero, List.getElem_cons_succ]
        refine wpAnyH_take (i := 2) (v := ?_) rfl (by kernel_rfl) (by kernel_rfl) (by kernel_rfl) (fun _ _ _ h => h) (Or.inl ⟨by rfl, ?_⟩) (by assumption) ?_
        rotate_left
        · intro w hSw; go_simp; (try with_reducible rfl)
        try simp only [Act.put, List.setIfInBounds_toArray, List.set_cons_zero, List.set_cons_succ, List.getElem_toArray, List.getElem_cons_zero, List.getElem_cons_succ]
        refine wpAnyH_take (i := 3) (v := ?_) rfl (by kernel_rfl) (by kernel_rfl) (by kernel_rfl) (fun _ _ _ h => h) (Or.inl ⟨by rfl, ?_⟩) (by assumption) ?_
        rotate_left
        · intro w hSw; go_simp; (try with_reducible rfl)
        try simp only [Act.put, List.setIfInBounds_toArray, List.set_cons_zero, List.set_cons_succ, List.getElem_toArray, List.getElem_cons_zero, List.getElem_cons_succ]
        refine wpAnyH_take (i := 5) (v := ?_) rfl (by kernel_rfl) (by kernel_rfl) (by kernel_rfl) (fun _ _ _ h => h) (Or.inl ⟨by rfl, ?_⟩) (by assumption) ?_
        rotate_left
        · intro w hSw; go_simp; (try with_reducible rfl)
        try simp only [Act.put, List.setIfInBounds_toArray, List.set_cons_zero, List.set_cons_succ, List.getElem_toArray, List.getElem_cons_zero, List.getElem_cons_succ]
        refine wpAnyH_ready (rs := [4, 6]) (by kernel_rfl) (by simp) ?_
        refine AllReadyH.cons rfl (fun K hK => ?_) (AllReadyH.cons rfl (fun K hK => ?_) AllReadyH.nil)
        · go_simp
          refine hK.out _ _ ?_ (fun hHeld => ?_)
          · first | exact ⟨KZ8.out.c 0, KZ8.out.c 1, KZ8.out.c 2, KZ8.out.c 3, KZ8.out.c 4, KZ8.out.c 5, KZ8.out.c 6, KZ8.out.c 7, KZ8.out.c 8, KZ8.out.c 9, KZ8.out.c 10, KZ8.out.c 11, KZ8.out.c 12⟩ | exact ⟨KZ8b.out.c 0, KZ8b.out.c 1, KZ8b.out.c 2, KZ8b.out.c 3, KZ8b.out.c 4, KZ8b.out.c 5, KZ8b.out.c 6, KZ8b.out.c 7, KZ8b.out.c 8, KZ8b.out.c 9, KZ8b.out.c 10, KZ8b.out.c 11, KZ8b.out.c 12⟩ | exact ⟨Z9.out.c 0, Z9.out.c 1, Z9.out.c 2, Z9.out.c 3, Z9.out.c 4, Z9.out.c 5, Z9.out.c 6, Z9.out.c 7, Z9.out.c 8, Z9.out.c 9, Z9.out.c 10, Z9.out.c 11, Z9.out.c 12⟩ | exact ⟨(Z9.out.fz (Fz.set w9 c 29 v') (by simp; exact (Ne.symm KLG.out.2.1))).c 0, (Z9.out.fz (Fz.set w9 c 29 v') (by simp; exact (Ne.symm KLG.out.2.1))).c 1, (Z9.out.fz (Fz.set w9 c 29 v') (by simp; exact (Ne.symm KLG.out.2.1))).c 2, (Z9.out.fz (Fz.set w9 c 29 v') (by simp; exact (Ne.symm KLG.out.2.1))).c 3, (Z9.out.fz (Fz.set w9 c 29 v') (by simp; exact (Ne.symm KLG.out.2.1))).c 4, (Z9.out.fz (Fz.set w9 c 29 v') (by simp; exact (Ne.symm KLG.out.2.1))).c 5, (Z9.out.fz (Fz.set w9 c 29 v') (by simp; exact (Ne.symm KLG.out.2.1))).c 6, (Z9.out.fz (Fz.set w9 c 29 v') (by simp; exact (Ne.symm KLG.out.2.1))).c 7, (Z9.out.fz (Fz.set w9 c 29 v') (by simp; exact (Ne.symm KLG.out.2.1))).c 8, (Z9.out.fz (Fz.set w9 c 29 v') (by simp; exact (Ne.symm KLG.out.2.1))).c 9, (Z9.out.fz (Fz.set w9 c 29 v') (by simp; exact (Ne.symm KLG.out.2.1))).c 10, (Z9.out.fz (Fz.set w9 c 29 v') (by simp; exact (Ne.symm KLG.out.2.1))).c 11, (Z9.out.fz (Fz.set w9 c 29 v') (by simp; exact (Ne.symm KLG.out.2.1))).c 12⟩
          clear hK K
          try simp only [Act.put, List.setIfInBounds_toArray, List.set_cons_zero, List.set_cons_succ, List.getElem_toArray, List.getElem_cons_zero, List.getElem_cons_succ]
          refine wpAnyH_ready (rs := [6]) (by kernel_rfl) (by simp) ?_
          refine AllReadyH.cons rfl (fun K hK => ?_) AllReadyH.nil
          go_simp
          refine hK.out _ _ ?_ (fun hHeld => ?_)
          · first | exact ⟨KZ8.out.c 0, KZ8.out.c 1, KZ8.out.c 2, KZ8.out.c 3, KZ8.out.c 4, KZ8.out.c 5, KZ8.out.c 6, KZ8.out.c 7, KZ8.out.c 8, KZ8.out.c 9, KZ8.out.c 10, KZ8.out.c 11, KZ8.out.c 12⟩ | exact ⟨KZ8b.out.c 0, KZ8b.out.c 1, KZ8b.out.c 2, KZ8b.out.c 3, KZ8b.out.c 4, KZ8b.out.c 5, KZ8b.out.c 6, KZ8b.out.c 7, KZ8b.out.c 8, KZ8b.out.c 9, KZ8b.out.c 10, KZ8b.out.c 11, KZ8b.out.c 12⟩ | exact ⟨Z9.out.c 0, Z9.out.c 1, Z9.out.c 2, Z9.out.c 3, Z9.out.c 4, Z9.out.c 5, Z9.out.c 6, Z9.out.c 7, Z9.out.c 8, Z9.out.c 9, Z9.out.c 10, Z9.out.c 11, Z9.out.c 12⟩ | exact ⟨(Z9.out.fz (Fz.set w9 c 29 v') (by simp; exact (Ne.symm KLG.out.2.1))).c 0, (Z9.out.fz (Fz.set w9 c 29 v') (by simp; exact (Ne.symm KLG.out.2.1))).c 1, (Z9.out.fz (Fz.set w9 c 29 v') (by simp; exact (Ne.symm KLG.out.2.1))).c 2, (Z9.out.fz (Fz.set w9 c 29 v') (by simp; exact (Ne.symm KLG.out.2.1))).c 3, (Z9.out.fz (Fz.set w9 c 29 v') (by simp; exact (Ne.symm KLG.out.2.1))).c 4, (Z9.out.fz (Fz.set w9 c 29 v') (by simp; exact (Ne.symm KLG.out.2.1))).c 5, (Z9.out.fz (Fz.set w9 c 29 v') (by simp; exact (Ne.symm KLG.out.2.1))).c 6, (Z9.out.fz (Fz.set w9 c 29 v') (by simp; exact (Ne.symm KLG.out.2.1))).c 7, (Z9.out.fz (Fz.set w9 c 29 v') (by simp; exact (Ne.symm KLG.out.2.1))).c 8, (Z9.out.fz (Fz.set w9 c 29 v') (by simp; exact (Ne.symm KLG.out.2.1))).c 9, (Z9.out.fz (Fz.set w9 c 29 v') (by simp; exact (Ne.symm KLG.out.2.1))).c 10, (Z9.out.fz (Fz.set w9 c 29 v') (by simp; exact (Ne.symm KLG.out.2.1))).c 11, (Z9.out.fz (Fz.set w9 c 29 v') (by simp; exact (Ne.symm KLG.out.2.1))).c 12⟩
          clear hK K
          try simp only [Act.put, List.setIfInBounds_toArray, List.set_cons_zero, List.set_cons_succ, List.getElem_toArray, List.getElem_cons_zero, List.getElem_cons_succ]
          refine wpAnyH_ready (rs := [7]) (by kernel_rfl) (by simp) ?_
          refine AllReadyH.cons rfl (fun K hK => ?_) AllReadyH.nil
          refine step_more rfl (.tmp 83) (.tmp 85) 90 132 rfl Tryz.underlying90 infoSeg rfl (by omega) (by omega) ov rfl _ (segS p1 p2 s go) rfl rfl (fun j u hu => ?_) ?_ (by simp [Value.oneCell']) lo gos.length _ KRW.out (Nat.le_trans (Nat.le_trans HLO.out.1 KLG.out.2.2.1) KSZ.out) (by have := HLO.out.2; omega) ?_
          · exact ((Bk.new w8 (segS p1 p2 s go).toArray 132).c j).trans (Array.getElem?_toList.symm.trans hu)
          · show w8.heap.size < (w8.alloc (.cells (segS p1 p2 s go).toArray 132)).heap.size
            simp
          intro v' w9 ho9 hg9 hv9
          obtain ⟨A9, n9, k9, rfl⟩ : ∃ A n k, v' = Value.slice A n k := by
            rcases ho9.2 with ⟨h, _⟩ | ⟨g, cap, _, h, _⟩
            · exact ⟨_, _, _, h⟩
            · exact ⟨_, _, _, h⟩
          have B9 := Fz.grown hg9
          have NOV : ∀ x, w.heap.size ≤ x ∨ x = c ∨ x = fl → x ∉ ov.ownBlock.toList := fun x hx e => by
            have := HOV.out x (by simpa using e)
            rcases hx with h1 | h1 | h1
            · omega
            · exact this.2.2.1 h1
            · exact this.2.2.2 h1
          have C9 := Keep.mk (KC8.out.fz B9 (NOV _ (.inr (.inl rfl))))
          have F9 := Keep.mk (KF8.out.fz B9 (NOV _ (.inr (.inr rfl))))
          have G9 := Keep.mk (KG8.out.fz B9 (NOV _ (.inl (by have := KLG.out; omega))))
          have Z9 := Keep.mk (KZ8b.out.fz B9 (NOV _ (.inl (by have := KLG.out; omega))))
          have X9 : Keep (Fz W w9 ov.ownBlock.toList) := ⟨(KX8.out.trans B9).mono (by simp)⟩
          have HO9 := Keep.mk ho9
          have HV9 : Keep ((Value.slice A9 n9 k9).ownBlock = ov.ownBlock ∨ ∃ kb, (Value.slice A9 n9 k9).ownBlock = some kb ∧ W.heap.size ≤ kb) := ⟨hv9.imp id fun e => ⟨_, e, KSZ.out⟩⟩
          have d29 : w9.cell? ⟨c, 29, none⟩ = some ov := C9.out.c 29
          have e29 := C9.out.free 29
          clear ho9 hg9 hv9 B9 NOV
          refine hK.out _ _ ?_ (fun hHeld => ?_)
          · first | exact ⟨KZ8.out.c 0, KZ8.out.c 1, KZ8.out.c 2, KZ8.out.c 3, KZ8.out.c 4, KZ8.out.c 5, KZ8.out.c 6, KZ8.out.c 7, KZ8.out.c 8, KZ8.out.c 9, KZ8.out.c 10, KZ8.out.c 11, KZ8.out.c 12⟩ | exact ⟨KZ8b.out.c 0, KZ8b.out.c 1, KZ8b.out.c 2, KZ8b.out.c 3, KZ8b.out.c 4, KZ8b.out.c 5, KZ8b.out.c 6, KZ8b.out.c 7, KZ8b.out.c 8, KZ8b.out.c 9, KZ8b.out.c 10, KZ8b.out.c 11, KZ8b.out.c 12⟩ | exact ⟨Z9.out.c 0, Z9.out.c 1, Z9.out.c 2, Z9.out.c 3, Z9.out.c 4, Z9.out.c 5, Z9.out.c 6, Z9.out.c 7, Z9.out.c 8, Z9.out.c 9, Z9.out.c 10, Z9.out.c 11, Z9.out.c 12⟩ | exact ⟨(Z9.out.fz (Fz.set w9 c 29 (Value.slice A9 n9 k9)) (by simp; exact (Ne.symm KLG.out.2.1))).c 0, (Z9.out.fz (Fz.set w9 c 29 (Value.slice A9 n9 k9)) (by simp; exact (Ne.symm KLG.out.2.1))).c 1, (Z9.out.fz (Fz.set w9 c 29 (Value.slice A9 n9 k9)) (by simp; exact (Ne.symm KLG.out.2.1))).c 2, (Z9.out.fz (Fz.set w9 c 29 (Value.slice A9 n9 k9)) (by simp; exact (Ne.symm KLG.out.2.1))).c 3, (Z9.out.fz (Fz.set w9 c 29 (Value.slice A9 n9 k9)) (by simp; exact (Ne.symm KLG.out.2.1))).c 4, (Z9.out.fz (Fz.set w9 c 29 (Value.slice A9 n9 k9)) (by simp; exact (Ne.symm KLG.out.2.1))).c 5, (Z9.out.fz (Fz.set w9 c 29 (Value.slice A9 n9 k9)) (by simp; exact (Ne.symm KLG.out.2.1))).c 6, (Z9.out.fz (Fz.set w9 c 29 (Value.slice A9 n9 k9)) (by simp; exact (Ne.symm KLG.out.2.1))).c 7, (Z9.out.fz (Fz.set w9 c 29 (Value.slice A9 n9 k9)) (by simp; exact (Ne.symm KLG.out.2.1))).c 8, (Z9.out.fz (Fz.set w9 c 29 (Value.slice A9 n9 k9)) (by simp; exact (Ne.symm KLG.out.2.1))).c 9, (Z9.out.fz (Fz.set w9 c 29 (Value.slice A9 n9 k9)) (by simp; exact (Ne.symm KLG.out.2.1))).c 10, (Z9.out.fz (Fz.set w9 c 29 (Value.slice A9 n9 k9)) (by simp; exact (Ne.symm KLG.out.2.1))).c 11, (Z9.out.fz (Fz.set w9 c 29 (Value.slice A9 n9 k9)) (by simp; exact (Ne.symm KLG.out.2.1))).c 12⟩
          clear hK K
          try simp only [Act.put, List.setIfInBounds_toArray, List.set_cons_zero, List.set_cons_succ, List.getElem_toArray, List.getElem_cons_zero, List.getElem_cons_succ]
          refine wpAnyH_take (i := 8) (v := ?_) rfl (by kernel_rfl) (by kernel_rfl) (by kernel_rfl) (fun _ _ _ h => h) (Or.inl ⟨by rfl, ?_⟩) (by assumption) ?_
          rotate_left
          · intro w hSw; go_simp; (try with_reducible rfl)
          try simp only [Act.put, List.setIfInBounds_toArray, List.set_cons_zero, List.set_cons_succ, List.getElem_toArray, List.getElem_cons_zero, List.getElem_cons_succ]
          refine wpAnyH_take (i := 9) (v := ?_) rfl (by kernel_rfl) (by kernel_rfl) (by kernel_rfl) (fun _ _ _ h => h) (Or.inl ⟨by rfl, ?_⟩) (by assumption) ?_
          rotate_left
          · intro w hSw; go_simp; (try with_reducible rfl)
          try simp only [Act.put, List.setIfInBounds_toArray, List.set_cons_zero, List.set_cons_succ, List.getElem_toArray, List.getElem_cons_zero, List.getElem_cons_succ]
          refine wpAnyH_ready (rs := [10]) (by kernel_rfl) (by simp) ?_
          refine AllReadyH.cons rfl (fun K hK => ?_) AllReadyH.nil
          go_simp
          refine hK.out _ _ ?_ (fun hHeld => ?_)
          · first | exact ⟨KZ8.out.c 0, KZ8.out.c 1, KZ8.out.c 2, KZ8.out.c 3, KZ8.out.c 4, KZ8.out.c 5, KZ8.out.c 6, KZ8.out.c 7, KZ8.out.c 8, KZ8.out.c 9, KZ8.out.c 10, KZ8.out.c 11, KZ8.out.c 12⟩ | exact ⟨KZ8b.out.c 0, KZ8b.out.c 1, KZ8b.out.c 2, KZ8b.out.c 3, KZ8b.out.c 4, KZ8b.out.c 5, KZ8b.out.c 6, KZ8b.out.c 7, KZ8b.out.c 8, KZ8b.out.c 9, KZ8b.out.c 10, KZ8b.out.c 11, KZ8b.out.c 12⟩ | exact ⟨Z9.out.c 0, Z9.out.c 1, Z9.out.c 2, Z9.out.c 3, Z9.out.c 4, Z9.out.c 5, Z9.out.c 6, Z9.out.c 7, Z9.out.c 8, Z9.out.c 9, Z9.out.c 10, Z9.out.c 11, Z9.out.c 12⟩ | exact ⟨(Z9.out.fz (Fz.set w9 c 29 (Value.slice A9 n9 k9)) (by simp; exact (Ne.symm KLG.out.2.1))).c 0, (Z9.out.fz (Fz.set w9 c 29 (Value.slice A9 n9 k9)) (by simp; exact (Ne.symm KLG.out.2.1))).c 1, (Z9.out.fz (Fz.set w9 c 29 (Value.slice A9 n9 k9)) (by simp; exact (Ne.symm KLG.out.2.1))).c 2, (Z9.out.fz (Fz.set w9 c 29 (Value.slice A9 n9 k9)) (by simp; exact (Ne.symm KLG.out.2.1))).c 3, (Z9.out.fz (Fz.set w9 c 29 (Value.slice A9 n9 k9)) (by simp; exact (Ne.symm KLG.out.2.1))).c 4, (Z9.out.fz (Fz.set w9 c 29 (Value.slice A9 n9 k9)) (by simp; exact (Ne.symm KLG.out.2.1))).c 5, (Z9.out.fz (Fz.set w9 c 29 (Value.slice A9 n9 k9)) (by simp; exact (Ne.symm KLG.out.2.1))).c 6, (Z9.out.fz (Fz.set w9 c 29 (Value.slice A9 n9 k9)) (by simp; exact (Ne.symm KLG.out.2.1))).c 7, (Z9.out.fz (Fz.set w9 c 29 (Value.slice A9 n9 k9)) (by simp; exact (Ne.symm KLG.out.2.1))).c 8, (Z9.out.fz (Fz.set w9 c 29 (Value.slice A9 n9 k9)) (by simp; exact (Ne.symm KLG.out.2.1))).c 9, (Z9.out.fz (Fz.set w9 c 29 (Value.slice A9 n9 k9)) (by simp; exact (Ne.symm KLG.out.2.1))).c 10, (Z9.out.fz (Fz.set w9 c 29 (Value.slice A9 n9 k9)) (by simp; exact (Ne.symm KLG.out.2.1))).c 11, (Z9.out.fz (Fz.set w9 c 29 (Value.slice A9 n9 k9)) (by simp; exact (Ne.symm KLG.out.2.1))).c 12⟩
          clear hK K
          try simp only [Act.put, List.setIfInBounds_toArray, List.set_cons_zero, List.set_cons_succ, List.getElem_toArray, List.getElem_cons_zero, List.getElem_cons_succ]
          refine wpAnyH_done (by kernel_rfl) ?_ _
          refine NoPanic.normal ?_
          go_wp2_with fail
          go_roundw
          case rel =>
            refine .inr ⟨by go_num, ⟨(Value.slice A9 n9 k9), go, ?_⟩⟩
            have LC := C2.out.lt
            have LF := F2.out.lt
            have LW := HS2.out
            have LE := E2.out.size
            have T9 := Fz.set w9 c 29 (Value.slice A9 n9 k9)
            have FT : Fz w (w9.setCell ⟨c, 29, none⟩ (Value.slice A9 n9 k9)) (c :: fl :: ov.ownBlock.toList) := ((E2.out.trans X9.out).trans T9).mono (fun x _ hx => by
              simp only [List.mem_append, List.mem_cons, List.not_mem_nil, or_false] at hx
              rcases hx with (rfl | hx) | rfl
              · simp
              · simp only [List.mem_cons]; exact .inr (.inr hx)
              · simp)
            refine ⟨C9.out.set 29 _, F9.out.fz T9 (by simp; exact fun e => HND.out.1.2.2 e.symm), ⟨?_, fun x hx => ?_⟩, fun x hx => ?_, fun kb e => ?_, FT⟩
            · have hr := own_blockW HO9.out (w' := w9.setCell ⟨c, 29, none⟩ (Value.slice A9 n9 k9)) fun kb e => T9.block kb (let ⟨_, _, h2⟩ := own_ty HO9.out e; h2.lt) (by
                rcases HV9.out with h1 | ⟨kb', h1, h2⟩
                · simp; exact (HOV.out kb (h1 ▸ e)).2.2.1
                · rw [h1] at e; injection e with e; subst e; simp; omega)
              rw [List.length_append, List.flatMap_append]
              simpa using hr
            · rcases List.mem_append.1 hx with h1 | h1
              · exact (HOW.out.opt x h1).fz FT (by simp only [List.mem_cons, not_or]; exact HGT.out x h1)
              · obtain rfl : x = go := by simpa using h1
                exact G9.out.fz T9 (by simp; have := KLG.out.1; omega)
            · rcases List.mem_append.1 hx with h1 | h1
              · exact .inl h1
              · obtain rfl : x = go := by simpa using h1
                exact .inr (by have := KLG.out; omega)
            · rcases HV9.out with h1 | ⟨kb', h1, h2⟩
              · exact .inl (h1 ▸ e)
              · rw [h1] at e; injection e with e; subst e; exact .inr (by omega)
          case measure => simp [intOf]
        · go_simp
          refine hK.out _ _ ?_ (fun hHeld => ?_)
          · first | exact ⟨KZ8.out.c 0, KZ8.out.c 1, KZ8.out.c 2, KZ8.out.c 3, KZ8.out.c 4, KZ8.out.c 5, KZ8.out.c 6, KZ8.out.c 7, KZ8.out.c 8, KZ8.out.c 9, KZ8.out.c 10, KZ8.out.c 11, KZ8.out.c 12⟩ | exact ⟨KZ8b.out.c 0, KZ8b.out.c 1, KZ8b.out.c 2, KZ8b.out.c 3, KZ8b.out.c 4, KZ8b.out.c 5, KZ8b.out.c 6, KZ8b.out.c 7, KZ8b.out.c 8, KZ8b.out.c 9, KZ8b.out.c 10, KZ8b.out.c 11, KZ8b.out.c 12⟩ | exact ⟨Z9.out.c 0, Z9.out.c 1, Z9.out.c 2, Z9.out.c 3, Z9.out.c 4, Z9.out.c 5, Z9.out.c 6, Z9.out.c 7, Z9.out.c 8, Z9.out.c 9, Z9.out.c 10, Z9.out.c 11, Z9.out.c 12⟩ | exact ⟨(Z9.out.fz (Fz.set w9 c 29 (Value.slice A9 n9 k9)) (by simp; exact (Ne.symm KLG.out.2.1))).c 0, (Z9.out.fz (Fz.set w9 c 29 (Value.slice A9 n9 k9)) (by simp; exact (Ne.symm KLG.out.2.1))).c 1, (Z9.out.fz (Fz.set w9 c 29 (Value.slice A9 n9 k9)) (by simp; exact (Ne.symm KLG.out.2.1))).c 2, (Z9.out.fz (Fz.set w9 c 29 (Value.slice A9 n9 k9)) (by simp; exact (Ne.symm KLG.out.2.1))).c 3, (Z9.out.fz (Fz.set w9 c 29 (Value.slice A9 n9 k9)) (by simp; exact (Ne.symm KLG.out.2.1))).c 4, (Z9.out.fz (Fz.set w9 c 29 (Value.slice A9 n9 k9)) (by simp; exact (Ne.symm KLG.out.2.1))).c 5, (Z9.out.fz (Fz.set w9 c 29 (Value.slice A9 n9 k9)) (by simp; exact (Ne.symm KLG.out.2.1))).c 6, (Z9.out.fz (Fz.set w9 c 29 (Value.slice A9 n9 k9)) (by simp; exact (Ne.symm KLG.out.2.1))).c 7, (Z9.out.fz (Fz.set w9 c 29 (Value.slice A9 n9 k9)) (by simp; exact (Ne.symm KLG.out.2.1))).c 8, (Z9.out.fz (Fz.set w9 c 29 (Value.slice A9 n9 k9)) (by simp; exact (Ne.symm KLG.out.2.1))).c 9, (Z9.out.fz (Fz.set w9 c 29 (Value.slice A9 n9 k9)) (by simp; exact (Ne.symm KLG.out.2.1))).c 10, (Z9.out.fz (Fz.set w9 c 29 (Value.slice A9 n9 k9)) (by simp; exact (Ne.symm KLG.out.2.1))).c 11, (Z9.out.fz (Fz.set w9 c 29 (Value.slice A9 n9 k9)) (by simp; exact (Ne.symm KLG.out.2.1))).c 12⟩
          clear hK K
          try simp only [Act.put, List.setIfInBounds_toArray, List.set_cons_zero, List.set_cons_succ, List.getElem_toArray, List.getElem_cons_zero, List.getElem_cons_succ]
          refine wpAnyH_ready (rs := [4]) (by kernel_rfl) (by simp) ?_
          refine AllReadyH.cons rfl (fun K hK => ?_) AllReadyH.nil
          go_simp
          refine hK.out _ _ ?_ (fun hHeld => ?_)
          · first | exact ⟨KZ8.out.c 0, KZ8.out.c 1, KZ8.out.c 2, KZ8.out.c 3, KZ8.out.c 4, KZ8.out.c 5, KZ8.out.c 6, KZ8.out.c 7, KZ8.out.c 8, KZ8.out.c 9, KZ8.out.c 10, KZ8.out.c 11, KZ8.out.c 12⟩ | exact ⟨KZ8b.out.c 0, KZ8b.out.c 1, KZ8b.out.c 2, KZ8b.out.c 3, KZ8b.out.c 4, KZ8b.out.c 5, KZ8b.out.c 6, KZ8b.out.c 7, KZ8b.out.c 8, KZ8b.out.c 9, KZ8b.out.c 10, KZ8b.out.c 11, KZ8b.out.c 12⟩ | exact ⟨Z9.out.c 0, Z9.out.c 1, Z9.out.c 2, Z9.out.c 3, Z9.out.c 4, Z9.out.c 5, Z9.out.c 6, Z9.out.c 7, Z9.out.c 8, Z9.out.c 9, Z9.out.c 10, Z9.out.c 11, Z9.out.c 12⟩ | exact ⟨(Z9.out.fz (Fz.set w9 c 29 (Value.slice A9 n9 k9)) (by simp; exact (Ne.symm KLG.out.2.1))).c 0, (Z9.out.fz (Fz.set w9 c 29 (Value.slice A9 n9 k9)) (by simp; exact (Ne.symm KLG.out.2.1))).c 1, (Z9.out.fz (Fz.set w9 c 29 (Value.slice A9 n9 k9)) (by simp; exact (Ne.symm KLG.out.2.1))).c 2, (Z9.out.fz (Fz.set w9 c 29 (Value.slice A9 n9 k9)) (by simp; exact (Ne.symm KLG.out.2.1))).c 3, (Z9.out.fz (Fz.set w9 c 29 (Value.slice A9 n9 k9)) (by simp; exact (Ne.symm KLG.out.2.1))).c 4, (Z9.out.fz (Fz.set w9 c 29 (Value.slice A9 n9 k9)) (by simp; exact (Ne.symm KLG.out.2.1))).c 5, (Z9.out.fz (Fz.set w9 c 29 (Value.slice A9 n9 k9)) (by simp; exact (Ne.symm KLG.out.2.1))).c 6, (Z9.out.fz (Fz.set w9 c 29 (Value.slice A9 n9 k9)) (by simp; exact (Ne.symm KLG.out.2.1))).c 7, (Z9.out.fz (Fz.set w9 c 29 (Value.slice A9 n9 k9)) (by simp; exact (Ne.symm KLG.out.2.1))).c 8, (Z9.out.fz (Fz.set w9 c 29 (Value.slice A9 n9 k9)) (by simp; exact (Ne.symm KLG.out.2.1))).c 9, (Z9.out.fz (Fz.set w9 c 29 (Value.slice A9 n9 k9)) (by simp; exact (Ne.symm KLG.out.2.1))).c 10, (Z9.out.fz (Fz.set w9 c 29 (Value.slice A9 n9 k9)) (by simp; exact (Ne.symm KLG.out.2.1))).c 11, (Z9.out.fz (Fz.set w9 c 29 (Value.slice A9 n9 k9)) (by simp; exact (Ne.symm KLG.out.2.1))).c 12⟩
          clear hK K
          try simp only [Act.put, List.setIfInBounds_toArray, List.set_cons_zero, List.set_cons_succ, List.getElem_toArray, List.getElem_cons_zero, List.getElem_cons_succ]
          refine wpAnyH_ready (rs := [7]) (by kernel_rfl) (by simp) ?_
          refine AllReadyH.cons rfl (fun K hK => ?_) AllReadyH.nil
          refine step_more rfl (.tmp 83) (.tmp 85) 90 132 rfl Tryz.underlying90 infoSeg rfl (by omega) (by omega) ov rfl _ (segS p1 p2 s go) rfl rfl (fun j u hu => ?_) ?_ (by simp [Value.oneCell']) lo gos.length _ KRW.out (Nat.le_trans (Nat.le_trans HLO.out.1 KLG.out.2.2.1) KSZ.out) (by have := HLO.out.2; omega) ?_
          · exact ((Bk.new w8 (segS p1 p2 s go).toArray 132).c j).trans (Array.getElem?_toList.symm.trans hu)
          · show w8.heap.size < (w8.alloc (.cells (segS p1 p2 s go).toArray 132)).heap.size
            simp
          intro v' w9 ho9 hg9 hv9
          obtain ⟨A9, n9, k9, rfl⟩ : ∃ A n k, v' = Value.slice A n k := by
            rcases ho9.2 with ⟨h, _⟩ | ⟨g, cap, _, h, _⟩
            · exact ⟨_, _, _, h⟩
            · exact ⟨_, _, _, h⟩
          have B9 := Fz.grown hg9
          have NOV : ∀ x, w.heap.size ≤ x ∨ x = c ∨ x = fl → x ∉ ov.ownBlock.toList := fun x hx e => by
            have := HOV.out x (by simpa using e)
            rcases hx with h1 | h1 | h1
            · omega
            · exact this.2.2.1 h1
            · exact this.2.2.2 h1
          have C9 := Keep.mk (KC8.out.fz B9 (NOV _ (.inr (.inl rfl))))
          have F9 := Keep.mk (KF8.out.fz B9 (NOV _ (.inr (.inr rfl))))
          have G9 := Keep.mk (KG8.out.fz B9 (NOV _ (.inl (by have := KLG.out; omega))))
          have Z9 := Keep.mk (KZ8b.out.fz B9 (NOV _ (.inl (by have := KLG.out; omega))))
          have X9 : Keep (Fz W w9 ov.ownBlock.toList) := ⟨(KX8.out.trans B9).mono (by simp)⟩
          have HO9 := Keep.mk ho9
          have HV9 : Keep ((Value.slice A9 n9 k9).ownBlock = ov.ownBlock ∨ ∃ kb, (Value.slice A9 n9 k9).ownBlock = some kb ∧ W.heap.size ≤ kb) := ⟨hv9.imp id fun e => ⟨_, e, KSZ.out⟩⟩
          have d29 : w9.cell? ⟨c, 29, none⟩ = some ov := C9.out.c 29
          have e29 := C9.out.free 29
          clear ho9 hg9 hv9 B9 NOV
          refine hK.out _ _ ?_ (fun hHeld => ?_)
          · first | exact ⟨KZ8.out.c 0, KZ8.out.c 1, KZ8.out.c 2, KZ8.out.c 3, KZ8.out.c 4, KZ8.out.c 5, KZ8.out.c 6, KZ8.out.c 7, KZ8.out.c 8, KZ8.out.c 9, KZ8.out.c 10, KZ8.out.c 11, KZ8.out.c 12⟩ | exact ⟨KZ8b.out.c 0, KZ8b.out.c 1, KZ8b.out.c 2, KZ8b.out.c 3, KZ8b.out.c 4, KZ8b.out.c 5, KZ8b.out.c 6, KZ8b.out.c 7, KZ8b.out.c 8, KZ8b.out.c 9, KZ8b.out.c 10, KZ8b.out.c 11, KZ8b.out.c 12⟩ | exact ⟨Z9.out.c 0, Z9.out.c 1, Z9.out.c 2, Z9.out.c 3, Z9.out.c 4, Z9.out.c 5, Z9.out.c 6, Z9.out.c 7, Z9.out.c 8, Z9.out.c 9, Z9.out.c 10, Z9.out.c 11, Z9.out.c 12⟩ | exact ⟨(Z9.out.fz (Fz.set w9 c 29 (Value.slice A9 n9 k9)) (by simp; exact (Ne.symm KLG.out.2.1))).c 0, (Z9.out.fz (Fz.set w9 c 29 (Value.slice A9 n9 k9)) (by simp; exact (Ne.symm KLG.out.2.1))).c 1, (Z9.out.fz (Fz.set w9 c 29 (Value.slice A9 n9 k9)) (by simp; exact (Ne.symm KLG.out.2.1))).c 2, (Z9.out.fz (Fz.set w9 c 29 (Value.slice A9 n9 k9)) (by simp; exact (Ne.symm KLG.out.2.1))).c 3, (Z9.out.fz (Fz.set w9 c 29 (Value.slice A9 n9 k9)) (by simp; exact (Ne.symm KLG.out.2.1))).c 4, (Z9.out.fz (Fz.set w9 c 29 (Value.slice A9 n9 k9)) (by simp; exact (Ne.symm KLG.out.2.1))).c 5, (Z9.out.fz (Fz.set w9 c 29 (Value.slice A9 n9 k9)) (by simp; exact (Ne.symm KLG.out.2.1))).c 6, (Z9.out.fz (Fz.set w9 c 29 (Value.slice A9 n9 k9)) (by simp; exact (Ne.symm KLG.out.2.1))).c 7, (Z9.out.fz (Fz.set w9 c 29 (Value.slice A9 n9 k9)) (by simp; exact (Ne.symm KLG.out.2.1))).c 8, (Z9.out.fz (Fz.set w9 c 29 (Value.slice A9 n9 k9)) (by simp; exact (Ne.symm KLG.out.2.1))).c 9, (Z9.out.fz (Fz.set w9 c 29 (Value.slice A9 n9 k9)) (by simp; exact (Ne.symm KLG.out.2.1))).c 10, (Z9.out.fz (Fz.set w9 c 29 (Value.slice A9 n9 k9)) (by simp; exact (Ne.symm KLG.out.2.1))).c 11, (Z9.out.fz (Fz.set w9 c 29 (Value.slice A9 n9 k9)) (by simp; exact (Ne.symm KLG.out.2.1))).c 12⟩
          clear hK K
          try simp only [Act.put, List.setIfInBounds_toArray, List.set_cons_zero, List.set_cons_succ, List.getElem_toArray, List.getElem_cons_zero, List.getElem_cons_succ]
          refine wpAnyH_take (i := 8) (v := ?_) rfl (by kernel_rfl) (by kernel_rfl) (by kernel_rfl) (fun _ _ _ h => h) (Or.inl ⟨by rfl, ?_⟩) (by assumption) ?_
          rotate_left
          · intro w hSw; go_simp; (try with_reducible rfl)
          try simp only [Act.put, List.setIfInBounds_toArray, List.set_cons_zero, List.set_cons_succ, List.getElem_toArray, List.getElem_cons_zero, List.getElem_cons_succ]
          refine wpAnyH_take (i := 9) (v := ?_) rfl (by kernel_rfl) (by kernel_rfl) (by kernel_rfl) (fun _ _ _ h => h) (Or.inl ⟨by rfl, ?_⟩) (by assumption) ?_
          rotate_left
          · intro w hSw; go_simp; (try with_reducible rfl)
          try simp only [Act.put, List.setIfInBounds_toArray, List.set_cons_zero, List.set_cons_succ, List.getElem_toArray, List.getElem_cons_zero, List.getElem_cons_succ]
          refine wpAnyH_ready (rs := [10]) (by kernel_rfl) (by simp) ?_
          refine AllReadyH.cons rfl (fun K hK => ?_) AllReadyH.nil
          go_simp
          refine hK.out _ _ ?_ (fun hHeld => ?_)
          · first | exact ⟨KZ8.out.c 0, KZ8.out.c 1, KZ8.out.c 2, KZ8.out.c 3, KZ8.out.c 4, KZ8.out.c 5, KZ8.out.c 6, KZ8.out.c 7, KZ8.out.c 8, KZ8.out.c 9, KZ8.out.c 10, KZ8.out.c 11, KZ8.out.c 12⟩ | exact ⟨KZ8b.out.c 0, KZ8b.out.c 1, KZ8b.out.c 2, KZ8b.out.c 3, KZ8b.out.c 4, KZ8b.out.c 5, KZ8b.out.c 6, KZ8b.out.c 7, KZ8b.out.c 8, KZ8b.out.c 9, KZ8b.out.c 10, KZ8b.out.c 11, KZ8b.out.c 12⟩ | exact ⟨Z9.out.c 0, Z9.out.c 1, Z9.out.c 2, Z9.out.c 3, Z9.out.c 4, Z9.out.c 5, Z9.out.c 6, Z9.out.c 7, Z9.out.c 8, Z9.out.c 9, Z9.out.c 10, Z9.out.c 11, Z9.out.c 12⟩ | exact ⟨(Z9.out.fz (Fz.set w9 c 29 (Value.slice A9 n9 k9)) (by simp; exact (Ne.symm KLG.out.2.1))).c 0, (Z9.out.fz (Fz.set w9 c 29 (Value.slice A9 n9 k9)) (by simp; exact (Ne.symm KLG.out.2.1))).c 1, (Z9.out.fz (Fz.set w9 c 29 (Value.slice A9 n9 k9)) (by simp; exact (Ne.symm KLG.out.2.1))).c 2, (Z9.out.fz (Fz.set w9 c 29 (Value.slice A9 n9 k9)) (by simp; exact (Ne.symm KLG.out.2.1))).c 3, (Z9.out.fz (Fz.set w9 c 29 (Value.slice A9 n9 k9)) (by simp; exact (Ne.symm KLG.out.2.1))).c 4, (Z9.out.fz (Fz.set w9 c 29 (Value.slice A9 n9 k9)) (by simp; exact (Ne.symm KLG.out.2.1))).c 5, (Z9.out.fz (Fz.set w9 c 29 (Value.slice A9 n9 k9)) (by simp; exact (Ne.symm KLG.out.2.1))).c 6, (Z9.out.fz (Fz.set w9 c 29 (Value.slice A9 n9 k9)) (by simp; exact (Ne.symm KLG.out.2.1))).c 7, (Z9.out.fz (Fz.set w9 c 29 (Value.slice A9 n9 k9)) (by simp; exact (Ne.symm KLG.out.2.1))).c 8, (Z9.out.fz (Fz.set w9 c 29 (Value.slice A9 n9 k9)) (by simp; exact (Ne.symm KLG.out.2.1))).c 9, (Z9.out.fz (Fz.set w9 c 29 (Value.slice A9 n9 k9)) (by simp; exact (Ne.symm KLG.out.2.1))).c 10, (Z9.out.fz (Fz.set w9 c 29 (Value.slice A9 n9 k9)) (by simp; exact (Ne.symm KLG.out.2.1))).c 11, (Z9.out.fz (Fz.set w9 c 29 (Value.slice A9 n9 k9)) (by simp; exact (Ne.symm KLG.out.2.1))).c 12⟩
          clear hK K
          try simp only [Act.put, List.setIfInBounds_toArray, List.set_cons_zero, List.set_cons_succ, List.getElem_toArray, List.getElem_cons_zero, List.getElem_cons_succ]
          refine wpAnyH_done (by kernel_rfl) ?_ _
          refine NoPanic.normal ?_
          go_wp2_with fail
          go_roundw
          case rel =>
            refine .inr ⟨by go_num, ⟨(Value.slice A9 n9 k9), go, ?_⟩⟩
            have LC := C2.out.lt
            have LF := F2.out.lt
            have LW := HS2.out
            have LE := E2.out.size
            have T9 := Fz.set w9 c 29 (Value.slice A9 n9 k9)
            have FT : Fz w (w9.setCell ⟨c, 29, none⟩ (Value.slice A9 n9 k9)) (c :: fl :: ov.ownBlock.toList) := ((E2.out.trans X9.out).trans T9).mono (fun x _ hx => by
              simp only [List.mem_append, List.mem_cons, List.not_mem_nil, or_false] at hx
              rcases hx with (rfl | hx) | rfl
              · simp
              · simp only [List.mem_cons]; exact .inr (.inr hx)
              · simp)
            refine ⟨C9.out.set 29 _, F9.out.fz T9 (by simp; exact fun e => HND.out.1.2.2 e.symm), ⟨?_, fun x hx => ?_⟩, fun x hx => ?_, fun kb e => ?_, FT⟩
            · have hr := own_blockW HO9.out (w' := w9.setCell ⟨c, 29, none⟩ (Value.slice A9 n9 k9)) fun kb e => T9.block kb (let ⟨_, _, h2⟩ := own_ty HO9.out e; h2.lt) (by
                rcases HV9.out with h1 | ⟨kb', h1, h2⟩
                · simp; exact (HOV.out kb (h1 ▸ e)).2.2.1
                · rw [h1] at e; injection e with e; subst e; simp; omega)
              rw [List.length_append, List.flatMap_append]
              simpa using hr
            · rcases List.mem_append.1 hx with h1 | h1
              · exact (HOW.out.opt x h1).fz FT (by simp only [List.mem_cons, not_or]; exact HGT.out x h1)
              · obtain rfl : x = go := by simpa using h1
                exact G9.out.fz T9 (by simp; have := KLG.out.1; omega)
            · rcases List.mem_append.1 hx with h1 | h1
              · exact .inl h1
              · obtain rfl : x = go := by simpa using h1
                exact .inr (by have := KLG.out; omega)
            · rcases HV9.out with h1 | ⟨kb', h1, h2⟩
              · exact .inl (h1 ▸ e)
              · rw [h1] at e; injection e with e; subst e; exact .inr (by omega)
          case measure => simp [intOf]
      · go_simp
        refine hK.out _ _ ?_ (fun hHeld => ?_)
        · exact ⟨L2b.out.c 1, L2b.out.c 2, C2b.out.c 5, C2b.out.c 6, C2b.out.c 10, O2b.out.c 0, O2b.out.c 1, O2b.out.c 2, O2b.out.c 3, O2b.out.c 4, O2b.out.c 5, O2b.out.c 6, O2b.out.c 7, O2b.out.c 8⟩
        clear hK K
        try simp only [Act.put, List.setIfInBounds_toArray, List.set_cons_zero, List.set_cons_succ, List.getElem_toArray, List.getElem_cons_zero, List.getElem_cons_succ]
        refine wpAnyH_ready (rs := [40]) (by kernel_rfl) (by simp) ?_
        refine AllReadyH.cons rfl (fun K hK => ?_) AllReadyH.nil
        go_simp
        refine WB.out.mono ?_
        rintro e w5 ⟨rfl, n5, hw5⟩
        have B5 : Fz ((W.alloc (.cells zeroS 132)).drew) w5 [] := hw5 ▸ (Fz.drew _ n5)
        have O5 := Keep.mk (O2b.out.fz B5 (by simp))
        have C5 := Keep.mk (C2b.out.fz B5 (by simp))
        have L5 := Keep.mk (L2b.out.fz B5 (by simp))
        have F5 := Keep.mk (F2b.out.fz B5 (by simp))
        have Z5 := Keep.mk (Z2b.out.fz B5 (by simp))
        have G5 : Keep (Fz W w5 []) := ⟨(E2b.out.trans B5).mono (by simp)⟩
        clear hw5 B5
        refine hK.out _ _ ?_ (fun hHeld => ?_)
        · exact ⟨L5.out.c 1, L5.out.c 2, C5.out.c 5, C5.out.c 6, C5.out.c 10, O5.out.c 0, O5.out.c 1, O5.out.c 2, O5.out.c 3, O5.out.c 4, O5.out.c 5, O5.out.c 6, O5.out.c 7, O5.out.c 8⟩
        clear hK K
        try simp only [Act.put, List.setIfInBounds_toArray, List.set_cons_zero, List.set_cons_succ, List.getElem_toArray, List.getElem_cons_zero, List.getElem_cons_succ]
        refine wpAnyH_take (i := 41) (v := ?_) rfl (by kernel_rfl) (by kernel_rfl) (by kernel_rfl) (fun _ _ _ h => h) (Or.inl ⟨by rfl, ?_⟩) (by assumption) ?_
        rotate_left
        · intro w hSw; go_simp; (try with_reducible rfl)
        try simp only [Act.put, List.setIfInBounds_toArray, List.set_cons_zero, List.set_cons_succ, List.getElem_toArray, List.getElem_cons_zero, List.getElem_cons_succ]
        refine wpAnyH_ready (rs := [43]) (by kernel_rfl) (by simp) ?_
        refine AllReadyH.cons rfl (fun K hK => ?_) AllReadyH.nil
        refine step_store_row rfl 132 (.tmp 9) (.tmp 63) rfl W.heap.size (segZ p1 p2 s) rfl rfl 132 zeroS Z5.out.eq (by kernel_rfl) rfl HON.out ?_
        obtain ⟨w6, hw6⟩ : ∃ w6, w5.setRow W.heap.size (segZ p1 p2 s) = w6 := ⟨_, rfl⟩
        have Z6 : Bk w6 W.heap.size (segZ p1 p2 s) 132 := hw6 ▸ ⟨setRow_heap _ _ _ _ _ _ Z5.out.eq⟩
        have X6 : Fz W w6 [] := hw6 ▸ (G5.out.trans (Fz.row w5 W.heap.size (segZ p1 p2 s))).mono (by simp; omega)
        have NS := O5.out.lt
        have Y6 : Fz w5 w6 [W.heap.size] := hw6 ▸ Fz.row w5 W.heap.size (segZ p1 p2 s)
        have O6 := O5.out.fz Y6 (by simp; have := O2.out.lt; omega)
        have C6 := C5.out.fz Y6 (by simp; have := C2.out.lt; omega)
        have L6 := L5.out.fz Y6 (by simp; have := L2.out.lt; omega)
        have F6 := F5.out.fz Y6 (by simp; have := F2.out.lt; omega)
        obtain ⟨sb, hsb⟩ : ∃ sb, W.heap.size = sb := ⟨_, rfl⟩
        have HSB : W.heap.size ≤ sb := by have := G5.out.size; omega
        rw [hsb] at Z6
        rw [hw6]
        refine hK.out _ _ ?_ (fun hHeld => ?_)
        · exact ⟨L6.c 1, L6.c 2, C6.c 5, C6.c 6, C6.c 10, O6.c 0, O6.c 1, O6.c 2, O6.c 3, O6.c 4, O6.c 5, O6.c 6, O6.c 7, O6.c 8⟩
        clear hK K hHeld
        try simp only [Act.put, List.setIfInBounds_toArray, List.set_cons_zero, List.set_cons_succ, List.getElem_toArray, List.getElem_cons_zero, List.getElem_cons_succ]
        refine wpAnyH_done (by kernel_rfl) ?_ _
        refine NoPanic.normal ?_
        try rw [hsb]
        have KZ6 := Keep.mk Z6
        have KX6 := Keep.mk X6
        have KF6 := Keep.mk F6
        have KC6 := Keep.mk C6
        have KS := Keep.mk HSB
        have pp0 : w6.cell? ⟨wr.heap.size, 0, none⟩ = some (.int .u32 s) := O6.c 0
        have pp1 : w6.cell? ⟨wr.heap.size, 1, none⟩ = some (.bool true) := O6.c 1
        have pp2 : w6.cell? ⟨wr.heap.size, 2, none⟩ = some (.bool false) := O6.c 2
        have pp3 : w6.cell? ⟨wr.heap.size, 3, none⟩ = some (.slice none 0 0) := O6.c 3
        have pp4 : w6.cell? ⟨wr.heap.size, 4, none⟩ = some (.int .i64 0) := O6.c 4
        have pp5 : w6.cell? ⟨wr.heap.size, 5, none⟩ = some (.bool false) := O6.c 5
        have pp6 : w6.cell? ⟨wr.heap.size, 6, none⟩ = some (.int .u32 0) := O6.c 6
        have pp7 : w6.cell? ⟨wr.heap.size, 7, none⟩ = some (.bool false) := O6.c 7
        have pp8 : w6.cell? ⟨wr.heap.size, 8, none⟩ = some (.bool false) := O6.c 8
        have WI := Keep.mk (with_syn s C6 L6)
        clear Z6 X6 F6 C6 L6 O6 HSB Y6 hw6 hsb
        go_wp2_with (first
          | (go_at_call 270
             go_loud (refine WI.out.mono ?_; rintro e w7 ⟨go, rfl, lo7, k7, hb7⟩)
             have B7 := Fz.below hb7 (Nat.le_refl _)
             have Z7 := KZ6.out.fz B7 (by simp)
             have c11 : w7.cell? ⟨sb, 11, none⟩ = some (.slice none 0 0) := Z7.c 11
             have f11 := Z7.free 11
             have KZ7 := Keep.mk Z7
             have KB7 := Keep.mk B7
             have K7 := Keep.mk k7
             have LO7 := Keep.mk lo7
             have d11 : (w7.setCell ⟨sb, 11, none⟩ (.slice (some ⟨go, 0, none⟩) 1 1)).cell? ⟨sb, 11, none⟩ = some (.slice (some ⟨go, 0, none⟩) 1 1) := (Z7.set 11 _).c 11
             have g11 := (Z7.set 11 (.slice (some ⟨go, 0, none⟩) 1 1)).free 11
             clear lo7 k7 hb7 B7 Z7)
          | fail)
        obtain ⟨w8, hw8⟩ : ∃ w8, (w7.setCell ⟨sb, 11, none⟩ (.slice (some ⟨go, 0, none⟩) 1 1)).setCell ⟨sb, 11, none⟩ (.slice (some ⟨go, 0, none⟩) 1 1) = w8 := ⟨_, rfl⟩
        have Y8 : Fz w7 w8 [sb] := hw8 ▸ ((Fz.set w7 sb 11 _).trans (Fz.set _ sb 11 _)).mono (by simp)
        have z8 := (KZ7.out.set 11 (.slice (some ⟨go, 0, none⟩) 1 1)).set 11 (.slice (some ⟨go, 0, none⟩) 1 1)
        rw [hw8] at z8
        have Z8 : Bk w8 sb (segS p1 p2 s go).toArray 132 := z8
        have HCS : c ≠ sb := by have := C2.out.lt; have := KS.out; omega
        have HFS : fl ≠ sb := by have := F2.out.lt; have := KS.out; omega
        have HGS : go ≠ sb := by have := LO7.out; have := KZ6.out.lt; omega
        have C8 := (KC6.out.fz KB7.out (by simp)).fz Y8 (by simp; exact HCS)
        have F8 := (KF6.out.fz KB7.out (by simp)).fz Y8 (by simp; exact HFS)
        have G8 := K7.out.fz Y8 (by simp; exact HGS)
        have X8 : Fz W w8 [] := ((KX6.out.trans KB7.out).trans Y8).mono (by simp; have := KS.out; omega)
        rw [hw8]
        have c29 : w8.drew.cell? ⟨c, 29, none⟩ = some ov := C8.c 29
        have AB := (Fz.alloc w8 (.cells (segS p1 p2 s go).toArray 132)).trans (Fz.drew _ 1)
        have C8b := C8.fz AB (by simp)
        have c29b : (w8.alloc (.cells #[.int .i64 0, .int .i64 1, .int .i64 p1, .int .i64 p2, .int .u32 s, .int .u32 0, .bool true, .bool false, .bool false, .bool false, .int .i64 32, .slice (some ⟨go, 0, none⟩) 1 1, .slice none 0 0] 132)).drew.cell? ⟨c, 29, none⟩ = some ov := C8b.c 29
        have KC8 := Keep.mk C8b
        have KF8 := Keep.mk (F8.fz AB (by simp))
        have KG8 := Keep.mk (G8.fz AB (by simp))
        have KZ8 := Keep.mk Z8
        have KZ8b := Keep.mk (Z8.fz AB (by simp))
        have KX8 : Keep (Fz W (w8.alloc (.cells (segS p1 p2 s go).toArray 132)).drew []) := ⟨(X8.trans AB).mono (by simp)⟩
        have KLG : Keep (W.heap.size ≤ go ∧ c ≠ sb ∧ w.heap.size ≤ W.heap.size ∧ W.heap.size ≤ sb) := ⟨by have := LO7.out; have := KX6.out.size; omega, HCS, E2.out.size, KS.out⟩
        have KRW : Keep ((w8.alloc (.cells (segS p1 p2 s go).toArray 132)).drew.ownsRow lo 132 13 ov gos.length (gos.flatMap (segS p1 p2 s))) := ⟨own_blockW HOW.out.row fun kb e => (KX8.out.block kb (by have := HOV.out kb e; have := E2.out.size; omega) (by simp)).trans (E2.out.block kb (HOV.out kb e).2.1 (by simp; exact (HOV.out kb e).2.2.2))⟩
        have KSZ : Keep (W.heap.size ≤ (w8.alloc (.cells (segS p1 p2 s go).toArray 132)).drew.heap.size) := ⟨KX8.out.size⟩
        clear Y8 z8 Z8 HCS HFS HGS C8 F8 G8 X8 AB C8b hw8 d11 g11 c11 f11
        refine wp_region_noPanic ?_
        refine wp_region_held_drew (S := fun X => X.cell? ⟨sb, 0, none⟩ = some (.int .i64 0) ∧ X.cell? ⟨sb, 1, none⟩ = some (.int .i64 1) ∧ X.cell? ⟨sb, 2, none⟩ = some (.int .i64 p1) ∧ X.cell? ⟨sb, 3, none⟩ = some (.int .i64 p2) ∧ X.cell? ⟨sb, 4, none⟩ = some (.int .u32 s) ∧ X.cell? ⟨sb, 5, none⟩ = some (.int .u32 0) ∧ X.cell? ⟨sb, 6, none⟩ = some (.bool true) ∧ X.cell? ⟨sb, 7, none⟩ = some (.bool false) ∧ X.cell? ⟨sb, 8, none⟩ = some (.bool false) ∧ X.cell? ⟨sb, 9, none⟩ = some (.bool false) ∧ X.cell? ⟨sb, 10, none⟩ = some (.int .i64 32) ∧ X.cell? ⟨sb, 11, none⟩ = some (.slice (some ⟨go, 0, none⟩) 1 1) ∧ X.cell? ⟨sb, 12, none⟩ = some (.slice none 0 0)) (by kernel_rfl) ⟨KZ8.out.c 0, KZ8.out.c 1, KZ8.out.c 2, KZ8.out.c 3, KZ8.out.c 4, KZ8.out.c 5, KZ8.out.c 6, KZ8.out.c 7, KZ8.out.c 8, KZ8.out.c 9, KZ8.out.c 10, KZ8.out.c 11, KZ8.out.c 12⟩ (fun hHeld => ?_)
        refine wpAnyH_take (i := 0) (v := ?_) rfl (by kernel_rfl) (by kernel_rfl) (by kernel_rfl) (fun _ _ _ h => h) (Or.inl ⟨by rfl, ?_⟩) (by assumption) ?_
        rotate_left
        · intro w hSw; go_simp; (try with_reducible rfl)
        try simp only [Act.put, List.setIfInBounds_toArray, List.set_cons_zero, List.set_cons_succ, List.getElem_toArray, List.getElem_cons_zero, List.getElem_cons_succ]
        refine wpAnyH_take (i := 1) (v := ?_) rfl (by kernel_rfl) (by kernel_rfl) (by kernel_rfl) (fun _ _ _ h => h) (Or.inl ⟨by rfl, ?_⟩) (by assumption) ?_
        rotate_left
        · intro w hSw; go_simp; (try with_reducible rfl)
        try simp only [Act.put, List.setIfInBounds_toArray, List.set_cons_zero, List.set_cons_succ, List.getElem_toArray, List.getElem_cons_zero, List.getElem_cons_succ]
        refine wpAnyH_take (i := 2) (v := ?_) rfl (by kernel_rfl) (by kernel_rfl) (by kernel_rfl) (fun _ _ _ h => h) (Or.inl ⟨by rfl, ?_⟩) (by assumption) ?_
        rotate_left
        · intro w hSw; go_simp; (try with_reducible rfl)
        try simp only [Act.put, List.setIfInBounds_toArray, List.set_cons_zero, List.set_cons_succ, List.getElem_toArray, List.getElem_cons_zero, List.getElem_cons_succ]
        refine wpAnyH_take (i := 3) (v := ?_) rfl (by kernel_rfl) (by kernel_rfl) (by kernel_rfl) (fun _ _ _ h => h) (Or.inl ⟨by rfl, ?_⟩) (by assumption) ?_
        rotate_left
        · intro w hSw; go_simp; (try with_reducible rfl)
        try simp only [Act.put, List.setIfInBounds_toArray, List.set_cons_zero, List.set_cons_succ, List.getElem_toArray, List.getElem_cons_zero, List.getElem_cons_succ]
        refine wpAnyH_take (i := 5) (v := ?_) rfl (by kernel_rfl) (by kernel_rfl) (by kernel_rfl) (fun _ _ _ h => h) (Or.inl ⟨by rfl, ?_⟩) (by assumption) ?_
        rotate_left
        · intro w hSw; go_simp; (try with_reducible rfl)
        try simp only [Act.put, List.setIfInBounds_toArray, List.set_cons_zero, List.set_cons_succ, List.getElem_toArray, List.getElem_cons_zero, List.getElem_cons_succ]
        refine wpAnyH_ready (rs := [4, 6]) (by kernel_rfl) (by simp) ?_
        refine AllReadyH.cons rfl (fun K hK => ?_) (AllReadyH.cons rfl (fun K hK => ?_) AllReadyH.nil)
        · go_simp
          refine hK.out _ _ ?_ (fun hHeld => ?_)
          · first | exact ⟨KZ8.out.c 0, KZ8.out.c 1, KZ8.out.c 2, KZ8.out.c 3, KZ8.out.c 4, KZ8.out.c 5, KZ8.out.c 6, KZ8.out.c 7, KZ8.out.c 8, KZ8.out.c 9, KZ8.out.c 10, KZ8.out.c 11, KZ8.out.c 12⟩ | exact ⟨KZ8b.out.c 0, KZ8b.out.c 1, KZ8b.out.c 2, KZ8b.out.c 3, KZ8b.out.c 4, KZ8b.out.c 5, KZ8b.out.c 6, KZ8b.out.c 7, KZ8b.out.c 8, KZ8b.out.c 9, KZ8b.out.c 10, KZ8b.out.c 11, KZ8b.out.c 12⟩ | exact ⟨Z9.out.c 0, Z9.out.c 1, Z9.out.c 2, Z9.out.c 3, Z9.out.c 4, Z9.out.c 5, Z9.out.c 6, Z9.out.c 7, Z9.out.c 8, Z9.out.c 9, Z9.out.c 10, Z9.out.c 11, Z9.out.c 12⟩ | exact ⟨(Z9.out.fz (Fz.set w9 c 29 (Value.slice A9 n9 k9)) (by simp; exact (Ne.symm KLG.out.2.1))).c 0, (Z9.out.fz (Fz.set w9 c 29 (Value.slice A9 n9 k9)) (by simp; exact (Ne.symm KLG.out.2.1))).c 1, (Z9.out.fz (Fz.set w9 c 29 (Value.slice A9 n9 k9)) (by simp; exact (Ne.symm KLG.out.2.1))).c 2, (Z9.out.fz (Fz.set w9 c 29 (Value.slice A9 n9 k9)) (by simp; exact (Ne.symm KLG.out.2.1))).c 3, (Z9.out.fz (Fz.set w9 c 29 (Value.slice A9 n9 k9)) (by simp; exact (Ne.symm KLG.out.2.1))).c 4, (Z9.out.fz (Fz.set w9 c 29 (Value.slice A9 n9 k9)) (by simp; exact (Ne.symm KLG.out.2.1))).c 5, (Z9.out.fz (Fz.set w9 c 29 (Value.slice A9 n9 k9)) (by simp; exact (Ne.symm KLG.out.2.1))).c 6, (Z9.out.fz (Fz.set w9 c 29 (Value.slice A9 n9 k9)) (by simp; exact (Ne.symm KLG.out.2.1))).c 7, (Z9.out.fz (Fz.set w9 c 29 (Value.slice A9 n9 k9)) (by simp; exact (Ne.symm KLG.out.2.1))).c 8, (Z9.out.fz (Fz.set w9 c 29 (Value.slice A9 n9 k9)) (by simp; exact (Ne.symm KLG.out.2.1))).c 9, (Z9.out.fz (Fz.set w9 c 29 (Value.slice A9 n9 k9)) (by simp; exact (Ne.symm KLG.out.2.1))).c 10, (Z9.out.fz (Fz.set w9 c 29 (Value.slice A9 n9 k9)) (by simp; exact (Ne.symm KLG.out.2.1))).c 11, (Z9.out.fz (Fz.set w9 c 29 (Value.slice A9 n9 k9)) (by simp; exact (Ne.symm KLG.out.2.1))).c 12⟩
          clear hK K
          try simp only [Act.put, List.setIfInBounds_toArray, List.set_cons_zero, List.set_cons_succ, List.getElem_toArray, List.getElem_cons_zero, List.getElem_cons_succ]
          refine wpAnyH_ready (rs := [6]) (by kernel_rfl) (by simp) ?_
          refine AllReadyH.cons rfl (fun K hK => ?_) AllReadyH.nil
          go_simp
          refine hK.out _ _ ?_ (fun hHeld => ?_)
          · first | exact ⟨KZ8.out.c 0, KZ8.out.c 1, KZ8.out.c 2, KZ8.out.c 3, KZ8.out.c 4, KZ8.out.c 5, KZ8.out.c 6, KZ8.out.c 7, KZ8.out.c 8, KZ8.out.c 9, KZ8.out.c 10, KZ8.out.c 11, KZ8.out.c 12⟩ | exact ⟨KZ8b.out.c 0, KZ8b.out.c 1, KZ8b.out.c 2, KZ8b.out.c 3, KZ8b.out.c 4, KZ8b.out.c 5, KZ8b.out.c 6, KZ8b.out.c 7, KZ8b.out.c 8, KZ8b.out.c 9, KZ8b.out.c 10, KZ8b.out.c 11, KZ8b.out.c 12⟩ | exact ⟨Z9.out.c 0, Z9.out.c 1, Z9.out.c 2, Z9.out.c 3, Z9.out.c 4, Z9.out.c 5, Z9.out.c 6, Z9.out.c 7, Z9.out.c 8, Z9.out.c 9, Z9.out.c 10, Z9.out.c 11, Z9.out.c 12⟩ | exact ⟨(Z9.out.fz (Fz.set w9 c 29 (Value.slice A9 n9 k9)) (by simp; exact (Ne.symm KLG.out.2.1))).c 0, (Z9.out.fz (Fz.set w9 c 29 (Value.slice A9 n9 k9)) (by simp; exact (Ne.symm KLG.out.2.1))).c 1, (Z9.out.fz (Fz.set w9 c 29 (Value.slice A9 n9 k9)) (by simp; exact (Ne.symm KLG.out.2.1))).c 2, (Z9.out.fz (Fz.set w9 c 29 (Value.slice A9 n9 k9)) (by simp; exact (Ne.symm KLG.out.2.1))).c 3, (Z9.out.fz (Fz.set w9 c 29 (Value.slice A9 n9 k9)) (by simp; exact (Ne.symm KLG.out.2.1))).c 4, (Z9.out.fz (Fz.set w9 c 29 (Value.slice A9 n9 k9)) (by simp; exact (Ne.symm KLG.out.2.1))).c 5, (Z9.out.fz (Fz.set w9 c 29 (Value.slice A9 n9 k9)) (by simp; exact (Ne.symm KLG.out.2.1))).c 6, (Z9.out.fz (Fz.set w9 c 29 (Value.slice A9 n9 k9)) (by simp; exact (Ne.symm KLG.out.2.1))).c 7, (Z9.out.fz (Fz.set w9 c 29 (Value.slice A9 n9 k9)) (by simp; exact (Ne.symm KLG.out.2.1))).c 8, (Z9.out.fz (Fz.set w9 c 29 (Value.slice A9 n9 k9)) (by simp; exact (Ne.symm KLG.out.2.1))).c 9, (Z9.out.fz (Fz.set w9 c 29 (Value.slice A9 n9 k9)) (by simp; exact (Ne.symm KLG.out.2.1))).c 10, (Z9.out.fz (Fz.set w9 c 29 (Value.slice A9 n9 k9)) (by simp; exact (Ne.symm KLG.out.2.1))).c 11, (Z9.out.fz (Fz.set w9 c 29 (Value.slice A9 n9 k9)) (by simp; exact (Ne.symm KLG.out.2.1))).c 12⟩
          clear hK K
          try simp only [Act.put, List.setIfInBounds_toArray, List.set_cons_zero, List.set_cons_succ, List.getElem_toArray, List.getElem_cons_zero, List.getElem_cons_succ]
          refine wpAnyH_ready (rs := [7]) (by kernel_rfl) (by simp) ?_
          refine AllReadyH.cons rfl (fun K hK => ?_) AllReadyH.nil
          refine step_more rfl (.tmp 83) (.tmp 85) 90 132 rfl Tryz.underlying90 infoSeg rfl (by omega) (by omega) ov rfl _ (segS p1 p2 s go) rfl rfl (fun j u hu => ?_) ?_ (by simp [Value.oneCell']) lo gos.length _ KRW.out (Nat.le_trans (Nat.le_trans HLO.out.1 KLG.out.2.2.1) KSZ.out) (by have := HLO.out.2; omega) ?_
          · exact ((Bk.new w8 (segS p1 p2 s go).toArray 132).c j).trans (Array.getElem?_toList.symm.trans hu)
          · show w8.heap.size < (w8.alloc (.cells (segS p1 p2 s go).toArray 132)).heap.size
            simp
          intro v' w9 ho9 hg9 hv9
          obtain ⟨A9, n9, k9, rfl⟩ : ∃ A n k, v' = Value.slice A n k := by
            rcases ho9.2 with ⟨h, _⟩ | ⟨g, cap, _, h, _⟩
            · exact ⟨_, _, _, h⟩
            · exact ⟨_, _, _, h⟩
          have B9 := Fz.grown hg9
          have NOV : ∀ x, w.heap.size ≤ x ∨ x = c ∨ x = fl → x ∉ ov.ownBlock.toList := fun x hx e => by
            have := HOV.out x (by simpa using e)
            rcases hx with h1 | h1 | h1
            · omega
            · exact this.2.2.1 h1
            · exact this.2.2.2 h1
          have C9 := Keep.mk (KC8.out.fz B9 (NOV _ (.inr (.inl rfl))))
          have F9 := Keep.mk (KF8.out.fz B9 (NOV _ (.inr (.inr rfl))))
          have G9 := Keep.mk (KG8.out.fz B9 (NOV _ (.inl (by have := KLG.out; omega))))
          have Z9 := Keep.mk (KZ8b.out.fz B9 (NOV _ (.inl (by have := KLG.out; omega))))
          have X9 : Keep (Fz W w9 ov.ownBlock.toList) := ⟨(KX8.out.trans B9).mono (by simp)⟩
          have HO9 := Keep.mk ho9
          have HV9 : Keep ((Value.slice A9 n9 k9).ownBlock = ov.ownBlock ∨ ∃ kb, (Value.slice A9 n9 k9).ownBlock = some kb ∧ W.heap.size ≤ kb) := ⟨hv9.imp id fun e => ⟨_, e, KSZ.out⟩⟩
          have d29 : w9.cell? ⟨c, 29, none⟩ = some ov := C9.out.c 29
          have e29 := C9.out.free 29
          clear ho9 hg9 hv9 B9 NOV
          refine hK.out _ _ ?_ (fun hHeld => ?_)
          · first | exact ⟨KZ8.out.c 0, KZ8.out.c 1, KZ8.out.c 2, KZ8.out.c 3, KZ8.out.c 4, KZ8.out.c 5, KZ8.out.c 6, KZ8.out.c 7, KZ8.out.c 8, KZ8.out.c 9, KZ8.out.c 10, KZ8.out.c 11, KZ8.out.c 12⟩ | exact ⟨KZ8b.out.c 0, KZ8b.out.c 1, KZ8b.out.c 2, KZ8b.out.c 3, KZ8b.out.c 4, KZ8b.out.c 5, KZ8b.out.c 6, KZ8b.out.c 7, KZ8b.out.c 8, KZ8b.out.c 9, KZ8b.out.c 10, KZ8b.out.c 11, KZ8b.out.c 12⟩ | exact ⟨Z9.out.c 0, Z9.out.c 1, Z9.out.c 2, Z9.out.c 3, Z9.out.c 4, Z9.out.c 5, Z9.out.c 6, Z9.out.c 7, Z9.out.c 8, Z9.out.c 9, Z9.out.c 10, Z9.out.c 11, Z9.out.c 12⟩ | exact ⟨(Z9.out.fz (Fz.set w9 c 29 (Value.slice A9 n9 k9)) (by simp; exact (Ne.symm KLG.out.2.1))).c 0, (Z9.out.fz (Fz.set w9 c 29 (Value.slice A9 n9 k9)) (by simp; exact (Ne.symm KLG.out.2.1))).c 1, (Z9.out.fz (Fz.set w9 c 29 (Value.slice A9 n9 k9)) (by simp; exact (Ne.symm KLG.out.2.1))).c 2, (Z9.out.fz (Fz.set w9 c 29 (Value.slice A9 n9 k9)) (by simp; exact (Ne.symm KLG.out.2.1))).c 3, (Z9.out.fz (Fz.set w9 c 29 (Value.slice A9 n9 k9)) (by simp; exact (Ne.symm KLG.out.2.1))).c 4, (Z9.out.fz (Fz.set w9 c 29 (Value.slice A9 n9 k9)) (by simp; exact (Ne.symm KLG.out.2.1))).c 5, (Z9.out.fz (Fz.set w9 c 29 (Value.slice A9 n9 k9)) (by simp; exact (Ne.symm KLG.out.2.1))).c 6, (Z9.out.fz (Fz.set w9 c 29 (Value.slice A9 n9 k9)) (by simp; exact (Ne.symm KLG.out.2.1))).c 7, (Z9.out.fz (Fz.set w9 c 29 (Value.slice A9 n9 k9)) (by simp; exact (Ne.symm KLG.out.2.1))).c 8, (Z9.out.fz (Fz.set w9 c 29 (Value.slice A9 n9 k9)) (by simp; exact (Ne.symm KLG.out.2.1))).c 9, (Z9.out.fz (Fz.set w9 c 29 (Value.slice A9 n9 k9)) (by simp; exact (Ne.symm KLG.out.2.1))).c 10, (Z9.out.fz (Fz.set w9 c 29 (Value.slice A9 n9 k9)) (by simp; exact (Ne.symm KLG.out.2.1))).c 11, (Z9.out.fz (Fz.set w9 c 29 (Value.slice A9 n9 k9)) (by simp; exact (Ne.symm KLG.out.2.1))).c 12⟩
          clear hK K
          try simp only [Act.put, List.setIfInBounds_toArray, List.set_cons_zero, List.set_cons_succ, List.getElem_toArray, List.getElem_cons_zero, List.getElem_cons_succ]
          refine wpAnyH_take (i := 8) (v := ?_) rfl (by kernel_rfl) (by kernel_rfl) (by kernel_rfl) (fun _ _ _ h => h) (Or.inl ⟨by rfl, ?_⟩) (by assumption) ?_
          rotate_left
          · intro w hSw; go_simp; (try with_reducible rfl)
          try simp only [Act.put, List.setIfInBounds_toArray, List.set_cons_zero, List.set_cons_succ, List.getElem_toArray, List.getElem_cons_zero, List.getElem_cons_succ]
          refine wpAnyH_take (i := 9) (v := ?_) rfl (by kernel_rfl) (by kernel_rfl) (by kernel_rfl) (fun _ _ _ h => h) (Or.inl ⟨by rfl, ?_⟩) (by assumption) ?_
          rotate_left
          · intro w hSw; go_simp; (try with_reducible rfl)
          try simp only [Act.put, List.setIfInBounds_toArray, List.set_cons_zero, List.set_cons_succ, List.getElem_toArray, List.getElem_cons_zero, List.getElem_cons_succ]
          refine wpAnyH_ready (rs := [10]) (by kernel_rfl) (by simp) ?_
          refine AllReadyH.cons rfl (fun K hK => ?_) AllReadyH.nil
          go_simp
          refine hK.out _ _ ?_ (fun hHeld => ?_)
          · first | exact ⟨KZ8.out.c 0, KZ8.out.c 1, KZ8.out.c 2, KZ8.out.c 3, KZ8.out.c 4, KZ8.out.c 5, KZ8.out.c 6, KZ8.out.c 7, KZ8.out.c 8, KZ8.out.c 9, KZ8.out.c 10, KZ8.out.c 11, KZ8.out.c 12⟩ | exact ⟨KZ8b.out.c 0, KZ8b.out.c 1, KZ8b.out.c 2, KZ8b.out.c 3, KZ8b.out.c 4, KZ8b.out.c 5, KZ8b.out.c 6, KZ8b.out.c 7, KZ8b.out.c 8, KZ8b.out.c 9, KZ8b.out.c 10, KZ8b.out.c 11, KZ8b.out.c 12⟩ | exact ⟨Z9.out.c 0, Z9.out.c 1, Z9.out.c 2, Z9.out.c 3, Z9.out.c 4, Z9.out.c 5, Z9.out.c 6, Z9.out.c 7, Z9.out.c 8, Z9.out.c 9, Z9.out.c 10, Z9.out.c 11, Z9.out.c 12⟩ | exact ⟨(Z9.out.fz (Fz.set w9 c 29 (Value.slice A9 n9 k9)) (by simp; exact (Ne.symm KLG.out.2.1))).c 0, (Z9.out.fz (Fz.set w9 c 29 (Value.slice A9 n9 k9)) (by simp; exact (Ne.symm KLG.out.2.1))).c 1, (Z9.out.fz (Fz.set w9 c 29 (Value.slice A9 n9 k9)) (by simp; exact (Ne.symm KLG.out.2.1))).c 2, (Z9.out.fz (Fz.set w9 c 29 (Value.slice A9 n9 k9)) (by simp; exact (Ne.symm KLG.out.2.1))).c 3, (Z9.out.fz (Fz.set w9 c 29 (Value.slice A9 n9 k9)) (by simp; exact (Ne.symm KLG.out.2.1))).c 4, (Z9.out.fz (Fz.set w9 c 29 (Value.slice A9 n9 k9)) (by simp; exact (Ne.symm KLG.out.2.1))).c 5, (Z9.out.fz (Fz.set w9 c 29 (Value.slice A9 n9 k9)) (by simp; exact (Ne.symm KLG.out.2.1))).c 6, (Z9.out.fz (Fz.set w9 c 29 (Value.slice A9 n9 k9)) (by simp; exact (Ne.symm KLG.out.2.1))).c 7, (Z9.out.fz (Fz.set w9 c 29 (Value.slice A9 n9 k9)) (by simp; exact (Ne.symm KLG.out.2.1))).c 8, (Z9.out.fz (Fz.set w9 c 29 (Value.slice A9 n9 k9)) (by simp; exact (Ne.symm KLG.out.2.1))).c 9, (Z9.out.fz (Fz.set w9 c 29 (Value.slice A9 n9 k9)) (by simp; exact (Ne.symm KLG.out.2.1))).c 10, (Z9.out.fz (Fz.set w9 c 29 (Value.slice A9 n9 k9)) (by simp; exact (Ne.symm KLG.out.2.1))).c 11, (Z9.out.fz (Fz.set w9 c 29 (Value.slice A9 n9 k9)) (by simp; exact (Ne.symm KLG.out.2.1))).c 12⟩
          clear hK K
          try simp only [Act.put, List.setIfInBounds_toArray, List.set_cons_zero, List.set_cons_succ, List.getElem_toArray, List.getElem_cons_zero, List.getElem_cons_succ]
          refine wpAnyH_done (by kernel_rfl) ?_ _
          refine NoPanic.normal ?_
          go_wp2_with fail
          go_roundw
          case rel =>
            refine .inr ⟨by go_num, ⟨(Value.slice A9 n9 k9), go, ?_⟩⟩
            have LC := C2.out.lt
            have LF := F2.out.lt
            have LW := HS2.out
            have LE := E2.out.size
            have T9 := Fz.set w9 c 29 (Value.slice A9 n9 k9)
            have FT : Fz w (w9.setCell ⟨c, 29, none⟩ (Value.slice A9 n9 k9)) (c :: fl :: ov.ownBlock.toList) := ((E2.out.trans X9.out).trans T9).mono (fun x _ hx => by
              simp only [List.mem_append, List.mem_cons, List.not_mem_nil, or_false] at hx
              rcases hx with (rfl | hx) | rfl
              · simp
              · simp only [List.mem_cons]; exact .inr (.inr hx)
              · simp)
            refine ⟨C9.out.set 29 _, F9.out.fz T9 (by simp; exact fun e => HND.out.1.2.2 e.symm), ⟨?_, fun x hx => ?_⟩, fun x hx => ?_, fun kb e => ?_, FT⟩
            · have hr := own_blockW HO9.out (w' := w9.setCell ⟨c, 29, none⟩ (Value.slice A9 n9 k9)) fun kb e => T9.block kb (let ⟨_, _, h2⟩ := own_ty HO9.out e; h2.lt) (by
                rcases HV9.out with h1 | ⟨kb', h1, h2⟩
                · simp; exact (HOV.out kb (h1 ▸ e)).2.2.1
                · rw [h1] at e; injection e with e; subst e; simp; omega)
              rw [List.length_append, List.flatMap_append]
              simpa using hr
            · rcases List.mem_append.1 hx with h1 | h1
              · exact (HOW.out.opt x h1).fz FT (by simp only [List.mem_cons, not_or]; exact HGT.out x h1)
              · obtain rfl : x = go := by simpa using h1
                exact G9.out.fz T9 (by simp; have := KLG.out.1; omega)
            · rcases List.mem_append.1 hx with h1 | h1
              · exact .inl h1
              · obtain rfl : x = go := by simpa using h1
                exact .inr (by have := KLG.out; omega)
            · rcases HV9.out with h1 | ⟨kb', h1, h2⟩
              · exact .inl (h1 ▸ e)
              · rw [h1] at e; injection e with e; subst e; exact .inr (by omega)
          case measure => simp [intOf]
        · go_simp
          refine hK.out _ _ ?_ (fun hHeld => ?_)
          · first | exact ⟨KZ8.out.c 0, KZ8.out.c 1, KZ8.out.c 2, KZ8.out.c 3, KZ8.out.c 4, KZ8.out.c 5, KZ8.out.c 6, KZ8.out.c 7, KZ8.out.c 8, KZ8.out.c 9, KZ8.out.c 10, KZ8.out.c 11, KZ8.out.c 12⟩ | exact ⟨KZ8b.out.c 0, KZ8b.out.c 1, KZ8b.out.c 2, KZ8b.out.c 3, KZ8b.out.c 4, KZ8b.out.c 5, KZ8b.out.c 6, KZ8b.out.c 7, KZ8b.out.c 8, KZ8b.out.c 9, KZ8b.out.c 10, KZ8b.out.c 11, KZ8b.out.c 12⟩ | exact ⟨Z9.out.c 0, Z9.out.c 1, Z9.out.c 2, Z9.out.c 3, Z9.out.c 4, Z9.out.c 5, Z9.out.c 6, Z9.out.c 7, Z9.out.c 8, Z9.out.c 9, Z9.out.c 10, Z9.out.c 11, Z9.out.c 12⟩ | exact ⟨(Z9.out.fz (Fz.set w9 c 29 (Value.slice A9 n9 k9)) (by simp; exact (Ne.symm KLG.out.2.1))).c 0, (Z9.out.fz (Fz.set w9 c 29 (Value.slice A9 n9 k9)) (by simp; exact (Ne.symm KLG.out.2.1))).c 1, (Z9.out.fz (Fz.set w9 c 29 (Value.slice A9 n9 k9)) (by simp; exact (Ne.symm KLG.out.2.1))).c 2, (Z9.out.fz (Fz.set w9 c 29 (Value.slice A9 n9 k9)) (by simp; exact (Ne.symm KLG.out.2.1))).c 3, (Z9.out.fz (Fz.set w9 c 29 (Value.slice A9 n9 k9)) (by simp; exact (Ne.symm KLG.out.2.1))).c 4, (Z9.out.fz (Fz.set w9 c 29 (Value.slice A9 n9 k9)) (by simp; exact (Ne.symm KLG.out.2.1))).c 5, (Z9.out.fz (Fz.set w9 c 29 (Value.slice A9 n9 k9)) (by simp; exact (Ne.symm KLG.out.2.1))).c 6, (Z9.out.fz (Fz.set w9 c 29 (Value.slice A9 n9 k9)) (by simp; exact (Ne.symm KLG.out.2.1))).c 7, (Z9.out.fz (Fz.set w9 c 29 (Value.slice A9 n9 k9)) (by simp; exact (Ne.symm KLG.out.2.1))).c 8, (Z9.out.fz (Fz.set w9 c 29 (Value.slice A9 n9 k9)) (by simp; exact (Ne.symm KLG.out.2.1))).c 9, (Z9.out.fz (Fz.set w9 c 29 (Value.slice A9 n9 k9)) (by simp; exact (Ne.symm KLG.out.2.1))).c 10, (Z9.out.fz (Fz.set w9 c 29 (Value.slice A9 n9 k9)) (by simp; exact (Ne.symm KLG.out.2.1))).c 11, (Z9.out.fz (Fz.set w9 c 29 (Value.slice A9 n9 k9)) (by simp; exact (Ne.symm KLG.out.2.1))).c 12⟩
          clear hK K
          try simp only [Act.put, List.setIfInBounds_toArray, List.set_cons_zero, List.set_cons_succ, List.getElem_toArray, List.getElem_cons_zero, List.getElem_cons_succ]
          refine wpAnyH_ready (rs := [4]) (by kernel_rfl) (by simp) ?_
          refine AllReadyH.cons rfl (fun K hK => ?_) AllReadyH.nil
          go_simp
          refine hK.out _ _ ?_ (fun hHeld => ?_)
          · first | exact ⟨KZ8.out.c 0, KZ8.out.c 1, KZ8.out.c 2, KZ8.out.c 3, KZ8.out.c 4, KZ8.out.c 5, KZ8.out.c 6, KZ8.out.c 7, KZ8.out.c 8, KZ8.out.c 9, KZ8.out.c 10, KZ8.out.c 11, KZ8.out.c 12⟩ | exact ⟨KZ8b.out.c 0, KZ8b.out.c 1, KZ8b.out.c 2, KZ8b.out.c 3, KZ8b.out.c 4, KZ8b.out.c 5, KZ8b.out.c 6, KZ8b.out.c 7, KZ8b.out.c 8, KZ8b.out.c 9, KZ8b.out.c 10, KZ8b.out.c 11, KZ8b.out.c 12⟩ | exact ⟨Z9.out.c 0, Z9.out.c 1, Z9.out.c 2, Z9.out.c 3, Z9.out.c 4, Z9.out.c 5, Z9.out.c 6, Z9.out.c 7, Z9.out.c 8, Z9.out.c 9, Z9.out.c 10, Z9.out.c 11, Z9.out.c 12⟩ | exact ⟨(Z9.out.fz (Fz.set w9 c 29 (Value.slice A9 n9 k9)) (by simp; exact (Ne.symm KLG.out.2.1))).c 0, (Z9.out.fz (Fz.set w9 c 29 (Value.slice A9 n9 k9)) (by simp; exact (Ne.symm KLG.out.2.1))).c 1, (Z9.out.fz (Fz.set w9 c 29 (Value.slice A9 n9 k9)) (by simp; exact (Ne.symm KLG.out.2.1))).c 2, (Z9.out.fz (Fz.set w9 c 29 (Value.slice A9 n9 k9)) (by simp; exact (Ne.symm KLG.out.2.1))).c 3, (Z9.out.fz (Fz.set w9 c 29 (Value.slice A9 n9 k9)) (by simp; exact (Ne.symm KLG.out.2.1))).c 4, (Z9.out.fz (Fz.set w9 c 29 (Value.slice A9 n9 k9)) (by simp; exact (Ne.symm KLG.out.2.1))).c 5, (Z9.out.fz (Fz.set w9 c 29 (Value.slice A9 n9 k9)) (by simp; exact (Ne.symm KLG.out.2.1))).c 6, (Z9.out.fz (Fz.set w9 c 29 (Value.slice A9 n9 k9)) (by simp; exact (Ne.symm KLG.out.2.1))).c 7, (Z9.out.fz (Fz.set w9 c 29 (Value.slice A9 n9 k9)) (by simp; exact (Ne.symm KLG.out.2.1))).c 8, (Z9.out.fz (Fz.set w9 c 29 (Value.slice A9 n9 k9)) (by simp; exact (Ne.symm KLG.out.2.1))).c 9, (Z9.out.fz (Fz.set w9 c 29 (Value.slice A9 n9 k9)) (by simp; exact (Ne.symm KLG.out.2.1))).c 10, (Z9.out.fz (Fz.set w9 c 29 (Value.slice A9 n9 k9)) (by simp; exact (Ne.symm KLG.out.2.1))).c 11, (Z9.out.fz (Fz.set w9 c 29 (Value.slice A9 n9 k9)) (by simp; exact (Ne.symm KLG.out.2.1))).c 12⟩
          clear hK K
          try simp only [Act.put, List.setIfInBounds_toArray, List.set_cons_zero, List.set_cons_succ, List.getElem_toArray, List.getElem_cons_zero, List.getElem_cons_succ]
          refine wpAnyH_ready (rs := [7]) (by kernel_rfl) (by simp) ?_
          refine AllReadyH.cons rfl (fun K hK => ?_) AllReadyH.nil
          refine step_more rfl (.tmp 83) (.tmp 85) 90 132 rfl Tryz.underlying90 infoSeg rfl (by omega) (by omega) ov rfl _ (segS p1 p2 s go) rfl rfl (fun j u hu => ?_) ?_ (by simp [Value.oneCell']) lo gos.length _ KRW.out (Nat.le_trans (Nat.le_trans HLO.out.1 KLG.out.2.2.1) KSZ.out) (by have := HLO.out.2; omega) ?_
          · exact ((Bk.new w8 (segS p1 p2 s go).toArray 132).c j).trans (Array.getElem?_toList.symm.trans hu)
          · show w8.heap.size < (w8.alloc (.cells (segS p1 p2 s go).toArray 132)).heap.size
            simp
          intro v' w9 ho9 hg9 hv9
          obtain ⟨A9, n9, k9, rfl⟩ : ∃ A n k, v' = Value.slice A n k := by
            rcases ho9.2 with ⟨h, _⟩ | ⟨g, cap, _, h, _⟩
            · exact ⟨_, _, _, h⟩
            · exact ⟨_, _, _, h⟩
          have B9 := Fz.grown hg9
          have NOV : ∀ x, w.heap.size ≤ x ∨ x = c ∨ x = fl → x ∉ ov.ownBlock.toList := fun x hx e => by
            have := HOV.out x (by simpa using e)
            rcases hx with h1 | h1 | h1
            · omega
            · exact this.2.2.1 h1
            · exact this.2.2.2 h1
          have C9 := Keep.mk (KC8.out.fz B9 (NOV _ (.inr (.inl rfl))))
          have F9 := Keep.mk (KF8.out.fz B9 (NOV _ (.inr (.inr rfl))))
          have G9 := Keep.mk (KG8.out.fz B9 (NOV _ (.inl (by have := KLG.out; omega))))
          have Z9 := Keep.mk (KZ8b.out.fz B9 (NOV _ (.inl (by have := KLG.out; omega))))
          have X9 : Keep (Fz W w9 ov.ownBlock.toList) := ⟨(KX8.out.trans B9).mono (by simp)⟩
          have HO9 := Keep.mk ho9
          have HV9 : Keep ((Value.slice A9 n9 k9).ownBlock = ov.ownBlock ∨ ∃ kb, (Value.slice A9 n9 k9).ownBlock = some kb ∧ W.heap.size ≤ kb) := ⟨hv9.imp id fun e => ⟨_, e, KSZ.out⟩⟩
          have d29 : w9.cell? ⟨c, 29, none⟩ = some ov := C9.out.c 29
          have e29 := C9.out.free 29
          clear ho9 hg9 hv9 B9 NOV
          refine hK.out _ _ ?_ (fun hHeld => ?_)
          · first | exact ⟨KZ8.out.c 0, KZ8.out.c 1, KZ8.out.c 2, KZ8.out.c 3, KZ8.out.c 4, KZ8.out.c 5, KZ8.out.c 6, KZ8.out.c 7, KZ8.out.c 8, KZ8.out.c 9, KZ8.out.c 10, KZ8.out.c 11, KZ8.out.c 12⟩ | exact ⟨KZ8b.out.c 0, KZ8b.out.c 1, KZ8b.out.c 2, KZ8b.out.c 3, KZ8b.out.c 4, KZ8b.out.c 5, KZ8b.out.c 6, KZ8b.out.c 7, KZ8b.out.c 8, KZ8b.out.c 9, KZ8b.out.c 10, KZ8b.out.c 11, KZ8b.out.c 12⟩ | exact ⟨Z9.out.c 0, Z9.out.c 1, Z9.out.c 2, Z9.out.c 3, Z9.out.c 4, Z9.out.c 5, Z9.out.c 6, Z9.out.c 7, Z9.out.c 8, Z9.out.c 9, Z9.out.c 10, Z9.out.c 11, Z9.out.c 12⟩ | exact ⟨(Z9.out.fz (Fz.set w9 c 29 (Value.slice A9 n9 k9)) (by simp; exact (Ne.symm KLG.out.2.1))).c 0, (Z9.out.fz (Fz.set w9 c 29 (Value.slice A9 n9 k9)) (by simp; exact (Ne.symm KLG.out.2.1))).c 1, (Z9.out.fz (Fz.set w9 c 29 (Value.slice A9 n9 k9)) (by simp; exact (Ne.symm KLG.out.2.1))).c 2, (Z9.out.fz (Fz.set w9 c 29 (Value.slice A9 n9 k9)) (by simp; exact (Ne.symm KLG.out.2.1))).c 3, (Z9.out.fz (Fz.set w9 c 29 (Value.slice A9 n9 k9)) (by simp; exact (Ne.symm KLG.out.2.1))).c 4, (Z9.out.fz (Fz.set w9 c 29 (Value.slice A9 n9 k9)) (by simp; exact (Ne.symm KLG.out.2.1))).c 5, (Z9.out.fz (Fz.set w9 c 29 (Value.slice A9 n9 k9)) (by simp; exact (Ne.symm KLG.out.2.1))).c 6, (Z9.out.fz (Fz.set w9 c 29 (Value.slice A9 n9 k9)) (by simp; exact (Ne.symm KLG.out.2.1))).c 7, (Z9.out.fz (Fz.set w9 c 29 (Value.slice A9 n9 k9)) (by simp; exact (Ne.symm KLG.out.2.1))).c 8, (Z9.out.fz (Fz.set w9 c 29 (Value.slice A9 n9 k9)) (by simp; exact (Ne.symm KLG.out.2.1))).c 9, (Z9.out.fz (Fz.set w9 c 29 (Value.slice A9 n9 k9)) (by simp; exact (Ne.symm KLG.out.2.1))).c 10, (Z9.out.fz (Fz.set w9 c 29 (Value.slice A9 n9 k9)) (by simp; exact (Ne.symm KLG.out.2.1))).c 11, (Z9.out.fz (Fz.set w9 c 29 (Value.slice A9 n9 k9)) (by simp; exact (Ne.symm KLG.out.2.1))).c 12⟩
          clear hK K
          try simp only [Act.put, List.setIfInBounds_toArray, List.set_cons_zero, List.set_cons_succ, List.getElem_toArray, List.getElem_cons_zero, List.getElem_cons_succ]
          refine wpAnyH_take (i := 8) (v := ?_) rfl (by kernel_rfl) (by kernel_rfl) (by kernel_rfl) (fun _ _ _ h => h) (Or.inl ⟨by rfl, ?_⟩) (by assumption) ?_
          rotate_left
          · intro w hSw; go_simp; (try with_reducible rfl)
          try simp only [Act.put, List.setIfInBounds_toArray, List.set_cons_zero, List.set_cons_succ, List.getElem_toArray, List.getElem_cons_zero, List.getElem_cons_succ]
          refine wpAnyH_take (i := 9) (v := ?_) rfl (by kernel_rfl) (by kernel_rfl) (by kernel_rfl) (fun _ _ _ h => h) (Or.inl ⟨by rfl, ?_⟩) (by assumption) ?_
          rotate_left
          · intro w hSw; go_simp; (try with_reducible rfl)
          try simp only [Act.put, List.setIfInBounds_toArray, List.set_cons_zero, List.set_cons_succ, List.getElem_toArray, List.getElem_cons_zero, List.getElem_cons_succ]
          refine wpAnyH_ready (rs := [10]) (by kernel_rfl) (by simp) ?_
          refine AllReadyH.cons rfl (fun K hK => ?_) AllReadyH.nil
          go_simp
          refine hK.out _ _ ?_ (fun hHeld => ?_)
          · first | exact ⟨KZ8.out.c 0, KZ8.out.c 1, KZ8.out.c 2, KZ8.out.c 3, KZ8.out.c 4, KZ8.out.c 5, KZ8.out.c 6, KZ8.out.c 7, KZ8.out.c 8, KZ8.out.c 9, KZ8.out.c 10, KZ8.out.c 11, KZ8.out.c 12⟩ | exact ⟨KZ8b.out.c 0, KZ8b.out.c 1, KZ8b.out.c 2, KZ8b.out.c 3, KZ8b.out.c 4, KZ8b.out.c 5, KZ8b.out.c 6, KZ8b.out.c 7, KZ8b.out.c 8, KZ8b.out.c 9, KZ8b.out.c 10, KZ8b.out.c 11, KZ8b.out.c 12⟩ | exact ⟨Z9.out.c 0, Z9.out.c 1, Z9.out.c 2, Z9.out.c 3, Z9.out.c 4, Z9.out.c 5, Z9.out.c 6, Z9.out.c 7, Z9.out.c 8, Z9.out.c 9, Z9.out.c 10, Z9.out.c 11, Z9.out.c 12⟩ | exact ⟨(Z9.out.fz (Fz.set w9 c 29 (Value.slice A9 n9 k9)) (by simp; exact (Ne.symm KLG.out.2.1))).c 0, (Z9.out.fz (Fz.set w9 c 29 (Value.slice A9 n9 k9)) (by simp; exact (Ne.symm KLG.out.2.1))).c 1, (Z9.out.fz (Fz.set w9 c 29 (Value.slice A9 n9 k9)) (by simp; exact (Ne.symm KLG.out.2.1))).c 2, (Z9.out.fz (Fz.set w9 c 29 (Value.slice A9 n9 k9)) (by simp; exact (Ne.symm KLG.out.2.1))).c 3, (Z9.out.fz (Fz.set w9 c 29 (Value.slice A9 n9 k9)) (by simp; exact (Ne.symm KLG.out.2.1))).c 4, (Z9.out.fz (Fz.set w9 c 29 (Value.slice A9 n9 k9)) (by simp; exact (Ne.symm KLG.out.2.1))).c 5, (Z9.out.fz (Fz.set w9 c 29 (Value.slice A9 n9 k9)) (by simp; exact (Ne.symm KLG.out.2.1))).c 6, (Z9.out.fz (Fz.set w9 c 29 (Value.slice A9 n9 k9)) (by simp; exact (Ne.symm KLG.out.2.1))).c 7, (Z9.out.fz (Fz.set w9 c 29 (Value.slice A9 n9 k9)) (by simp; exact (Ne.symm KLG.out.2.1))).c 8, (Z9.out.fz (Fz.set w9 c 29 (Value.slice A9 n9 k9)) (by simp; exact (Ne.symm KLG.out.2.1))).c 9, (Z9.out.fz (Fz.set w9 c 29 (Value.slice A9 n9 k9)) (by simp; exact (Ne.symm KLG.out.2.1))).c 10, (Z9.out.fz (Fz.set w9 c 29 (Value.slice A9 n9 k9)) (by simp; exact (Ne.symm KLG.out.2.1))).c 11, (Z9.out.fz (Fz.set w9 c 29 (Value.slice A9 n9 k9)) (by simp; exact (Ne.symm KLG.out.2.1))).c 12⟩
          clear hK K
          try simp only [Act.put, List.setIfInBounds_toArray, List.set_cons_zero, List.set_cons_succ, List.getElem_toArray, List.getElem_cons_zero, List.getElem_cons_succ]
          refine wpAnyH_done (by kernel_rfl) ?_ _
          refine NoPanic.normal ?_
          go_wp2_with fail
          go_roundw
          case rel =>
            refine .inr ⟨by go_num, ⟨(Value.slice A9 n9 k9), go, ?_⟩⟩
            have LC := C2.out.lt
            have LF := F2.out.lt
            have LW := HS2.out
            have LE := E2.out.size
            have T9 := Fz.set w9 c 29 (Value.slice A9 n9 k9)
            have FT : Fz w (w9.setCell ⟨c, 29, none⟩ (Value.slice A9 n9 k9)) (c :: fl :: ov.ownBlock.toList) := ((E2.out.trans X9.out).trans T9).mono (fun x _ hx => by
              simp only [List.mem_append, List.mem_cons, List.not_mem_nil, or_false] at hx
              rcases hx with (rfl | hx) | rfl
              · simp
              · simp only [List.mem_cons]; exact .inr (.inr hx)
              · simp)
            refine ⟨C9.out.set 29 _, F9.out.fz T9 (by simp; exact fun e => HND.out.1.2.2 e.symm), ⟨?_, fun x hx => ?_⟩, fun x hx => ?_, fun kb e => ?_, FT⟩
            · have hr := own_blockW HO9.out (w' := w9.setCell ⟨c, 29, none⟩ (Value.slice A9 n9 k9)) fun kb e => T9.block kb (let ⟨_, _, h2⟩ := own_ty HO9.out e; h2.lt) (by
                rcases HV9.out with h1 | ⟨kb', h1, h2⟩
                · simp; exact (HOV.out kb (h1 ▸ e)).2.2.1
                · rw [h1] at e; injection e with e; subst e; simp; omega)
              rw [List.length_append, List.flatMap_append]
              simpa using hr
            · rcases List.mem_append.1 hx with h1 | h1
              · exact (HOW.out.opt x h1).fz FT (by simp only [List.mem_cons, not_or]; exact HGT.out x h1)
              · obtain rfl : x = go := by simpa using h1
                exact G9.out.fz T9 (by simp; have := KLG.out.1; omega)
            · rcases List.mem_append.1 hx with h1 | h1
              · exact .inl h1
              · obtain rfl : x = go := by simpa using h1
                exact .inr (by have := KLG.out; omega)
            · rcases HV9.out with h1 | ⟨kb', h1, h2⟩
              · exact .inl (h1 ▸ e)
              · rw [h1] at e; injection e with e; subst e; exact .inr (by omega)
          case measure => simp [intOf]
      -- end reg
    · go_wp2_with fail
      go_end0
      exact ⟨rfl, HP.out⟩
end
end Go.Proofs.YtjpokeakemlffaaGreatDoor
/-
  A connection that opens: its timers.
-/
namespace Go.Proofs.YtjpokeakemlffaaGreatDoor
open Go.RowKit
section
variable {w0 w : World} {base wb wm nb : Nat} {S : Nat → Value} {now : Int} {L : List Due} {c sd st rv mp st2 lg fl pb q : Nat} {p1 p2 k : Int} {out fout : Value} {times state rcv tries at_ since : Int} {has twice : Bool} {farr : Array Value}
set_option maxRecDepth 100000 in
theorem fat_any (h : Bk w fl (flC q times state rcv tries at_ has since twice fout) 283) : Calls Tryz.prog 271 #[.pointer (some ⟨fl, 0, none⟩)] w fun e w' => e = .returned (.tuple #[.int .i64 at_, .bool has]) ∧ ∃ n, w' = w.drewN n := by
  have c8 : w.cell? ⟨fl, 8, none⟩ = some (.int .i64 at_) := h.c 8
  have c9 : w.cell? ⟨fl, 9, none⟩ = some (.bool has) := h.c 9
  clear h
  go_enter Tryz.func271, Tryz.ntmps271
  go_wp2_with fail
  go_big_quiet (fail)
  go_wp2_with fail
  refine bodyPost_ret (results_tmp2 rfl _ _ _) rfl ⟨rfl, _, rfl⟩
set_option maxRecDepth 100000 in
theorem starved_no (h : Bk w c (conD p1 p2 k sd rv pb lg wb out) 191) : Calls Tryz.prog 199 #[.pointer (some ⟨c, 0, none⟩)] w fun e w' => e = .returned (.bool false) ∧ ∃ n, w' = w.drewN n := by
  have c7 : w.cell? ⟨c, 7, none⟩ = some (.int .i64 0) := h.c 7
  clear h
  go_enter Tryz.func199, Tryz.ntmps199
  go_wp2_with fail
  go_big_quiet (fail)
  go_wp2_with fail
  go_ret
  exact ⟨by first | rfl | simp, _, rfl⟩
theorem drop_one {t x : Int} (hx : x ≠ 0) : dropH x [(0, t)] = [(0, t)] := dropH_all (by simp; exact fun e => hx e.symm)
theorem tk_one {t x : Int} (hx : x ≠ 0) : tk [((0 : Int), t)] x = none := by
  rw [tk_cons, if_neg (fun e => hx e.symm)]
  rfl
set_option maxRecDepth 100000 in
set_option maxHeartbeats 6400000 in
theorem arm_one (tick : Int) (h : Cs w0 w base wb wm nb S now L c sd st rv mp st2 lg fl (conD p1 p2 k sd rv pb lg wb out) (flC q times 1 rcv tries at_ true since twice fout)) (hn : 0 ≤ now) (hn2 : now < 1152921504606846976) (hL : ∀ d ∈ L, d.1 = 0) (hLl : L.length ≤ 10) (hat : at_ ≤ now + 4096) (hnb : nb < 9000) :
    Calls Tryz.prog 209 #[.pointer (some ⟨c, 0, none⟩), .int .i64 tick] w fun e w' => e = .returned (.tuple #[]) ∧ ∃ S', Cs w0 w' base wb wm (nb + 1) S' now [(0, max at_ (now + 1))] c sd st rv mp st2 lg fl (conD p1 p2 k sd rv pb lg wb out) (flC q times 1 rcv tries at_ true since twice fout) ∧ Fm w w' wb wm S S' := by
  have c22 : w.cell? ⟨c, 22, none⟩ = some (.pointer (some ⟨wb, 0, none⟩)) := h.cn.c 22
  have l0 : w.cell? ⟨c, 12, none⟩ = some (.pointer (some ⟨lg, 0, none⟩)) := h.cn.c 12
  have l1 : w.cell? ⟨c, 13, none⟩ = some (.pointer none) := h.cn.c 13
  have l2 : w.cell? ⟨c, 14, none⟩ = some (.pointer none) := h.cn.c 14
  have l3 : w.cell? ⟨c, 15, none⟩ = some (.pointer none) := h.cn.c 15
  have l4 : w.cell? ⟨c, 16, none⟩ = some (.pointer none) := h.cn.c 16
  have l5 : w.cell? ⟨c, 17, none⟩ = some (.pointer none) := h.cn.c 17
  have l6 : w.cell? ⟨c, 18, none⟩ = some (.pointer none) := h.cn.c 18
  have l7 : w.cell? ⟨c, 19, none⟩ = some (.pointer none) := h.cn.c 19
  have NW := Keep.mk (now_wl h.wl)
  have HN : Keep (0 ≤ now ∧ now < 1152921504606846976 ∧ at_ ≤ now + 4096 ∧ nb < 9000 ∧ L.length ≤ 10) := ⟨hn, hn2, hat, hnb, hLl⟩
  have HL := Lib.hid hL
  have HC := Keep.mk h
  obtain ⟨t, ht⟩ : ∃ t, max at_ (now + 1) = t := ⟨_, rfl⟩
  have HT : Keep (now < t ∧ t ≤ now + 4096 ∧ max at_ (now + 1) = t) := ⟨by omega, by omega, ht⟩
  have q1 : IntKind.i64.wrap (now + 1) = now + 1 := IntWalk.i64_in _ (by omega)
  rw [ht]
  have HD0 : Keep (dropH 0 L = []) := ⟨by unfold dropH; rw [List.filter_eq_nil_iff]; intro d hd; simp [hL d hd]⟩
  clear h hn hn2 hL hLl hat hnb
  go_enter Tryz.func209, Tryz.ntmps209
  go_wp2_with (first
    | (go_at_call 130
       go_loud (refine NW.out.mono ?_; rintro e X ⟨rfl, hX⟩)
       rw [hX]
       clear hX)
    | fail)
  clear c22 l0 l1 l2 l3 l4 l5 l6 l7 NW
  go_loopw [22] (fun i wr => ∃ (j : Nat) (nb' : Nat) (S' : Nat → Value), j ≤ 8 ∧ i = .int .i64 j ∧ Keep (nb' = if j = 0 then nb else nb + 1) ∧ Keep (Cs w0 wr base wb wm nb' S' now (if j = 0 then L else [(0, t)]) c sd st rv mp st2 lg fl (conD p1 p2 k sd rv pb lg wb out) (flC q times 1 rcv tries at_ true since twice fout)) ∧ Keep (Fm w wr wb wm S S')) (fun i _ => 8 - (intOf i).toNat)
  case atStart => exact ⟨0, nb, S, by omega, rfl, ⟨rfl⟩, HC, ⟨Fm.refl _ _ _ _⟩⟩
  case round =>
    obtain ⟨j, nb', S', hj, rfl, HNB, HK, HM⟩ := hrel
    rcases Nat.eq_zero_or_pos j with rfl | hpos
    · have hk := HK.out
      rw [if_pos rfl] at hk
      have ix := index_leg (legsA lg) 0 _ rfl (by omega) wr
      rw [show ((0 : Nat) : Int) = 0 from rfl] at ix
      have OV := Keep.mk (over_any lg fl q times 1 rcv tries at_ true since twice fout wr hk.leg hk.flw)
      have FA := Keep.mk (fat_any hk.flw)
      have g0 : wr.cell? ⟨lg, 0, none⟩ = some (.pointer (some ⟨fl, 0, none⟩)) := hk.leg.c 0
      have W0 : Keep (wfI 0) := ⟨wfI_of (by omega) (by omega)⟩
      have hmx := HT.out.2.2
      have hnb2 := HNB.out
      rw [if_pos rfl] at hnb2
      have HNB2 := Keep.mk hnb2
      clear hnb2
      have KK := Keep.mk hk
      clear hk
      go_wp2_with (first
        | (go_at_call 158
           go_loud (refine OV.out.mono ?_; rintro e X ⟨rfl, hX⟩)
           rw [hX]
           clear hX)
        | (go_at_call 271
           go_loud (refine FA.out.mono ?_; rintro e w2 ⟨rfl, n2, hw2⟩)
           have K2 := Keep.mk (KK.out.quiet (w1 := w2) (by rw [hw2]; exact below_dn wr n2))
           have M2 : Keep (Fm wr w2 wb wm S' S') := ⟨Fm.quiet (by rw [hw2]; exact below_dn wr n2) _ _ _⟩
           have d22 : w2.cell? ⟨c, 22, none⟩ = some (.pointer (some ⟨wb, 0, none⟩)) := K2.out.cn.c 22
           have AW := Keep.mk (arm_wl K2.out.wl K2.out.hs W0.out HN.out.1 (by have := HN.out.2.1; omega) HT.out.1 HT.out.2.1 (by have := HN.out.2.2.2.2; omega) (by have := HN.out.2.2.2.1; have := HNB2.out; omega))
           clear hw2)
        | (go_at_call 164
           go_loud (refine AW.out.mono ?_; rintro e w3 ⟨rfl, S3, wl3, fm3⟩)
           rw [HD0.out, List.nil_append] at wl3
           have K3 := Keep.mk (K2.out.wheel wl3 fm3)
           have M3 := Keep.mk ((HM.out.trans M2.out).trans fm3)
           clear wl3 fm3)
        | fail)
      go_roundw
      case rel => exact ⟨1, nb' + 1, S3, by omega, by go_num, ⟨by have := HNB2.out; rw [if_neg (by omega)]; omega⟩, ⟨by rw [if_neg (by omega)]; exact K3.out⟩, M3⟩
      case measure => simp [intOf]
    · have hk := HK.out
      rw [if_neg (by omega)] at hk
      rcases Nat.lt_or_ge j 8 with hlt | hge
      · have ix := index_leg (legsA lg) j _ (legsA_nil hpos hlt) hlt wr
        have hji : ((j : Nat) : Int) < 8 := by omega
        have d22 : wr.cell? ⟨c, 22, none⟩ = some (.pointer (some ⟨wb, 0, none⟩)) := hk.cn.c 22
        have C2 := Keep.mk (hk.quiet ((Below.refl _ wr).alloc (Nat.le_refl _) (.cells #[.int .i64 (j : Int)] 3)))
        have CW := cancel_wl (c := 1) C2.out.wl C2.out.hs (by simp) (cells_one wr (j : Int)) (wfI_of (by omega) (by omega)) HN.out.1 (by have := HN.out.2.1; omega) (by simp)
        rw [drop_one (by omega)] at CW
        have CW := Keep.mk CW
        have HP := Keep.mk hpos
        have hnb2 := HNB.out
        rw [if_neg (by omega)] at hnb2
        have HNB2 := Keep.mk hnb2
        clear hk hpos hnb2
        go_wp2_with (first
          | (go_at_call 158
             go_loud (refine (over_nil _).mono ?_; rintro e X ⟨rfl, hX⟩)
             rw [hX]
             clear hX)
          | (go_at_call 227
             go_loud (refine CW.out.mono ?_; rintro e w3 ⟨rfl, S3, wl3, fm3⟩)
             have K3 := Keep.mk (C2.out.wheel wl3 fm3)
             have M3 := Keep.mk ((HM.out.trans (Fm.alloc wr _ wb wm S')).trans fm3)
             clear wl3 fm3)
          | fail)
        go_roundw
        case rel => exact ⟨j + 1, nb', S3, by omega, by go_num, ⟨by have := HNB2.out; rw [if_neg (by omega)]; omega⟩, ⟨by rw [if_neg (by omega)]; exact K3.out⟩, M3⟩
        case measure => simp [intOf] <;> omega
      · obtain rfl : j = 8 := by omega
        have hnb := HNB.out
        rw [if_neg (by omega)] at hnb
        subst hnb
        have d7 : wr.cell? ⟨c, 7, none⟩ = some (.int .i64 0) := hk.cn.c 7
        have d22 : wr.cell? ⟨c, 22, none⟩ = some (.pointer (some ⟨wb, 0, none⟩)) := hk.cn.c 22
        have AT := at_wl hk.wl (x := 12) (wfI_of (by omega) (by omega))
        rw [tk_one (by omega)] at AT
        have AT := Keep.mk AT
        have SV := Keep.mk (starved_no hk.cn)
        have KK := Keep.mk hk
        clear hk
        go_wp2_with (first
          | (go_at_call 267
             go_loud (refine AT2.out.mono ?_; rintro e X ⟨cx2, rfl, -, hX⟩)
             rw [hX]
             clear hX)
          | (go_at_call 267
             go_loud (refine AT.out.mono ?_; rintro e X ⟨cx, rfl, -, hX⟩)
             rw [hX]
             clear hX)
          | (go_at_call 199
             go_loud (refine SV2.out.mono ?_; rintro e w3 ⟨rfl, n3, hw3⟩)
             have K3 := Keep.mk (K2.out.quiet (w1 := w3) (by rw [hw3]; exact below_dn w2 n3))
             have f22 : w3.cell? ⟨c, 22, none⟩ = some (.pointer (some ⟨wb, 0, none⟩)) := K3.out.cn.c 22
             have M3 : Keep (Fm w (w3.alloc (.cells #[.int .i64 12] 3)) wb wm S S') := ⟨(M2.out.trans (Fm.quiet (by rw [hw3]; exact below_dn w2 n3) _ _ _)).trans (Fm.alloc w3 _ wb wm S')⟩
             have C4 := Keep.mk (K3.out.quiet ((Below.refl _ w3).alloc (Nat.le_refl _) (.cells #[.int .i64 12] 3)))
             have cw := cancel_wl (c := 1) C4.out.wl C4.out.hs (by simp) (cells_one w3 12) (wfI_of (by omega) (by omega)) HN.out.1 (by have := HN.out.2.1; omega) (by simp)
             rw [drop_one (by omega)] at cw
             have CW := Keep.mk cw
             clear hw3 cw)
          | (go_at_call 199
             go_loud (refine SV.out.mono ?_; rintro e w2 ⟨rfl, n2, hw2⟩)
             have K2 := Keep.mk (KK.out.quiet (w1 := w2) (by rw [hw2]; exact below_dn wr n2))
             have SV2 := Keep.mk (starved_no K2.out.cn)
             have M2 : Keep (Fm w w2 wb wm S S') := ⟨HM.out.trans (Fm.quiet (by rw [hw2]; exact below_dn wr n2) _ _ _)⟩
             clear hw2)
          | (go_at_call 227
             go_loud (refine CW.out.mono ?_; rintro e w4 ⟨rfl, S4, wl4, fm4⟩)
             have K4 := Keep.mk (C4.out.wheel wl4 fm4)
             have M4 := Keep.mk (M3.out.trans fm4)
             have e7 : w4.cell? ⟨c, 7, none⟩ = some (.int .i64 0) := K4.out.cn.c 7
             have e22 : w4.cell? ⟨c, 22, none⟩ = some (.pointer (some ⟨wb, 0, none⟩)) := K4.out.cn.c 22
             have at2 := at_wl K4.out.wl (x := 11) (wfI_of (by omega) (by omega))
             rw [tk_one (by omega)] at at2
             have AT2 := Keep.mk at2
             clear wl4 fm4 at2)
          | fail)
        go_end0
        exact ⟨rfl, S4, K4.out, M4.out⟩
end
end Go.Proofs.YtjpokeakemlffaaGreatDoor
/-
  A connection that opens: settle.
-/
namespace Go.Proofs.YtjpokeakemlffaaGreatDoor
open Go.RowKit
section
variable {w0 w : World} {base wb wm nb : Nat} {S : Nat → Value} {now : Int} {L : List Due} {c sd st rv mp st2 lg fl pb q g0 c0 : Nat} {p1 p2 k : Int} {times state rcv tries at_ since : Int} {has twice : Bool}
theorem nd_four (h : [c, sd, rv, lg, fl].Nodup) : [c, rv, lg, fl].Nodup := by
  simp only [List.nodup_cons, List.mem_cons, List.not_mem_nil, or_false, not_or, not_false_eq_true, List.nodup_nil, and_true] at h ⊢
  omega
set_option maxRecDepth 100000 in
set_option maxHeartbeats 6400000 in
theorem settle_dial (tick s : Int) (n0 ov : Value) (gos : List Nat) (R : Value → List Nat → Prop) (h : Cs w0 w base wb wm nb S now L c sd st rv mp st2 lg fl (conD p1 p2 k sd rv pb lg wb ov) (flC q times 1 rcv tries at_ true since twice n0)) (hn : 0 ≤ now) (hn2 : now < 1152921504606846976) (hL : ∀ d ∈ L, d.1 = 0) (hLl : L.length ≤ 10) (hat : at_ ≤ now + 4096) (hnb : nb < 9000)
    (hov : Outs w w0.heap.size p1 p2 k s ov gos) (hfree : ∀ kb, (ov.ownBlock = some kb ∨ kb ∈ gos) → ¬ Owns wb wm S kb)
    (hfl : ∀ w3 S3, Cs w0 w3 base wb wm nb S3 now L c sd st rv mp st2 lg fl (conD p1 p2 k sd rv pb lg wb ov) (flC q times 1 rcv tries at_ true since twice n0) → Fm w w3 wb wm S S3 → Calls Tryz.prog 207 #[.pointer (some ⟨c, 0, none⟩), .pointer (some ⟨lg, 0, none⟩), .slice none 0 0] w3 fun e w' => e = .returned (.tuple #[]) ∧ ∃ ov' gos', Flu w3 w' w0.heap.size c fl p1 p2 k s sd rv pb lg wb (flC q times 1 rcv tries at_ true since twice (.slice none 0 0)) ov ov' gos gos' ∧ R ov' gos') :
    Calls Tryz.prog 133 #[.pointer (some ⟨c, 0, none⟩), .int .i64 tick] w fun e w' => e = .returned (.tuple #[]) ∧ ∃ S' ov' gos', Cs w0 w' base wb wm (nb + 1) S' now [(0, max at_ (now + 1))] c sd st rv mp st2 lg fl (conD p1 p2 k sd rv pb lg wb ov') (flC q times 1 rcv tries at_ true since twice (.slice none 0 0)) ∧
      Outs w' w0.heap.size p1 p2 k s ov' gos' ∧ R ov' gos' ∧ (∀ kb, (ov'.ownBlock = some kb ∨ kb ∈ gos') → ¬ Owns wb wm S' kb) ∧ Fw w w' wb wm S S' (c :: fl :: ov.ownBlock.toList) := by
  have c9 : w.cell? ⟨c, 9, none⟩ = some (.pointer (some ⟨sd, 0, none⟩)) := h.cn.c 9
  have c10 : w.cell? ⟨c, 10, none⟩ = some (.pointer (some ⟨rv, 0, none⟩)) := h.cn.c 10
  have DN := Keep.mk (done_no w h.snd)
  have EN := Keep.mk (ended_no w h.rcv)
  have HC := Keep.mk h
  have HN : Keep (0 ≤ now ∧ now < 1152921504606846976 ∧ at_ ≤ now + 4096 ∧ nb < 9000 ∧ L.length ≤ 10) := ⟨hn, hn2, hat, hnb, hLl⟩
  have HL := Lib.hid hL
  have HOV := Keep.mk hov
  have HFR := Keep.mk hfree
  have HFL := Keep.mk hfl
  have HT8 : Keep (tk L 8 = none) := ⟨by
    cases e : tk L 8 with
    | none => rfl
    | some t => exact absurd (hL _ (tk_some e)) (by simp)⟩
  have HD8 : Keep (dropH 8 L = L) := ⟨dropH_all fun d hd => by rw [hL d hd]; omega⟩
  clear h hn hn2 hL hLl hat hnb hov hfree hfl
  go_enter Tryz.func133, Tryz.ntmps133
  go_wp2_with (first
    | (go_at_call 203
       go_loud (refine DN.out.mono ?_; rintro e X ⟨rfl, hX⟩)
       rw [hX]
       clear hX)
    | (go_at_call 204
       go_loud (refine EN.out.mono ?_; rintro e w1 ⟨rfl, n1, hw1⟩)
       have hb1 : Below w.heap.size w w1 := by rw [hw1]; exact below_dn w n1
       have C1 := Keep.mk (HC.out.quiet hb1)
       have M1 : Keep (Fm w w1 wb wm S S) := ⟨Fm.quiet hb1 _ _ _⟩
       have PI := Keep.mk (pump_init tick C1.out.cn)
       have TE := Keep.mk (tellend_init tick C1.out HN.out.1 (by have := HN.out.2.1; omega) (by have := HN.out.2.2.2.2; omega) HT8.out)
       clear hw1 hb1)
    | (go_at_call 205
       go_loud (refine PI.out.mono ?_; rintro e X ⟨rfl, hX⟩)
       rw [hX]
       clear hX)
    | (go_at_call 206
       go_loud (refine TE.out.mono ?_; rintro e w3 ⟨rfl, S3, c3, m3⟩)
       rw [HD8.out] at c3
       have C3 := Keep.mk c3
       have M3 := Keep.mk (M1.out.trans m3)
       have l0 : w3.cell? ⟨c, 12, none⟩ = some (.pointer (some ⟨lg, 0, none⟩)) := C3.out.cn.c 12
       have l1 : w3.cell? ⟨c, 13, none⟩ = some (.pointer none) := C3.out.cn.c 13
       have l2 : w3.cell? ⟨c, 14, none⟩ = some (.pointer none) := C3.out.cn.c 14
       have l3 : w3.cell? ⟨c, 15, none⟩ = some (.pointer none) := C3.out.cn.c 15
       have l4 : w3.cell? ⟨c, 16, none⟩ = some (.pointer none) := C3.out.cn.c 16
       have l5 : w3.cell? ⟨c, 17, none⟩ = some (.pointer none) := C3.out.cn.c 17
       have l6 : w3.cell? ⟨c, 18, none⟩ = some (.pointer none) := C3.out.cn.c 18
       have l7 : w3.cell? ⟨c, 19, none⟩ = some (.pointer none) := C3.out.cn.c 19
       clear c3 m3)
    | fail)
  clear c9 c10 l0 l1 l2 l3 l4 l5 l6 l7
  have OV3 : Keep (Outs w3 w0.heap.size p1 p2 k s ov gos) := ⟨HOV.out.fw M3.out.fw fun kb e => ⟨HFR.out kb e, by simp⟩⟩
  have FR3 : Keep (∀ kb, (ov.ownBlock = some kb ∨ kb ∈ gos) → ¬ Owns wb wm S3 kb) := ⟨fun kb e => M3.out.fw.free (HOV.out.lt' e) (HFR.out kb e)⟩
  have FL := Keep.mk (HFL.out w3 S3 C3.out M3.out)
  go_loopw [52] (fun i wr => (i = .int .i64 0 ∧ wr = w3) ∨ ∃ j : Nat, 0 < j ∧ j ≤ 8 ∧ i = .int .i64 j ∧ Keep (∃ ov' gos', Flu w3 wr w0.heap.size c fl p1 p2 k s sd rv pb lg wb (flC q times 1 rcv tries at_ true since twice (.slice none 0 0)) ov ov' gos gos' ∧ R ov' gos')) (fun i _ => 8 - (intOf i).toNat)
  case atStart => exact .inl ⟨rfl, rfl⟩
  case round =>
    rcases hrel with ⟨rfl, rfl⟩ | ⟨j, hpos, hj, rfl, HP⟩
    · have ix := index_leg (legsA lg) 0 _ rfl (by omega) wr
      rw [show ((0 : Nat) : Int) = 0 from rfl] at ix
      go_wp2_with (first
        | (go_at_call 207
           go_loud (refine FL.out.mono ?_; rintro e w4 ⟨rfl, ov', gos', fl4⟩)
           have FL4 := Keep.mk fl4
           clear fl4)
        | fail)
      go_roundw
      case rel => exact .inr ⟨1, by omega, by omega, by go_num, ⟨ov', gos', FL4.out⟩⟩
      case measure => simp [intOf]
    · rcases Nat.lt_or_ge j 8 with hlt | hge
      · have ix := index_leg (legsA lg) j _ (legsA_nil hpos hlt) hlt wr
        have hji : ((j : Nat) : Int) < 8 := by omega
        have HPP := Keep.mk hpos
        clear hpos
        go_wp2_with fail
        go_roundw
        case rel => exact .inr ⟨j + 1, by omega, by omega, by go_num, HP⟩
        case measure => simp [intOf] <;> omega
      · obtain rfl : j = 8 := by omega
        obtain ⟨ov', gos', fl4, hR⟩ := HP.out
        have C4 := C3.out.own fl4.fz fl4.cn fl4.flw (fun x hx => by
          have hx : ov.ownBlock = some x := by simpa using hx
          refine ⟨(OV3.out.lt hx).1, FR3.out x (.inl hx), ?_⟩
          simp only [List.mem_cons, List.not_mem_nil, or_false, not_or]
          exact ⟨OV3.out.ne C3.out.snd (by decide) hx, OV3.out.ne C3.out.rcv (by decide) hx, OV3.out.ne C3.out.leg (by decide) hx⟩)
        have HR := Keep.mk hR
        have AL := Keep.mk (alone_one tick C4.cn C4.leg C4.flw)
        have AR := Keep.mk (arm_one tick C4 HN.out.1 HN.out.2.1 HL.out HN.out.2.2.2.2 HN.out.2.2.1 HN.out.2.2.2.1)
        have NG : Keep (∀ kb, (ov'.ownBlock = some kb ∨ kb ∈ gos') → ¬ Owns wb wm S3 kb) := ⟨fun kb e o => by
          have ho := C3.out.wl.lt o
          rcases e with e | e
          · rcases fl4.blk kb e with h1 | h1
            · exact FR3.out kb (.inl h1) o
            · omega
          · rcases fl4.old kb e with h1 | h1
            · exact FR3.out kb (.inr h1) o
            · omega⟩
        have K4 := Keep.mk fl4
        clear HP C4 fl4 FL hR
        go_wp2_with (first
          | (go_at_call 208
             go_loud (refine AL.out.mono ?_; rintro e X ⟨rfl, hX⟩)
             rw [hX]
             clear hX)
          | (go_at_call 209
             go_loud (refine AR.out.mono ?_; rintro e w5 ⟨rfl, S5, c5, m5⟩)
             have C5 := Keep.mk c5
             have M5 := Keep.mk m5
             clear c5 m5)
          | fail)
        go_end0
        refine ⟨rfl, S5, ov', gos', C5.out, K4.out.outs.fw M5.out.fw (fun kb e => ⟨NG.out kb e, by simp⟩), HR.out, fun kb e => M5.out.fw.free (K4.out.outs.lt' e) (NG.out kb e), ?_⟩
        exact ((M3.out.fw.trans (K4.out.fz.fw wb wm S3)).trans M5.out.fw).mono (by simp)
end
end Go.Proofs.YtjpokeakemlffaaGreatDoor
/-
  conn.Dial; Out, Over of what it makes; the example of the laws.
-/
namespace Go.Proofs.YtjpokeakemlffaaGreatDoor
open Go.RowKit
theorem One.ne_bk {w w' : World} {ty ty' : TypeId} {k g c b : Nat} {cs : List Value} {arr : Array Value} (h : One w w' ty k g c cs) (hb : Bk w' b arr ty') (hty : ty ≠ ty') : g ≠ b := by
  rintro rfl
  rcases h.own.2 with ⟨e, _⟩ | ⟨g', cap, cur, hv, _, h2, _⟩
  · injection e with e; cases e
  · have : g' = g := by injection hv with e _ _; injection e with e; injection e with e _ _; exact e.symm
    subst this
    rw [hb.eq] at h2
    injection h2 with h2
    injection h2 with _ h3 _
    exact hty h3.symm
theorem Bk.ne {w : World} {a b : Nat} {x y : Array Value} {ty ty' : TypeId} (h : Bk w a x ty) (h' : Bk w b y ty') (hs : x.size ≠ y.size) : a ≠ b := by
  rintro rfl
  have := h.eq.symm.trans h'.eq
  injection this with this
  injection this with this _ _
  exact hs (congrArg Array.size this)
theorem Cs.made {w w1 w6 : World} {p1 p2 k tick : Int} {c sd st rv mp st2 pb base wb wm lg fl : Nat} {carr farr : Array Value} {u : World} (bg : Beg u w1 p1 p2 k tick c sd st rv mp st2 pb base wb wm) (hu : w.heap.size ≤ u.heap.size) (hB : Below w.heap.size w w1) (F : Fz w1 w6 [c]) (hc : Bk w6 c carr 191) (hl : Bk w6 lg (legC fl) 211) (hf : Bk w6 fl farr 283) (l1 : w1.heap.size ≤ lg) (l2 : w1.heap.size ≤ fl) (l3 : lg ≠ fl) :
    Cs w w6 base wb wm 0 (fun _ => .slice none 0 0) tick [] c sd st rv mp st2 lg fl carr farr := by
  have hbs := bg.wl.lt (.inl rfl)
  have hbl := bg.wl.low (.inl rfl)
  have o := bg.off
  have n := bg.ne
  have lo := bg.low
  have csd := bg.cn.lt
  have c2 := bg.snd.lt
  have c3 := bg.rcv.lt
  have sr : sd ≠ rv := bg.snd.ne bg.rcv (by simp)
  refine ⟨bg.wl.same F.size fun x ho => F.block x (bg.wl.lt ho) ?_, hc, bg.snd.fz F (by simp; omega), bg.rcv.fz F (by simp; omega), hl, hf, ?_, ?_, hB.trans (F.toBelow hB.size (by simp; omega)), by omega, by have := F.size; omega, ?_⟩
  · simp only [List.mem_singleton]
    rintro rfl
    rcases ho with e | e | ⟨i, _, e⟩
    · exact o.1 e
    · exact o.2.1 e
    · cases e
  · intro x hx ho
    have y1 := bg.wl.lt ho
    have y2 := bg.wl.low ho
    simp only [List.mem_cons, List.not_mem_nil, or_false] at hx
    rcases hx with rfl | rfl | rfl | rfl | rfl
    · rcases ho with e | e | ⟨i, _, e⟩
      · exact o.1 e
      · exact o.2.1 e
      · cases e
    · omega
    · omega
    · omega
    · omega
  · simp only [List.nodup_cons, List.mem_cons, List.not_mem_nil, or_false, not_or, not_false_eq_true, List.nodup_nil, and_true]
    omega
  · intro x hx
    simp only [List.mem_cons, List.not_mem_nil, or_false] at hx
    have := hB.size
    rcases hx with rfl | rfl | rfl | rfl | rfl <;> omega
structure Dl (w w' : World) (base wb wm nb : Nat) (S : Nat → Value) (now : Int) (L : List Due) (c sd st rv mp st2 lg fl pb q g2 : Nat) (p1 p2 k s e0 : Int) (c2 : Nat) (ov : Value) (gos : List Nat) (farr : Array Value) : Prop where
  cs : Cs w w' base wb wm nb S now L c sd st rv mp st2 lg fl (conD p1 p2 k sd rv pb lg wb ov) farr
  outs : Outs w' w.heap.size p1 p2 k s ov gos
  free : ∀ kb, (ov.ownBlock = some kb ∨ kb ∈ gos) → ¬ Owns wb wm S kb
  que : Bk w' q #[.slice (some ⟨g2, 0, none⟩) 1 c2, .int .u32 e0] 342
  row : ∀ j u, (synP s).toList[j]? = some u → w'.cell? ⟨g2, j, none⟩ = some u
  rty : ∃ cur, Bk w' g2 cur 286
  pat : Bk w' pb pathC 302
  free2 : ∀ kb ∈ [q, g2, pb], w.heap.size ≤ kb ∧ ¬ Owns wb wm S kb
set_option maxRecDepth 100000 in
set_option maxHeartbeats 6400000 in
theorem dial_any (p1 p2 k tick : Int) (w : World) (a1 : 0 ≤ p1) (a2 : p1 ≤ 65535) (b1 : 0 ≤ p2) (b2 : p2 ≤ 65535) (t0 : 0 ≤ tick) (t1 : tick ≤ 1000000) :
    Calls Tryz.prog 92 #[.int .u64 k, .agg #[.int .i64 0, .int .i64 1, .int .i64 p1, .int .i64 p2], .int .i64 tick] w fun e w' => ∃ (base wb wm : Nat) (S : Nat → Value) (c sd st rv mp st2 lg fl pb q g2 : Nat) (s e0 : Int) (c2 : Nat) (ov : Value) (go : Nat), e = .returned (.tuple #[.pointer (some ⟨c, 0, none⟩), .int .i64 0]) ∧
      Dl w w' base wb wm 1 S tick [(0, tick + 4)] c sd st rv mp st2 lg fl pb q g2 p1 p2 k s e0 c2 ov [go] (flC q 0 1 0 0 (tick + 4) true tick false (.slice none 0 0)) := by
  have BA := Keep.mk (begin_any p1 p2 k tick tick (w.alloc (.cells #[.int .i64 0, .int .i64 1, .int .i64 p1, .int .i64 p2] 149)) a1 a2 b1 b2 (by omega))
  have E0 := Keep.mk (Bk.new w #[.int .i64 0, .int .i64 1, .int .i64 p1, .int .i64 p2] 149)
  have A0 := Keep.mk (Fz.alloc w (.cells #[.int .i64 0, .int .i64 1, .int .i64 p1, .int .i64 p2] 149))
  have HT : Keep (0 ≤ tick ∧ tick ≤ 1000000) := ⟨t0, t1⟩
  clear t0 t1 a1 a2 b1 b2
  go_enter Tryz.func92, Tryz.ntmps92
  go_wp2_with (first
    | (go_at_call 149
       go_loud (refine BA.out.mono ?_; rintro e w1 ⟨c, sd, st, rv, mp, st2, pb, base, wb, wm, rfl, bg⟩)
       have BF := Fz.below bg.below (Nat.le_refl _)
       have E1 := Keep.mk (E0.out.fz BF (by simp))
       have A1 : Keep (Fz w w1 []) := ⟨(A0.out.trans BF).mono (by simp)⟩
       have LW : Keep (w.heap.size ≠ c ∧ w.heap.size < base) := ⟨by have := bg.low; simp at this; omega, by have := bg.low; simp at this; omega⟩
       have BG := Keep.mk bg
       have FA := Keep.mk (fresh_any c k _ w1.drew (bg.cn.fz (Fz.drew w1 1) (by simp)) rfl rfl)
       clear bg BF)
    | fail)
  -- reg dial
  refine wp_region_noPanic ?_
  refine wp_region_held_drew (S := fun X => X.cell? ⟨w.heap.size, 0, none⟩ = some (.int .i64 0) ∧ X.cell? ⟨w.heap.size, 1, none⟩ = some (.int .i64 1)) (by kernel_rfl) ⟨E1.out.c 0, E1.out.c 1⟩ (fun hHeld => ?_)
  refine wpAnyH_take (i := 0) (v := ?_) rfl (by kernel_rfl) (by kernel_rfl) (by kernel_rfl) (fun _ _ _ h => h) (Or.inl ⟨by rfl, ?_⟩) (by assumption) ?_
  rotate_left
  · intro w hSw; go_simp; (try with_reducible rfl)
  try simp only [Act.put, List.setIfInBounds_toArray, List.set_cons_zero, List.set_cons_succ, List.getElem_toArray, List.getElem_cons_zero, List.getElem_cons_succ]
  refine wpAnyH_take (i := 1) (v := ?_) rfl (by kernel_rfl) (by kernel_rfl) (by kernel_rfl) (fun _ _ _ h => h) (Or.inl ⟨by rfl, ?_⟩) (by assumption) ?_
  rotate_left
  · intro w hSw; go_simp; (try with_reducible rfl)
  try simp only [Act.put, List.setIfInBounds_toArray, List.set_cons_zero, List.set_cons_succ, List.getElem_toArray, List.getElem_cons_zero, List.getElem_cons_succ]
  refine wpAnyH_take (i := 3) (v := ?_) rfl (by kernel_rfl) (by kernel_rfl) (by kernel_rfl) (fun _ _ _ h => h) (Or.inl ⟨by rfl, ?_⟩) (by assumption) ?_
  rotate_left
  · intro w hSw; go_simp; (try with_reducible rfl)
  try simp only [Act.put, List.setIfInBounds_toArray, List.set_cons_zero, List.set_cons_succ, List.getElem_toArray, List.getElem_cons_zero, List.getElem_cons_succ]
  refine wpAnyH_take (i := 5) (v := ?_) rfl (by kernel_rfl) (by kernel_rfl) (by kernel_rfl) (fun _ _ _ h => h) (Or.inl ⟨by rfl, ?_⟩) (by assumption) ?_
  rotate_left
  · intro w hSw; go_simp; (try with_reducible rfl)
  try simp only [Act.put, List.setIfInBounds_toArray, List.set_cons_zero, List.set_cons_succ, List.getElem_toArray, List.getElem_cons_zero, List.getElem_cons_succ]
  refine wpAnyH_take (i := 6) (v := ?_) rfl (by kernel_rfl) (by kernel_rfl) (by kernel_rfl) (fun _ _ _ h => h) (Or.inl ⟨by rfl, ?_⟩) (by assumption) ?_
  rotate_left
  · intro w hSw; go_simp; (try with_reducible rfl)
  try simp only [Act.put, List.setIfInBounds_toArray, List.set_cons_zero, List.set_cons_succ, List.getElem_toArray, List.getElem_cons_zero, List.getElem_cons_succ]
  refine wpAnyH_take (i := 7) (v := ?_) rfl (by kernel_rfl) (by kernel_rfl) (by kernel_rfl) (fun _ _ _ h => h) (Or.inl ⟨by rfl, ?_⟩) (by assumption) ?_
  rotate_left
  · intro w hSw; go_simp; (try with_reducible rfl)
  try simp only [Act.put, List.setIfInBounds_toArray, List.set_cons_zero, List.set_cons_succ, List.getElem_toArray, List.getElem_cons_zero, List.getElem_cons_succ]
  refine wpAnyH_take (i := 8) (v := ?_) rfl (by kernel_rfl) (by kernel_rfl) (by kernel_rfl) (fun _ _ _ h => h) (Or.inl ⟨by rfl, ?_⟩) (by assumption) ?_
  rotate_left
  · intro w hSw; go_simp; (try with_reducible rfl)
  try simp only [Act.put, List.setIfInBounds_toArray, List.set_cons_zero, List.set_cons_succ, List.getElem_toArray, List.getElem_cons_zero, List.getElem_cons_succ]
  refine wpAnyH_ready (rs := [2]) (by kernel_rfl) (by simp) ?_
  refine AllReadyH.cons rfl (fun K hK => ?_) AllReadyH.nil
  go_simp
  refine FA.out.mono ?_
  rintro e w3 ⟨s, rfl, cn3, e3⟩
  have X3 := (Fz.drew w1 1).trans e3
  have E3 := Keep.mk (E1.out.fz X3 (by simp; exact LW.out.1))
  have CN3 := Keep.mk cn3
  have F3 : Keep (Fz w1 w3 [c]) := ⟨X3.mono (by simp)⟩
  have FD := Keep.mk (fdial_syn s tick w3 (by have := HT.out; omega) (by have := HT.out; omega))
  clear cn3 e3 X3
  refine hK.out _ _ ?_ (fun hHeld => ?_)
  · first | exact ⟨E1.out.c 0, E1.out.c 1⟩ | exact ⟨E3.out.c 0, E3.out.c 1⟩ | exact ⟨E4.out.c 0, E4.out.c 1⟩ | exact ⟨(E4.out.fz (Fz.alloc w4 (.cells (legC (w3.heap.size + 1)) 211)) (by simp)).c 0, (E4.out.fz (Fz.alloc w4 (.cells (legC (w3.heap.size + 1)) 211)) (by simp)).c 1⟩ | exact ⟨E6.out.c 0, E6.out.c 1⟩
  clear hK K
  try simp only [Act.put, List.setIfInBounds_toArray, List.set_cons_zero, List.set_cons_succ, List.getElem_toArray, List.getElem_cons_zero, List.getElem_cons_succ]
  refine wpAnyH_ready (rs := [4]) (by kernel_rfl) (by simp) ?_
  refine AllReadyH.cons rfl (fun K hK => ?_) AllReadyH.nil
  go_simp
  refine FD.out.mono ?_
  rintro e w4 ⟨rfl, g0, c0, g2, c2, o2, o1, f4, q4, b4⟩
  have X4 := Fz.below b4 (Nat.le_refl _)
  have E4 := Keep.mk (E3.out.fz X4 (by simp))
  have CN4 := CN3.out.fz X4 (by simp)
  have F4 : Keep (Fz w1 w4 [c]) := ⟨(F3.out.trans X4).mono (by simp)⟩
  have FW4 := Keep.mk f4
  have O4 := Keep.mk o1
  have Q4 := Keep.mk q4
  have G4 := Keep.mk o2
  have PU := Keep.mk (put_first c w4.heap.size _ (w4.alloc (.cells (legC (w3.heap.size + 1)) 211)) (CN4.fz (Fz.alloc _ _) (by simp)) rfl (fun i hi => by rcases (by omega : i = 0 ∨ i = 1 ∨ i = 2 ∨ i = 3 ∨ i = 4 ∨ i = 5 ∨ i = 6 ∨ i = 7) with rfl | rfl | rfl | rfl | rfl | rfl | rfl | rfl <;> rfl))
  clear o2 o1 f4 q4 b4 X4 CN4
  refine hK.out _ _ ?_ (fun hHeld => ?_)
  · first | exact ⟨E1.out.c 0, E1.out.c 1⟩ | exact ⟨E3.out.c 0, E3.out.c 1⟩ | exact ⟨E4.out.c 0, E4.out.c 1⟩ | exact ⟨(E4.out.fz (Fz.alloc w4 (.cells (legC (w3.heap.size + 1)) 211)) (by simp)).c 0, (E4.out.fz (Fz.alloc w4 (.cells (legC (w3.heap.size + 1)) 211)) (by simp)).c 1⟩ | exact ⟨E6.out.c 0, E6.out.c 1⟩
  clear hK K
  try simp only [Act.put, List.setIfInBounds_toArray, List.set_cons_zero, List.set_cons_succ, List.getElem_toArray, List.getElem_cons_zero, List.getElem_cons_succ]
  refine wpAnyH_take (i := 9) (v := ?_) rfl (by kernel_rfl) (by kernel_rfl) (by kernel_rfl) (fun _ _ _ h => h) (Or.inl ⟨by rfl, ?_⟩) (by assumption) ?_
  rotate_left
  · intro w hSw; go_simp; (try with_reducible rfl)
  try simp only [Act.put, List.setIfInBounds_toArray, List.set_cons_zero, List.set_cons_succ, List.getElem_toArray, List.getElem_cons_zero, List.getElem_cons_succ]
  refine wpAnyH_ready (rs := [10]) (by kernel_rfl) (by simp) ?_
  refine AllReadyH.cons rfl (fun K hK => ?_) AllReadyH.nil
  go_simp
  refine hK.out _ _ ?_ (fun hHeld => ?_)
  · first | exact ⟨E1.out.c 0, E1.out.c 1⟩ | exact ⟨E3.out.c 0, E3.out.c 1⟩ | exact ⟨E4.out.c 0, E4.out.c 1⟩ | exact ⟨(E4.out.fz (Fz.alloc w4 (.cells (legC (w3.heap.size + 1)) 211)) (by simp)).c 0, (E4.out.fz (Fz.alloc w4 (.cells (legC (w3.heap.size + 1)) 211)) (by simp)).c 1⟩ | exact ⟨E6.out.c 0, E6.out.c 1⟩
  clear hK K
  try simp only [Act.put, List.setIfInBounds_toArray, List.set_cons_zero, List.set_cons_succ, List.getElem_toArray, List.getElem_cons_zero, List.getElem_cons_succ]
  refine wpAnyH_ready (rs := [11]) (by kernel_rfl) (by simp) ?_
  refine AllReadyH.cons rfl (fun K hK => ?_) AllReadyH.nil
  go_simp
  refine PU.out.mono ?_
  rintro e w6 ⟨rfl, cn6, e6⟩
  have X6 := (Fz.alloc w4 (.cells (legC (w3.heap.size + 1)) 211)).trans e6
  have E6 := Keep.mk (E4.out.fz X6 (by simp; exact LW.out.1))
  have F6 : Keep (Fz w1 w6 [c]) := ⟨(F4.out.trans X6).mono (by simp)⟩
  have z3 := F3.out.size
  have z1 := BG.out.cn.lt
  have z4 := FW4.out.lt
  have LG6 : Bk w6 w4.heap.size (legC (w3.heap.size + 1)) 211 := (Bk.new w4 _ _).fz e6 (by simp; omega)
  have FW6 := FW4.out.fz X6 (by simp; omega)
  have CS6 := Keep.mk (Cs.made BG.out (by simp) (A1.out.toBelow (Nat.le_refl _) (by simp)) F6.out cn6 LG6 FW6 (by have := F4.out.size; omega) (by omega) (by omega))
  have GO6 : Keep (¬ Owns wb wm (fun _ => Value.slice none 0 0) g0 ∧ g0 < w6.heap.size ∧ g0 ≠ w3.heap.size + 1 ∧ ∀ j u, (synO s)[j]? = some u → w6.cell? ⟨g0, j, none⟩ = some u) := ⟨fun o => by have := BG.out.wl.lt o; have := O4.out.low; omega, Nat.lt_of_lt_of_le O4.out.lt X6.size, O4.out.ne_bk FW4.out (by decide), fun j u hu => (World.cell?_of_block (X6.block g0 O4.out.lt (by have := O4.out.low; simp; omega))).trans (O4.out.cell j u hu)⟩
  have z5 := BG.out.low
  have z6 := BG.out.off
  have z7 := BG.out.pth.lt
  have z8 := F3.out.size
  have z9 := F6.out.size
  simp at z5
  have Q6 : Keep (Bk w6 w3.heap.size #[.slice (some ⟨g2, 0, none⟩) 1 c2, .int .u32 (IntKind.u32.wrap (s + IntKind.u32.wrap 1))] 342) := ⟨Q4.out.fz X6 (by simp; omega)⟩
  have G6 : Keep (One w3 w6 286 6 g2 c2 (synP s).toList) := ⟨G4.out.fz X6 (by have := G4.out.low; simp; omega)⟩
  have P6 : Keep (Bk w6 pb pathC 302) := ⟨BG.out.pth.fz F6.out (by simp; have := BG.out.ne; omega)⟩
  have FR6 : Keep (∀ kb ∈ [w3.heap.size, g2, pb], w.heap.size ≤ kb ∧ kb < w6.heap.size ∧ ¬ Owns wb wm (fun _ => Value.slice none 0 0) kb ∧ kb ≠ c ∧ kb ≠ w3.heap.size + 1) := ⟨fun kb hk => by
    have ho : Owns wb wm (fun _ => Value.slice none 0 0) kb → base ≤ kb ∧ kb < w1.heap.size := fun o => ⟨BG.out.wl.low o, BG.out.wl.lt o⟩
    have := G6.out.low
    have := G6.out.lt
    have := Q6.out.lt
    have := BG.out.ne
    have := G4.out.ne_bk FW4.out (by decide)
    simp only [List.mem_cons, List.not_mem_nil, or_false] at hk
    rcases hk with rfl | rfl | rfl
    · exact ⟨by omega, by omega, fun o => by have := ho o; omega, by omega, by omega⟩
    · exact ⟨by omega, by omega, fun o => by have := ho o; omega, by omega, by omega⟩
    · exact ⟨by omega, by omega, fun o => by have := ho o; omega, by omega, by omega⟩⟩
  clear cn6 e6 X6 z3 z1 z4 z5 z6 z7 z8 z9 LG6 FW6
  refine hK.out _ _ ?_ (fun hHeld => ?_)
  · first | exact ⟨E1.out.c 0, E1.out.c 1⟩ | exact ⟨E3.out.c 0, E3.out.c 1⟩ | exact ⟨E4.out.c 0, E4.out.c 1⟩ | exact ⟨(E4.out.fz (Fz.alloc w4 (.cells (legC (w3.heap.size + 1)) 211)) (by simp)).c 0, (E4.out.fz (Fz.alloc w4 (.cells (legC (w3.heap.size + 1)) 211)) (by simp)).c 1⟩ | exact ⟨E6.out.c 0, E6.out.c 1⟩
  clear hK K
  try simp only [Act.put, List.setIfInBounds_toArray, List.set_cons_zero, List.set_cons_succ, List.getElem_toArray, List.getElem_cons_zero, List.getElem_cons_succ]
  refine wpAnyH_done (by kernel_rfl) ?_ _
  refine NoPanic.normal ?_
  have SD := Keep.mk (settle_dial tick s _ (.slice none 0 0) [] (fun _ gos => ∃ go, gos = [go]) CS6.out HT.out.1 (by have := HT.out; omega) (by simp) (by simp) (by omega) (by omega) (Outs.nil _ _ _ _ _ _) (by rintro kb (e | e) <;> cases e) (fun w8 S8 c8 m8 => by
    have G8 := m8.other GO6.out.2.1 GO6.out.1
    refine (flush_syn s c8.cn c8.leg c8.rcv c8.flw (Nat.lt_of_lt_of_le GO6.out.2.1 m8.size) (fun j u hu => (World.cell?_of_block G8).trans (GO6.out.2.2.2 j u hu)) (nd_four c8.nd) GO6.out.2.2.1 (Outs.nil _ _ _ _ _ _) (Nat.le_trans c8.hb c8.hs) (by simp)).mono ?_
    rintro e w9 ⟨rfl, ov', go, hf⟩
    exact ⟨rfl, ov', [go], hf, go, rfl⟩))
  go_wp2_with (first
    | (go_at_call 133
       go_loud (refine SD.out.mono ?_; rintro e w7 ⟨rfl, S7, ov, gos, c7, o7, ⟨go, rfl⟩, f7, x7⟩)
       rw [show max (tick + 4) (tick + 1) = tick + 4 by omega] at c7
       have C7 := Keep.mk c7
       have O7 := Keep.mk o7
       have FR7 := Keep.mk f7
       have X7 := Keep.mk x7
       clear c7 o7 f7 x7)
    | fail)
  have BL : ∀ kb ∈ [w3.heap.size, g2, pb], w7.heap[kb]? = w6.heap[kb]? := fun kb hk => X7.out.block kb (FR6.out kb hk).2.1 (FR6.out kb hk).2.2.1 (by have := FR6.out kb hk; simp [Value.ownBlock]; omega)
  obtain ⟨_, cur, hcur⟩ := own_ty G6.out.own (g := g2) rfl
  refine bodyPost_ret (results_tmp2 rfl _ _ _) rfl ⟨base, wb, wm, S7, c, sd, st, rv, mp, st2, w4.heap.size, w3.heap.size + 1, pb, w3.heap.size, g2, s, _, c2, ov, go, rfl, ⟨C7.out, O7.out, FR7.out, ⟨(BL _ (by simp)).trans Q6.out.eq⟩, fun j u hu => (World.cell?_of_block (BL g2 (by simp))).trans (G6.out.cell j u hu), ⟨cur, ⟨(BL g2 (by simp)).trans hcur.eq⟩⟩, ⟨(BL pb (by simp)).trans P6.out.eq⟩, fun kb hk => ⟨(FR6.out kb hk).1, X7.out.free (FR6.out kb hk).2.1 (FR6.out kb hk).2.2.1⟩⟩⟩
  -- end reg
end Go.Proofs.YtjpokeakemlffaaGreatDoor
/-
  The example of the laws of connections.
-/
namespace Go.Proofs.YtjpokeakemlffaaGreatDoor
open Go.RowKit
section
variable {w : World} {c sd rv pb lg wb fl q : Nat} {p1 p2 k : Int} {out : Value}
end
end Go.Proofs.YtjpokeakemlffaaGreatDoor
/-
  A flow that hears nothing: its timer, again and again; its death.
-/
namespace Go.Proofs.YtjpokeakemlffaaGreatDoor
open Go.RowKit
section
variable {w : World} {f q : Nat} {times state rcv tries at_ since : Int} {has twice : Bool} {out : Value}
end
end Go.Proofs.YtjpokeakemlffaaGreatDoor
/-
  A connection whose one leg is dead: what is lost, how it fails.
-/
namespace Go.Proofs.YtjpokeakemlffaaGreatDoor
open Go.RowKit
abbrev conE (p1 p2 k state err ld : Int) (sd rv pb lg wb : Nat) (out : Value) : Array Value := conC p1 p2 k 0 false state err sd rv pb (.pointer (some ⟨lg, 0, none⟩)) 0 0 wb 1 0 0 false ld false out false false
section
variable {w : World} {c sd rv pb lg wb fl q : Nat} {p1 p2 k state err ld : Int} {out fout : Value} {times rcv tries at_ since : Int} {has twice : Bool}
end
end Go.Proofs.YtjpokeakemlffaaGreatDoor
