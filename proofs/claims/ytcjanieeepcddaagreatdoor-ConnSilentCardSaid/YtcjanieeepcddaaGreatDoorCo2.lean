/-
  Right segments; what a connection is made of: paths, sender, receiver.
-/
import Derived.Test.YtcjanieeepcddaaGreatDoorCo1
import Derived.Test.YtcjanieeepcddaaGreatDoorWhO
import Derived.Test.YtcjanieeepcddaaGreatDoorKeyT
namespace Go.Proofs.YtcjanieeepcddaaGreatDoor
open Go.RowKit

set_option maxRecDepth 100000 in
theorem in_yes (x m : Int) (w : World) (h0 : 0 ≤ x) (h1 : x ≤ m) : Calls Tryz.prog 94 #[.int .i64 x, .int .i64 m] w fun e w' => e = .returned (.bool true) ∧ w' = w := by
  have d0 : decide (0 ≤ x) = true := decide_eq_true h0
  have d1 : decide (x ≤ m) = true := decide_eq_true h1
  go_enter Tryz.func94, Tryz.ntmps94
  go_wp2_with fail
  go_ret
  exact ⟨by first | rfl | simp [h0, h1], rfl⟩
set_option maxRecDepth 100000 in
theorem in_four (w : World) : Calls Tryz.prog 94 #[.int .i64 4, .int .i64 3] w fun e w' => e = .returned (.bool false) ∧ w' = w := by
  go_enter Tryz.func94, Tryz.ntmps94
  go_wp2_with fail
  go_ret
  exact ⟨by first | rfl | simp, rfl⟩
set_option maxRecDepth 100000 in
theorem index_none (v : Value) (w : World) : Calls Tryz.prog 92 #[.slice none 0 0, v] w fun e w' => e = .returned (.int .i64 (-1)) ∧ w' = w := by
  go_enter Tryz.func92, Tryz.ntmps92
  go_wp2_with fail
  go_loopw [8] (fun i wr => i = .int .i64 0 ∧ wr = w) (fun _ _ => 0)
  case atStart => exact ⟨rfl, rfl⟩
  case round =>
    obtain ⟨rfl, rfl⟩ := hrel
    go_wp2_with fail
    go_ret
    exact ⟨rfl, rfl⟩
set_option maxRecDepth 100000 in
theorem contains_none (v : Value) (w : World) : Calls Tryz.prog 95 #[.slice none 0 0, v] w fun e w' => e = .returned (.bool false) ∧ w' = w := by
  go_enter Tryz.func95, Tryz.ntmps95
  go_wp2_with (first
    | (go_at_call 92
       go_loud (refine (index_none _ _).mono ?_; rintro e X ⟨rfl, hX⟩)
       rw [hX]
       clear hX)
    | fail)
  go_ret
  exact ⟨by first | rfl | simp, rfl⟩
/-- A segment without options and data. -/
abbrev bareS (src dst sp dp seq ack : Int) (syn acks fin rst : Bool) (win : Int) : Array Value :=
  #[.int .i64 src, .int .i64 dst, .int .i64 sp, .int .i64 dp, .int .u32 seq, .int .u32 ack, .bool syn, .bool acks, .bool fin, .bool rst, .int .i64 win, .slice none 0 0, .slice none 0 0]
set_option maxRecDepth 100000 in
set_option maxHeartbeats 1600000 in
theorem right_yes (src dst sp dp seq ack : Int) (syn acks fin rst : Bool) (win : Int) (w : World) (a1 : 0 ≤ src) (a2 : src ≤ 3) (b1 : 0 ≤ dst) (b2 : dst ≤ 3) (c1 : 0 ≤ sp) (c2 : sp ≤ 65535) (d1 : 0 ≤ dp) (d2 : dp ≤ 65535) (e1 : 0 ≤ win) (e2 : win ≤ 65535) :
    Calls Tryz.prog 41 #[.agg (bareS src dst sp dp seq ack syn acks fin rst win)] w fun e w' => e = .returned (.bool true) ∧ Below w.heap.size w w' := by
  have IA : Keep (∀ W, Calls Tryz.prog 94 #[.int .i64 src, .int .i64 3] W fun e w' => e = .returned (.bool true) ∧ w' = W) := ⟨fun W => in_yes src 3 W a1 a2⟩
  have IB : Keep (∀ W, Calls Tryz.prog 94 #[.int .i64 dst, .int .i64 3] W fun e w' => e = .returned (.bool true) ∧ w' = W) := ⟨fun W => in_yes dst 3 W b1 b2⟩
  have IC : Keep (∀ W, Calls Tryz.prog 94 #[.int .i64 sp, .int .i64 65535] W fun e w' => e = .returned (.bool true) ∧ w' = W) := ⟨fun W => in_yes sp 65535 W c1 c2⟩
  have ID : Keep (∀ W, Calls Tryz.prog 94 #[.int .i64 dp, .int .i64 65535] W fun e w' => e = .returned (.bool true) ∧ w' = W) := ⟨fun W => in_yes dp 65535 W d1 d2⟩
  have IE : Keep (∀ W, Calls Tryz.prog 94 #[.int .i64 win, .int .i64 65535] W fun e w' => e = .returned (.bool true) ∧ w' = W) := ⟨fun W => in_yes win 65535 W e1 e2⟩
  have HB : Keep (Below w.heap.size w (w.alloc (.cells (bareS src dst sp dp seq ack syn acks fin rst win) 39))) := ⟨(Below.refl _ w).alloc (Nat.le_refl _) _⟩
  clear a1 a2 b1 b2 c1 c2 d1 d2 e1 e2
  go_enter Tryz.func41, Tryz.ntmps41
  go_wp2_with (first
    | (go_at_call_of 94 (Value.int .i64 src)
       go_loud (refine (IA.out _).mono ?_; rintro e X ⟨rfl, hX⟩)
       rw [hX]
       clear hX)
    | (go_at_call_of 94 (Value.int .i64 dst)
       go_loud (refine (IB.out _).mono ?_; rintro e X ⟨rfl, hX⟩)
       rw [hX]
       clear hX)
    | (go_at_call_of 94 (Value.int .i64 sp)
       go_loud (refine (IC.out _).mono ?_; rintro e X ⟨rfl, hX⟩)
       rw [hX]
       clear hX)
    | (go_at_call_of 94 (Value.int .i64 dp)
       go_loud (refine (ID.out _).mono ?_; rintro e X ⟨rfl, hX⟩)
       rw [hX]
       clear hX)
    | (go_at_call_of 94 (Value.int .i64 win)
       go_loud (refine (IE.out _).mono ?_; rintro e X ⟨rfl, hX⟩)
       rw [hX]
       clear hX)
    | (go_at_call 95
       go_loud (refine (contains_none _ _).mono ?_; rintro e X ⟨rfl, hX⟩)
       rw [hX]
       clear hX)
    | fail)
  go_ret
  exact ⟨by first | rfl | simp, HB.out⟩
set_option maxRecDepth 100000 in
set_option maxHeartbeats 1600000 in
theorem right_four (w : World) : Calls Tryz.prog 41 #[.agg (bareS 4 0 0 0 0 0 false false false false 0)] w fun e w' => e = .returned (.bool false) ∧ Below w.heap.size w w' := by
  have HB : Keep (Below w.heap.size w (w.alloc (.cells (bareS 4 0 0 0 0 0 false false false false 0) 39))) := ⟨(Below.refl _ w).alloc (Nat.le_refl _) _⟩
  go_enter Tryz.func41, Tryz.ntmps41
  go_wp2_with (first
    | (go_at_call 94
       go_loud (refine (in_four _).mono ?_; rintro e X ⟨rfl, hX⟩)
       rw [hX]
       clear hX)
    | fail)
  go_ret
  exact ⟨by first | rfl | simp, HB.out⟩
set_option maxRecDepth 100000 in
set_option maxHeartbeats 1600000 in
theorem snew_any (w : World) : Calls Tryz.prog 119 #[.slice none 0 0] w fun e w' => e = .returned (.pointer (some ⟨w.heap.size, 0, none⟩)) ∧ w' = w.alloc (.cells #[.slice none 0 0] 222) := by
  go_enter Tryz.func119, Tryz.ntmps119
  go_wp2_with fail
  go_loopw [10] (fun i wr => i = .int .i64 0 ∧ wr = w.alloc (.cells #[.slice none 0 0] 222)) (fun _ _ => 0)
  case atStart => exact ⟨rfl, rfl⟩
  case round =>
    obtain ⟨rfl, rfl⟩ := hrel
    go_wp2_with fail
    go_ret
    exact ⟨rfl, rfl⟩
set_option maxRecDepth 100000 in
theorem dsnew_any (w : World) : Calls Tryz.prog 67 #[] w fun e w' => e = .returned (.pointer (some ⟨w.heap.size + 1, 0, none⟩)) ∧ w' = (w.alloc (.cells #[.slice none 0 0] 222)).alloc (.cells #[.pointer (some ⟨w.heap.size, 0, none⟩), .int .i64 1, .int .i64 1, .int .i64 33, .slice none 0 0, .bool false, .bool false] 129) := by
  go_enter Tryz.func67, Tryz.ntmps67
  go_wp2_with (first
    | (go_at_call 119
       go_loud (refine (snew_any _).mono ?_; rintro e X ⟨rfl, hX⟩)
       rw [hX]
       clear hX)
    | fail)
  go_ret
  exact ⟨rfl, rfl⟩
set_option maxRecDepth 100000 in
theorem drnew_any (w : World) : Calls Tryz.prog 68 #[] w fun e w' => e = .returned (.pointer (some ⟨w.heap.size + 2, 0, none⟩)) ∧ w' = ((w.alloc (.map #[] 0)).alloc (.cells #[.slice none 0 0] 222)).alloc (.cells #[.int .i64 1, .slice none 0 0, .map (some w.heap.size), .pointer (some ⟨w.heap.size + 1, 0, none⟩), .int .i64 0] 132) := by
  have hmk : (Instr.makeMap 130 none).run Tryz.prog w = .ok (.map (some w.heap.size)) (w.alloc (.map #[] 0)) := rfl
  have SN := snew_any (w.alloc (.map #[] 0))
  rw [show (w.alloc (.map #[] 0)).heap.size = w.heap.size + 1 by simp] at SN
  have SN := Keep.mk SN
  go_enter Tryz.func68, Tryz.ntmps68
  go_wp2_with (first
    | (go_at_call 119
       go_loud (refine SN.out.mono ?_; rintro e X ⟨rfl, hX⟩)
       rw [hX]
       clear hX)
    | fail)
  go_ret
  exact ⟨rfl, rfl⟩
theorem results_cell_tmp {P : Program} {fn : Func} {p q : Tmp} {ty : TypeId} (h : fn.results = #[.cell p ty, .tmp q]) (tmps : Array Value) (w : World) (g : Nat) (t : TypeId) (cs : Array Value) (fr : Nat × Nat) (d : TypeDesc)
    (hp : tmps.getD p undef = .pointer (some ⟨g, 0, none⟩)) (hg : w.heap[g]? = some (.cells cs t fr))
    (hu : P.underlying ty = some d) (hd : (match d with | .struct _ | .array _ _ => true | _ => false) = true) (hi : (P.info? ty).map (·.size) = some cs.size) :
    (results fn tmps).run P w = .ok (.tuple #[.agg cs, tmps.getD q undef]) w := by
  have hp' : tmps[p]?.getD undef = .pointer (some ⟨g, 0, none⟩) := by simpa using hp
  simp [results, h, hp', asAddr, run_loadVar_row w g t ty cs fr d hg hu hd hi]
set_option maxRecDepth 100000 in
theorem find_none (k : Int) (w : World) : Calls Tryz.prog 40 #[.slice none 0 0, .int .i64 k] w fun e w' => e = .returned (.tuple #[.agg #[.int .i64 0, .int .u64 0, .int .u64 0, .int .u32 0, .int .u32 0, .int .i64 0, .int .i64 0, .bool false, .bool false, .int .i64 0, .bool false, .int .i64 0, .int .i64 0, .bool false], .bool false]) ∧ Below w.heap.size w w' := by
  go_enter Tryz.func40, Tryz.ntmps40
  go_wp2_with (first
    | (go_at_call 92
       go_loud (refine (index_none _ _).mono ?_; rintro e X ⟨rfl, hX⟩)
       rw [hX]
       clear hX)
    | fail)
  have hg := heap_alloc_new (w.alloc (.cells #[.int .i64 k] 3)) (.cells #[.int .i64 0, .int .u64 0, .int .u64 0, .int .u32 0, .int .u32 0, .int .i64 0, .int .i64 0, .bool false, .bool false, .int .i64 0, .bool false, .int .i64 0, .int .i64 0, .bool false] 54)
  rw [show (w.alloc (.cells #[.int .i64 k] 3)).heap.size = w.heap.size + 1 by simp] at hg
  exact bodyPost_ret (results_cell_tmp Tryz.results40 _ _ (w.heap.size + 1) 54 _ (0, 0) _ rfl hg Tryz.underlying54 rfl (by kernel_rfl)) rfl ⟨rfl, ((Below.refl _ w).alloc (Nat.le_refl _) _).alloc (by simp) _⟩
end Go.Proofs.YtcjanieeepcddaaGreatDoor
/-
  The paths; a connection's beginning.
-/
namespace Go.Proofs.YtcjanieeepcddaaGreatDoor
open Go.RowKit

set_option maxRecDepth 100000 in
theorem may_two (g : Nat) (w : World) (h : Bk w g #[.int .i64 0, .int .i64 1] 3) : Calls Tryz.prog 112 #[.slice (some ⟨g, 0, none⟩) 2 2] w fun e w' => e = .returned (.bool true) ∧ w' = w := by
  have HB := Keep.mk h
  clear h
  go_enter Tryz.func112, Tryz.ntmps112
  go_wp2_with fail
  go_loopw [7] (fun i wr => ∃ j : Nat, j ≤ 2 ∧ i = .int .i64 j ∧ wr = w) (fun i _ => 2 - (intOf i).toNat)
  case atStart => exact ⟨0, by omega, rfl, rfl⟩
  case round =>
    obtain ⟨j, hj, rfl, rfl⟩ := hrel
    have d0 : wr.cell? ⟨g, 0, none⟩ = some (.int .i64 0) := HB.out.c 0
    have d1 : wr.cell? ⟨g, 1, none⟩ = some (.int .i64 1) := HB.out.c 1
    rcases (by omega : j = 0 ∨ j = 1 ∨ j = 2) with rfl | rfl | rfl
    · go_wp2_with fail
      go_roundw
      case rel => exact ⟨1, by omega, rfl, by first | rfl | trivial⟩
      case measure => simp [intOf]
    · go_wp2_with fail
      go_roundw
      case rel => exact ⟨2, by omega, rfl, by first | rfl | trivial⟩
      case measure => simp [intOf]
    · go_wp2_with fail
      go_ret
      exact ⟨rfl, rfl⟩
abbrev pathZ : Array Value := #[.bool false, .bool false, .bool false, .bool false, .bool false, .bool false, .bool false, .bool false, .bool false, .bool false, .bool false, .bool false, .bool false, .bool false, .bool false, .bool false, .bool false, .bool false, .bool false, .bool false, .bool false, .bool false, .bool false, .bool false, .int .i64 8]
abbrev pathC : Array Value := #[.bool true, .bool false, .bool false, .bool false, .bool false, .bool true, .bool false, .bool false, .bool false, .bool true, .bool false, .bool false, .bool false, .bool false, .bool false, .bool false, .bool false, .bool false, .bool false, .bool false, .bool false, .bool false, .bool false, .bool false, .int .i64 8]
set_option maxRecDepth 100000 in
set_option maxHeartbeats 1600000 in
theorem pnew_01 (w : World) : Calls Tryz.prog 66 #[.int .i64 0, .int .i64 1, .int .i64 8] w fun e w' => e = .returned (.tuple #[.pointer (some ⟨w.heap.size + 1, 0, none⟩), .int .i64 0]) ∧ Bk w' (w.heap.size + 1) pathC 153 ∧ Below w.heap.size w w' := by
  have MT := Keep.mk (may_two w.heap.size _ (Bk.new w #[.int .i64 0, .int .i64 1] 3))
  have hm : min (max (8 : Int) 1) 8 = 8 := by decide
  go_enter Tryz.func66, Tryz.ntmps66
  go_upto_region 4 with (first
    | (go_at_call 112
       go_loud (refine MT.out.mono ?_; rintro e X ⟨rfl, hX⟩)
       rw [hX]
       clear hX)
    | fail)
  -- reg pnew
  refine wp_region_noPanic ?_
  refine wp_region_held_drew (S := fun X => True) (by kernel_rfl) trivial (fun hHeld => ?_)
  refine wpAnyH_take (i := 0) (v := ?_) rfl (by kernel_rfl) (by kernel_rfl) (by kernel_rfl) (fun _ _ _ h => h) (Or.inl ⟨by rfl, ?_⟩) trivial ?_
  rotate_left
  · intro w hSw; go_simp; (try with_reducible rfl)
  try simp only [Act.put, List.setIfInBounds_toArray, List.set_cons_zero, List.set_cons_succ, List.getElem_toArray, List.getElem_cons_zero, List.getElem_cons_succ]
  refine wpAnyH_take (i := 1) (v := ?_) rfl (by kernel_rfl) (by kernel_rfl) (by kernel_rfl) (fun _ _ _ h => h) (Or.inl ⟨by rfl, ?_⟩) trivial ?_
  rotate_left
  · intro w hSw; go_simp; (try with_reducible rfl)
  try simp only [Act.put, List.setIfInBounds_toArray, List.set_cons_zero, List.set_cons_succ, List.getElem_toArray, List.getElem_cons_zero, List.getElem_cons_succ]
  refine wpAnyH_take (i := 2) (v := ?_) rfl (by kernel_rfl) (by kernel_rfl) (by kernel_rfl) (fun _ _ _ h => h) (Or.inl ⟨by rfl, ?_⟩) trivial ?_
  rotate_left
  · intro w hSw; go_simp; (try with_reducible rfl)
  try simp only [Act.put, List.setIfInBounds_toArray, List.set_cons_zero, List.set_cons_succ, List.getElem_toArray, List.getElem_cons_zero, List.getElem_cons_succ]
  refine wpAnyH_take (i := 3) (v := ?_) rfl (by kernel_rfl) (by kernel_rfl) (by kernel_rfl) (fun _ _ _ h => h) (Or.inl ⟨by rfl, ?_⟩) trivial ?_
  rotate_left
  · intro w hSw; go_simp; (try with_reducible rfl)
  try simp only [Act.put, List.setIfInBounds_toArray, List.set_cons_zero, List.set_cons_succ, List.getElem_toArray, List.getElem_cons_zero, List.getElem_cons_succ]
  refine wpAnyH_take (i := 4) (v := ?_) rfl (by kernel_rfl) (by kernel_rfl) (by kernel_rfl) (fun _ _ _ h => h) (Or.inl ⟨by rfl, ?_⟩) trivial ?_
  rotate_left
  · intro w hSw; go_simp; (try with_reducible rfl)
  try simp only [Act.put, List.setIfInBounds_toArray, List.set_cons_zero, List.set_cons_succ, List.getElem_toArray, List.getElem_cons_zero, List.getElem_cons_succ]
  refine wpAnyH_take (i := 5) (v := ?_) rfl (by kernel_rfl) (by kernel_rfl) (by kernel_rfl) (fun _ _ _ h => h) (Or.inl ⟨by rfl, ?_⟩) trivial ?_
  rotate_left
  · intro w hSw; go_simp; (try with_reducible rfl)
  try simp only [Act.put, List.setIfInBounds_toArray, List.set_cons_zero, List.set_cons_succ, List.getElem_toArray, List.getElem_cons_zero, List.getElem_cons_succ]
  refine wpAnyH_take (i := 6) (v := ?_) rfl (by kernel_rfl) (by kernel_rfl) (by kernel_rfl) (fun _ _ _ h => h) (Or.inl ⟨by rfl, ?_⟩) trivial ?_
  rotate_left
  · intro w hSw; go_simp; (try with_reducible rfl)
  try simp only [Act.put, List.setIfInBounds_toArray, List.set_cons_zero, List.set_cons_succ, List.getElem_toArray, List.getElem_cons_zero, List.getElem_cons_succ]
  refine wpAnyH_take (i := 7) (v := ?_) rfl (by kernel_rfl) (by kernel_rfl) (by kernel_rfl) (fun _ _ _ h => h) (Or.inl ⟨by rfl, ?_⟩) trivial ?_
  rotate_left
  · intro w hSw; go_simp; (try with_reducible rfl)
  try simp only [Act.put, List.setIfInBounds_toArray, List.set_cons_zero, List.set_cons_succ, List.getElem_toArray, List.getElem_cons_zero, List.getElem_cons_succ]
  refine wpAnyH_take (i := 8) (v := ?_) rfl (by kernel_rfl) (by kernel_rfl) (by kernel_rfl) (fun _ _ _ h => h) (Or.inl ⟨by rfl, ?_⟩) trivial ?_
  rotate_left
  · intro w hSw; go_simp; (try with_reducible rfl)
  try simp only [Act.put, List.setIfInBounds_toArray, List.set_cons_zero, List.set_cons_succ, List.getElem_toArray, List.getElem_cons_zero, List.getElem_cons_succ]
  refine wpAnyH_take (i := 9) (v := ?_) rfl (by kernel_rfl) (by kernel_rfl) (by kernel_rfl) (fun _ _ _ h => h) (Or.inl ⟨by rfl, ?_⟩) trivial ?_
  rotate_left
  · intro w hSw; go_simp; (try with_reducible rfl)
  try simp only [Act.put, List.setIfInBounds_toArray, List.set_cons_zero, List.set_cons_succ, List.getElem_toArray, List.getElem_cons_zero, List.getElem_cons_succ]
  refine wpAnyH_take (i := 11) (v := ?_) rfl (by kernel_rfl) (by kernel_rfl) (by kernel_rfl) (fun _ _ _ h => h) (Or.inl ⟨by rfl, ?_⟩) trivial ?_
  rotate_left
  · intro w hSw; go_simp; (try with_reducible rfl)
  try simp only [Act.put, List.setIfInBounds_toArray, List.set_cons_zero, List.set_cons_succ, List.getElem_toArray, List.getElem_cons_zero, List.getElem_cons_succ]
  refine wpAnyH_take (i := 12) (v := ?_) rfl (by kernel_rfl) (by kernel_rfl) (by kernel_rfl) (fun _ _ _ h => h) (Or.inl ⟨by rfl, ?_⟩) trivial ?_
  rotate_left
  · intro w hSw; go_simp; (try with_reducible rfl)
  try simp only [Act.put, List.setIfInBounds_toArray, List.set_cons_zero, List.set_cons_succ, List.getElem_toArray, List.getElem_cons_zero, List.getElem_cons_succ]
  refine wpAnyH_take (i := 15) (v := ?_) rfl (by kernel_rfl) (by kernel_rfl) (by kernel_rfl) (fun _ _ _ h => h) (Or.inl ⟨by rfl, ?_⟩) trivial ?_
  rotate_left
  · intro w hSw; go_simp; (try with_reducible rfl)
  try simp only [Act.put, List.setIfInBounds_toArray, List.set_cons_zero, List.set_cons_succ, List.getElem_toArray, List.getElem_cons_zero, List.getElem_cons_succ]
  refine wpAnyH_take (i := 16) (v := ?_) rfl (by kernel_rfl) (by kernel_rfl) (by kernel_rfl) (fun _ _ _ h => h) (Or.inl ⟨by rfl, ?_⟩) trivial ?_
  rotate_left
  · intro w hSw; go_simp; (try with_reducible rfl)
  try simp only [Act.put, List.setIfInBounds_toArray, List.set_cons_zero, List.set_cons_succ, List.getElem_toArray, List.getElem_cons_zero, List.getElem_cons_succ]
  refine wpAnyH_take (i := 17) (v := ?_) rfl (by kernel_rfl) (by kernel_rfl) (by kernel_rfl) (fun _ _ _ h => h) (Or.inl ⟨by rfl, ?_⟩) trivial ?_
  rotate_left
  · intro w hSw; go_simp; (try with_reducible rfl)
  try simp only [Act.put, List.setIfInBounds_toArray, List.set_cons_zero, List.set_cons_succ, List.getElem_toArray, List.getElem_cons_zero, List.getElem_cons_succ]
  refine wpAnyH_ready (rs := [10]) (by kernel_rfl) (by simp) ?_
  refine AllReadyH.cons rfl (fun K hK => ?_) AllReadyH.nil
  go_simp
  refine hK.out _ _ ?_ (fun hHeld => ?_)
  · exact trivial
  clear hK K
  try simp only [Act.put, List.setIfInBounds_toArray, List.set_cons_zero, List.set_cons_succ, List.getElem_toArray, List.getElem_cons_zero, List.getElem_cons_succ]
  refine wpAnyH_take (i := 13) (v := ?_) rfl (by kernel_rfl) (by kernel_rfl) (by kernel_rfl) (fun _ _ _ h => h) (Or.inl ⟨by rfl, ?_⟩) trivial ?_
  rotate_left
  · intro w hSw; go_simp; (try with_reducible rfl)
  try simp only [Act.put, List.setIfInBounds_toArray, List.set_cons_zero, List.set_cons_succ, List.getElem_toArray, List.getElem_cons_zero, List.getElem_cons_succ]
  refine wpAnyH_ready (rs := [14]) (by kernel_rfl) (by simp) ?_
  refine AllReadyH.cons rfl (fun K hK => ?_) AllReadyH.nil
  go_simp
  refine hK.out _ _ ?_ (fun hHeld => ?_)
  · exact trivial
  clear hK K
  try simp only [Act.put, List.setIfInBounds_toArray, List.set_cons_zero, List.set_cons_succ, List.getElem_toArray, List.getElem_cons_zero, List.getElem_cons_succ]
  refine wpAnyH_take (i := 18) (v := ?_) rfl (by kernel_rfl) (by kernel_rfl) (by kernel_rfl) (fun _ _ _ h => h) (Or.inl ⟨by rfl, ?_⟩) trivial ?_
  rotate_left
  · intro w hSw; go_simp; (try with_reducible rfl)
  try simp only [Act.put, List.setIfInBounds_toArray, List.set_cons_zero, List.set_cons_succ, List.getElem_toArray, List.getElem_cons_zero, List.getElem_cons_succ]
  refine wpAnyH_ready (rs := [19]) (by kernel_rfl) (by simp) ?_
  refine AllReadyH.cons rfl (fun K hK => ?_) AllReadyH.nil
  go_simp
  refine hK.out _ _ ?_ (fun hHeld => ?_)
  · exact trivial
  clear hK K
  try simp only [Act.put, List.setIfInBounds_toArray, List.set_cons_zero, List.set_cons_succ, List.getElem_toArray, List.getElem_cons_zero, List.getElem_cons_succ]
  refine wpAnyH_done (by kernel_rfl) ?_ _
  refine NoPanic.normal ?_
  go_wp2_with fail
  refine bodyPost_ret (results_tmp2 rfl _ _ _) rfl ⟨rfl, ?_, ?_⟩
  · have b := (Bk.new (w.alloc (.cells #[.int .i64 0, .int .i64 1] 3)) pathC 153).fz (Fz.drew _ 1) (by simp)
    rw [show (w.alloc (.cells #[.int .i64 0, .int .i64 1] 3)).heap.size = w.heap.size + 1 by simp] at b
    exact b
  · exact (((Below.refl _ w).alloc (Nat.le_refl _) _).alloc (by simp) _).drew
  -- end reg
end Go.Proofs.YtcjanieeepcddaaGreatDoor
/-
  A connection's beginning.
-/
namespace Go.Proofs.YtcjanieeepcddaaGreatDoor
open Go.RowKit

/-- A connection's block. -/
abbrev conC (p1 p2 k his : Int) (known : Bool) (state err : Int) (sd rv pb : Nat) (l0 : Value) (how last : Int) (wb : Nat) (made endTries asked : Int) (closed : Bool) (lastDeath : Int) (first : Bool) (out : Value) (told ended : Bool) : Array Value :=
  #[.int .u64 k, .int .u64 his, .bool known, .int .i64 0, .int .i64 1, .int .i64 p1, .int .i64 p2, .int .i64 state, .int .i64 err, .pointer (some ⟨sd, 0, none⟩), .pointer (some ⟨rv, 0, none⟩), .pointer (some ⟨pb, 0, none⟩),
    l0, .pointer none, .pointer none, .pointer none, .pointer none, .pointer none, .pointer none, .pointer none, .int .i64 how, .int .i64 last, .pointer (some ⟨wb, 0, none⟩), .int .u64 made, .int .i64 endTries, .int .i64 asked, .bool closed, .int .i64 lastDeath, .bool first, out, .bool told, .bool ended]
abbrev sndC (st : Nat) : Array Value := #[.pointer (some ⟨st, 0, none⟩), .int .i64 1, .int .i64 1, .int .i64 33, .slice none 0 0, .bool false, .bool false]
abbrev rcvC (mp st : Nat) : Array Value := #[.int .i64 1, .slice none 0 0, .map (some mp), .pointer (some ⟨st, 0, none⟩), .int .i64 0]

set_option maxRecDepth 100000 in
set_option maxHeartbeats 1600000 in
theorem begin_four (k tick : Int) (w : World) : Calls Tryz.prog 26 #[.int .u64 k, .agg #[.int .i64 4, .int .i64 0, .int .i64 0, .int .i64 0], .int .i64 tick] w fun e w' => e = .returned (.tuple #[.pointer none, .int .i64 1]) ∧ Below w.heap.size w w' := by
  have RF := Keep.mk (right_four (w.alloc (.cells #[.int .i64 4, .int .i64 0, .int .i64 0, .int .i64 0] 30)))
  have HB := Keep.mk ((Below.refl _ w).alloc (Nat.le_refl _) (.cells #[.int .i64 4, .int .i64 0, .int .i64 0, .int .i64 0] 30))
  go_enter Tryz.func26, Tryz.ntmps26
  go_wp2_with (first
    | (go_at_call 41
       go_loud (refine RF.out.mono ?_; rintro e w1 ⟨rfl, hb1⟩)
       have B1 := Keep.mk (HB.out.trans (hb1.mono HB.out.size))
       clear hb1)
    | fail)
  refine bodyPost_ret (results_tmp2 rfl _ _ _) rfl ⟨rfl, B1.out⟩

theorem dsnew_l (w : World) : Calls Tryz.prog 67 #[] w fun e w' => ∃ st sd, e = .returned (.pointer (some ⟨sd, 0, none⟩)) ∧ w.heap.size ≤ st ∧ w.heap.size ≤ sd ∧ st ≠ sd ∧ Bk w' sd (sndC st) 129 ∧ Bk w' st #[.slice none 0 0] 222 ∧ Below w.heap.size w w' := by
  refine (dsnew_any w).mono ?_
  rintro e w' ⟨rfl, rfl⟩
  have b := Bk.new (w.alloc (.cells #[.slice none 0 0] 222)) (sndC w.heap.size) 129
  rw [show (w.alloc (.cells #[.slice none 0 0] 222)).heap.size = w.heap.size + 1 by simp] at b
  exact ⟨w.heap.size, w.heap.size + 1, rfl, Nat.le_refl _, by omega, by omega, b, (Bk.new w _ _).fz (Fz.alloc _ _) (by simp), ((Below.refl _ w).alloc (Nat.le_refl _) _).alloc (by simp) _⟩
theorem drnew_l (w : World) : Calls Tryz.prog 68 #[] w fun e w' => ∃ mp st rv, e = .returned (.pointer (some ⟨rv, 0, none⟩)) ∧ w.heap.size ≤ rv ∧ Bk w' rv (rcvC mp st) 132 ∧ Below w.heap.size w w' := by
  refine (drnew_any w).mono ?_
  rintro e w' ⟨rfl, rfl⟩
  have b := Bk.new ((w.alloc (.map #[] 0)).alloc (.cells #[.slice none 0 0] 222)) (rcvC w.heap.size (w.heap.size + 1)) 132
  rw [show ((w.alloc (.map #[] 0)).alloc (.cells #[.slice none 0 0] 222)).heap.size = w.heap.size + 2 by simp] at b
  exact ⟨w.heap.size, w.heap.size + 1, w.heap.size + 2, rfl, by omega, b, (((Below.refl _ w).alloc (Nat.le_refl _) _).alloc (by simp) _).alloc (by simp; omega) _⟩

/-- What begin leaves. -/
structure Beg (w w' : World) (p1 p2 k now : Int) (c sd st rv mp st2 pb base wb wm : Nat) : Prop where
  cn : Bk w' c (conC p1 p2 k 0 false 0 0 sd rv pb (.pointer none) 0 0 wb 0 0 0 false 0 false (.slice none 0 0) false false) 68
  snd : Bk w' sd (sndC st) 129
  set : Bk w' st #[.slice none 0 0] 222
  rcv : Bk w' rv (rcvC mp st2) 132
  pth : Bk w' pb pathC 153
  wl : Wl w' base wb wm 0 (fun _ => .slice none 0 0) now []
  off : c ≠ wb ∧ c ≠ wm ∧ sd < base ∧ st < base ∧ rv < base ∧ pb < base
  low : w.heap.size ≤ sd ∧ w.heap.size ≤ st ∧ w.heap.size ≤ rv ∧ w.heap.size ≤ pb ∧ w.heap.size ≤ c ∧ w.heap.size ≤ base
  ne : sd ≠ c ∧ rv ≠ c ∧ pb ≠ c ∧ st ≠ c
  below : Below w.heap.size w w'

set_option maxRecDepth 100000 in
set_option maxHeartbeats 3200000 in
theorem begin_any (p1 p2 k tick now : Int) (w : World) (a1 : 0 ≤ p1) (a2 : p1 ≤ 65535) (b1 : 0 ≤ p2) (b2 : p2 ≤ 65535) (hn : min (max tick 0) 1099511627776 = now) : Calls Tryz.prog 26 #[.int .u64 k, .agg #[.int .i64 0, .int .i64 1, .int .i64 p1, .int .i64 p2], .int .i64 tick] w fun e w' => ∃ c sd st rv mp st2 pb base wb wm, e = .returned (.tuple #[.pointer (some ⟨c, 0, none⟩), .int .i64 0]) ∧ Beg w w' p1 p2 k now c sd st rv mp st2 pb base wb wm := by
  have RY := Keep.mk (right_yes 0 1 p1 p2 0 0 false false false false 0 (w.alloc (.cells #[.int .i64 0, .int .i64 1, .int .i64 p1, .int .i64 p2] 30)) (by omega) (by omega) (by omega) (by omega) (by omega) (by omega) (by omega) (by omega) (by omega) (by omega))
  have E0 := Keep.mk (Bk.new w #[.int .i64 0, .int .i64 1, .int .i64 p1, .int .i64 p2] 30)
  have F0 := Keep.mk (Fz.alloc w (.cells #[.int .i64 0, .int .i64 1, .int .i64 p1, .int .i64 p2] 30))
  have HN := Keep.mk hn
  clear hn a1 a2 b1 b2
  go_enter Tryz.func26, Tryz.ntmps26
  go_upto_region 4 with (first
    | (go_at_call 41
       go_loud (refine RY.out.mono ?_; rintro e w1 ⟨rfl, hb1⟩)
       have B1 := Fz.below hb1 (Nat.le_refl _)
       have F1 : Keep (Fz w w1 []) := ⟨(F0.out.trans B1).mono (by simp)⟩
       have E1 := Keep.mk (E0.out.fz B1 (by simp))
       have c0 : w1.cell? ⟨w.heap.size, 0, none⟩ = some (.int .i64 0) := E1.out.c 0
       have c1 : w1.cell? ⟨w.heap.size, 1, none⟩ = some (.int .i64 1) := E1.out.c 1
       clear hb1 B1)
    | (go_at_call 66
       go_loud (refine (pnew_01 _).mono ?_; rintro e w2 ⟨rfl, p2, hb2⟩)
       have B2 := Fz.below hb2 (Nat.le_refl _)
       have F2 : Keep (Fz w w2 []) := ⟨(F1.out.trans B2).mono (by simp)⟩
       have E2 := Keep.mk (E1.out.fz B2 (by simp))
       have LP : Keep (w.heap.size < w1.heap.size) := ⟨E1.out.lt⟩
       obtain ⟨pb, hpb⟩ : ∃ pb, w1.heap.size + 1 = pb := ⟨_, rfl⟩
       rw [hpb] at p2
       have P2 := Keep.mk p2
       have HPB := Keep.mk hpb
       clear hb2 B2 p2)
    | fail)
  -- reg begin
  refine wp_region_noPanic ?_
  refine wp_region_held_drew (S := fun X => X.cell? ⟨w.heap.size, 0, none⟩ = some (.int .i64 0) ∧ X.cell? ⟨w.heap.size, 1, none⟩ = some (.int .i64 1) ∧ X.cell? ⟨w.heap.size, 2, none⟩ = some (.int .i64 p1) ∧ X.cell? ⟨w.heap.size, 3, none⟩ = some (.int .i64 p2)) (by kernel_rfl) ⟨E2.out.c 0, E2.out.c 1, E2.out.c 2, E2.out.c 3⟩ (fun hHeld => ?_)
  refine wpAnyH_take (i := 0) (v := ?_) rfl (by kernel_rfl) (by kernel_rfl) (by kernel_rfl) (fun _ _ _ h => h) (Or.inl ⟨by rfl, ?_⟩) (by assumption) ?_
  rotate_left
  · intro w hSw; go_simp; (try with_reducible rfl)
  try simp only [Act.put, List.setIfInBounds_toArray, List.set_cons_zero, List.set_cons_succ, List.getElem_toArray, List.getElem_cons_zero, List.getElem_cons_succ]
  refine wpAnyH_take (i := 1) (v := ?_) rfl (by kernel_rfl) (by kernel_rfl) (by kernel_rfl) (fun _ _ _ h => h) (Or.inl ⟨by rfl, ?_⟩) (by assumption) ?_
  rotate_left
  · intro w hSw; go_simp; (try with_reducible rfl)
  try simp only [Act.put, List.setIfInBounds_toArray, List.set_cons_zero, List.set_cons_succ, List.getElem_toArray, List.getElem_cons_zero, List.getElem_cons_succ]
  refine wpAnyH_take (i := 4) (v := ?_) rfl (by kernel_rfl) (by kernel_rfl) (by kernel_rfl) (fun _ _ _ h => h) (Or.inl ⟨by rfl, ?_⟩) (by assumption) ?_
  rotate_left
  · intro w hSw; go_simp; (try with_reducible rfl)
  try simp only [Act.put, List.setIfInBounds_toArray, List.set_cons_zero, List.set_cons_succ, List.getElem_toArray, List.getElem_cons_zero, List.getElem_cons_succ]
  refine wpAnyH_take (i := 5) (v := ?_) rfl (by kernel_rfl) (by kernel_rfl) (by kernel_rfl) (fun _ _ _ h => h) (Or.inl ⟨by rfl, ?_⟩) (by assumption) ?_
  rotate_left
  · intro w hSw; go_simp; (try with_reducible rfl)
  try simp only [Act.put, List.setIfInBounds_toArray, List.set_cons_zero, List.set_cons_succ, List.getElem_toArray, List.getElem_cons_zero, List.getElem_cons_succ]
  refine wpAnyH_ready (rs := [2]) (by kernel_rfl) (by simp) ?_
  refine AllReadyH.cons rfl (fun K hK => ?_) AllReadyH.nil
  go_simp
  refine (dsnew_l _).mono ?_
  rintro e w3 ⟨st, sd, rfl, l1, l2, hss, s3, t3, hb3⟩
  have B3 := (Fz.drew w2 1).trans (Fz.below hb3 (Nat.le_refl _))
  have E3 := Keep.mk (E2.out.fz B3 (by simp))
  have P3 := Keep.mk (P2.out.fz B3 (by simp))
  have F3 : Keep (Fz w w3 []) := ⟨(F2.out.trans B3).mono (by simp)⟩
  have L1 : Keep (w2.heap.size ≤ st ∧ w2.heap.size ≤ sd) := ⟨l1, l2⟩
  have S3 := Keep.mk s3
  have T3 := Keep.mk t3
  clear l1 l2 hss s3 t3 hb3 B3
  refine hK.out _ _ ?_ (fun hHeld => ?_)
  · first | exact ⟨E2.out.c 0, E2.out.c 1, E2.out.c 2, E2.out.c 3⟩ | exact ⟨E3.out.c 0, E3.out.c 1, E3.out.c 2, E3.out.c 3⟩ | exact ⟨E4.out.c 0, E4.out.c 1, E4.out.c 2, E4.out.c 3⟩ | exact ⟨E5.out.c 0, E5.out.c 1, E5.out.c 2, E5.out.c 3⟩ | exact ⟨(E5.out.fz (Fz.alloc w5 (.cells (conC p1 p2 k 0 false 0 0 sd rv pb (.pointer none) 0 0 (w4.heap.size + 1) 0 0 0 false 0 false (.slice none 0 0) false false) 68)) (by simp)).c 0, (E5.out.fz (Fz.alloc w5 (.cells (conC p1 p2 k 0 false 0 0 sd rv pb (.pointer none) 0 0 (w4.heap.size + 1) 0 0 0 false 0 false (.slice none 0 0) false false) 68)) (by simp)).c 1, (E5.out.fz (Fz.alloc w5 (.cells (conC p1 p2 k 0 false 0 0 sd rv pb (.pointer none) 0 0 (w4.heap.size + 1) 0 0 0 false 0 false (.slice none 0 0) false false) 68)) (by simp)).c 2, (E5.out.fz (Fz.alloc w5 (.cells (conC p1 p2 k 0 false 0 0 sd rv pb (.pointer none) 0 0 (w4.heap.size + 1) 0 0 0 false 0 false (.slice none 0 0) false false) 68)) (by simp)).c 3⟩
  clear hK K
  try simp only [Act.put, List.setIfInBounds_toArray, List.set_cons_zero, List.set_cons_succ, List.getElem_toArray, List.getElem_cons_zero, List.getElem_cons_succ]
  refine wpAnyH_ready (rs := [3]) (by kernel_rfl) (by simp) ?_
  refine AllReadyH.cons rfl (fun K hK => ?_) AllReadyH.nil
  go_simp
  refine (drnew_l _).mono ?_
  rintro e w4 ⟨mp, st2, rv, rfl, l3, r4, hb4⟩
  have B4 := Fz.below hb4 (Nat.le_refl _)
  have E4 := Keep.mk (E3.out.fz B4 (by simp))
  have P4 := Keep.mk (P3.out.fz B4 (by simp))
  have S4 := Keep.mk (S3.out.fz B4 (by simp))
  have T4 := Keep.mk (T3.out.fz B4 (by simp))
  have F4 : Keep (Fz w w4 []) := ⟨(F3.out.trans B4).mono (by simp)⟩
  have L2 : Keep (w3.heap.size ≤ rv) := ⟨l3⟩
  have R4 := Keep.mk r4
  clear l3 r4 hb4 B4
  refine hK.out _ _ ?_ (fun hHeld => ?_)
  · first | exact ⟨E2.out.c 0, E2.out.c 1, E2.out.c 2, E2.out.c 3⟩ | exact ⟨E3.out.c 0, E3.out.c 1, E3.out.c 2, E3.out.c 3⟩ | exact ⟨E4.out.c 0, E4.out.c 1, E4.out.c 2, E4.out.c 3⟩ | exact ⟨E5.out.c 0, E5.out.c 1, E5.out.c 2, E5.out.c 3⟩ | exact ⟨(E5.out.fz (Fz.alloc w5 (.cells (conC p1 p2 k 0 false 0 0 sd rv pb (.pointer none) 0 0 (w4.heap.size + 1) 0 0 0 false 0 false (.slice none 0 0) false false) 68)) (by simp)).c 0, (E5.out.fz (Fz.alloc w5 (.cells (conC p1 p2 k 0 false 0 0 sd rv pb (.pointer none) 0 0 (w4.heap.size + 1) 0 0 0 false 0 false (.slice none 0 0) false false) 68)) (by simp)).c 1, (E5.out.fz (Fz.alloc w5 (.cells (conC p1 p2 k 0 false 0 0 sd rv pb (.pointer none) 0 0 (w4.heap.size + 1) 0 0 0 false 0 false (.slice none 0 0) false false) 68)) (by simp)).c 2, (E5.out.fz (Fz.alloc w5 (.cells (conC p1 p2 k 0 false 0 0 sd rv pb (.pointer none) 0 0 (w4.heap.size + 1) 0 0 0 false 0 false (.slice none 0 0) false false) 68)) (by simp)).c 3⟩
  clear hK K
  try simp only [Act.put, List.setIfInBounds_toArray, List.set_cons_zero, List.set_cons_succ, List.getElem_toArray, List.getElem_cons_zero, List.getElem_cons_succ]
  refine wpAnyH_ready (rs := [6]) (by kernel_rfl) (by simp) ?_
  refine AllReadyH.cons rfl (fun K hK => ?_) AllReadyH.nil
  go_simp
  refine (new_wl tick w4).mono ?_
  rintro e w5 ⟨rfl, wl5, hb5⟩
  rw [HN.out] at wl5
  have B5 := Fz.below hb5 (Nat.le_refl _)
  have E5 := Keep.mk (E4.out.fz B5 (by simp))
  have P5 := Keep.mk (P4.out.fz B5 (by simp))
  have S5 := Keep.mk (S4.out.fz B5 (by simp))
  have T5 := Keep.mk (T4.out.fz B5 (by simp))
  have R5 := Keep.mk (R4.out.fz B5 (by simp))
  have F5 : Keep (Fz w w5 []) := ⟨(F4.out.trans B5).mono (by simp)⟩
  have W5 := Keep.mk wl5
  have LB : Keep (w4.heap.size + 1 < w5.heap.size) := ⟨wl5.lt (.inl rfl)⟩
  clear hb5 B5 wl5
  refine hK.out _ _ ?_ (fun hHeld => ?_)
  · first | exact ⟨E2.out.c 0, E2.out.c 1, E2.out.c 2, E2.out.c 3⟩ | exact ⟨E3.out.c 0, E3.out.c 1, E3.out.c 2, E3.out.c 3⟩ | exact ⟨E4.out.c 0, E4.out.c 1, E4.out.c 2, E4.out.c 3⟩ | exact ⟨E5.out.c 0, E5.out.c 1, E5.out.c 2, E5.out.c 3⟩ | exact ⟨(E5.out.fz (Fz.alloc w5 (.cells (conC p1 p2 k 0 false 0 0 sd rv pb (.pointer none) 0 0 (w4.heap.size + 1) 0 0 0 false 0 false (.slice none 0 0) false false) 68)) (by simp)).c 0, (E5.out.fz (Fz.alloc w5 (.cells (conC p1 p2 k 0 false 0 0 sd rv pb (.pointer none) 0 0 (w4.heap.size + 1) 0 0 0 false 0 false (.slice none 0 0) false false) 68)) (by simp)).c 1, (E5.out.fz (Fz.alloc w5 (.cells (conC p1 p2 k 0 false 0 0 sd rv pb (.pointer none) 0 0 (w4.heap.size + 1) 0 0 0 false 0 false (.slice none 0 0) false false) 68)) (by simp)).c 2, (E5.out.fz (Fz.alloc w5 (.cells (conC p1 p2 k 0 false 0 0 sd rv pb (.pointer none) 0 0 (w4.heap.size + 1) 0 0 0 false 0 false (.slice none 0 0) false false) 68)) (by simp)).c 3⟩
  clear hK K
  try simp only [Act.put, List.setIfInBounds_toArray, List.set_cons_zero, List.set_cons_succ, List.getElem_toArray, List.getElem_cons_zero, List.getElem_cons_succ]
  refine wpAnyH_take (i := 7) (v := ?_) rfl (by kernel_rfl) (by kernel_rfl) (by kernel_rfl) (fun _ _ _ h => h) (Or.inl ⟨by rfl, ?_⟩) (by assumption) ?_
  rotate_left
  · intro w hSw; go_simp; (try with_reducible rfl)
  try simp only [Act.put, List.setIfInBounds_toArray, List.set_cons_zero, List.set_cons_succ, List.getElem_toArray, List.getElem_cons_zero, List.getElem_cons_succ]
  refine wpAnyH_ready (rs := [8]) (by kernel_rfl) (by simp) ?_
  refine AllReadyH.cons rfl (fun K hK => ?_) AllReadyH.nil
  go_simp
  refine hK.out _ _ ?_ (fun hHeld => ?_)
  · first | exact ⟨E2.out.c 0, E2.out.c 1, E2.out.c 2, E2.out.c 3⟩ | exact ⟨E3.out.c 0, E3.out.c 1, E3.out.c 2, E3.out.c 3⟩ | exact ⟨E4.out.c 0, E4.out.c 1, E4.out.c 2, E4.out.c 3⟩ | exact ⟨E5.out.c 0, E5.out.c 1, E5.out.c 2, E5.out.c 3⟩ | exact ⟨(E5.out.fz (Fz.alloc w5 (.cells (conC p1 p2 k 0 false 0 0 sd rv pb (.pointer none) 0 0 (w4.heap.size + 1) 0 0 0 false 0 false (.slice none 0 0) false false) 68)) (by simp)).c 0, (E5.out.fz (Fz.alloc w5 (.cells (conC p1 p2 k 0 false 0 0 sd rv pb (.pointer none) 0 0 (w4.heap.size + 1) 0 0 0 false 0 false (.slice none 0 0) false false) 68)) (by simp)).c 1, (E5.out.fz (Fz.alloc w5 (.cells (conC p1 p2 k 0 false 0 0 sd rv pb (.pointer none) 0 0 (w4.heap.size + 1) 0 0 0 false 0 false (.slice none 0 0) false false) 68)) (by simp)).c 2, (E5.out.fz (Fz.alloc w5 (.cells (conC p1 p2 k 0 false 0 0 sd rv pb (.pointer none) 0 0 (w4.heap.size + 1) 0 0 0 false 0 false (.slice none 0 0) false false) 68)) (by simp)).c 3⟩
  clear hK K
  try simp only [Act.put, List.setIfInBounds_toArray, List.set_cons_zero, List.set_cons_succ, List.getElem_toArray, List.getElem_cons_zero, List.getElem_cons_succ]
  refine wpAnyH_take (i := 9) (v := ?_) rfl (by kernel_rfl) (by kernel_rfl) (by kernel_rfl) (fun _ _ _ h => h) (Or.inl ⟨by rfl, ?_⟩) (by assumption) ?_
  rotate_left
  · intro w hSw; go_simp; (try with_reducible rfl)
  try simp only [Act.put, List.setIfInBounds_toArray, List.set_cons_zero, List.set_cons_succ, List.getElem_toArray, List.getElem_cons_zero, List.getElem_cons_succ]
  refine wpAnyH_take (i := 10) (v := ?_) rfl (by kernel_rfl) (by kernel_rfl) (by kernel_rfl) (fun _ _ _ h => h) (Or.inl ⟨by rfl, ?_⟩) (by assumption) ?_
  rotate_left
  · intro w hSw; go_simp; (try with_reducible rfl)
  try simp only [Act.put, List.setIfInBounds_toArray, List.set_cons_zero, List.set_cons_succ, List.getElem_toArray, List.getElem_cons_zero, List.getElem_cons_succ]
  refine wpAnyH_done (by kernel_rfl) ?_ _
  refine NoPanic.normal ?_
  go_wp2_with fail
  have A6 := Fz.alloc w5 (.cells (conC p1 p2 k 0 false 0 0 sd rv pb (.pointer none) 0 0 (w4.heap.size + 1) 0 0 0 false 0 false (.slice none 0 0) false false) 68)
  have z1 := P4.out.lt
  have z2 := S4.out.lt
  have z3 := T4.out.lt
  have z4 := R4.out.lt
  have z5 := LB.out
  have y1 := L1.out.1
  have y2 := L1.out.2
  have y3 := L2.out
  have y4 := HPB.out
  have y5 := LP.out
  have y6 := F3.out.size
  have y7 := F2.out.size
  have y8 := F4.out.size
  refine bodyPost_ret (results_tmp2 rfl _ _ _) rfl ⟨w5.heap.size, sd, st, rv, mp, st2, pb, w4.heap.size, w4.heap.size + 1, w4.heap.size, rfl, ⟨Bk.new w5 _ _, S5.out.fz A6 (by simp), T5.out.fz A6 (by simp), R5.out.fz A6 (by simp), P5.out.fz A6 (by simp), W5.out.below ((Below.refl _ w5).alloc (Nat.le_refl _) _), ⟨by omega, by omega, by omega, by omega, by omega, by omega⟩, ⟨by omega, by omega, by omega, by omega, by omega, by omega⟩, ⟨by omega, by omega, by omega, by omega⟩, (F5.out.trans A6).toBelow (Nat.le_refl _) (by simp)⟩⟩
  -- end reg
end Go.Proofs.YtcjanieeepcddaaGreatDoor
/-
  A connection's fresh numbers; its legs: over, put.
-/
namespace Go.Proofs.YtcjanieeepcddaaGreatDoor
open Go.RowKit

theorem xr_bd (a b : Int) : 0 ≤ bits .xor .u64 a b ∧ bits .xor .u64 a b < 18446744073709551616 := by
  show 0 ≤ IntKind.u64.wrap _ ∧ IntKind.u64.wrap _ < _
  rw [IntKind.wrap_u64]
  omega
set_option maxRecDepth 100000 in
set_option maxHeartbeats 1600000 in
theorem fresh_any (c : Nat) (k : Int) (arr : Array Value) (w : World) (h : Bk w c arr 68) (h0 : arr[0]? = some (.int .u64 k)) (h23 : arr[23]? = some (.int .u64 0)) :
    Calls Tryz.prog 29 #[.pointer (some ⟨c, 0, none⟩)] w fun e w' => ∃ s, e = .returned (.int .u32 s) ∧ Bk w' c (arr.setIfInBounds 23 (.int .u64 1)) 68 ∧ Fz w w' [c] := by
  have c23 : w.cell? ⟨c, 23, none⟩ = some (.int .u64 0) := (h.c 23).trans h23
  have f23 := h.free 23
  have B1 := h.set 23 (.int .u64 1)
  have E1 := Fz.set w c 23 (.int .u64 1)
  have hlt : 23 < arr.size := (Array.getElem?_eq_some_iff.1 h23).1
  have d0 : (w.setCell ⟨c, 23, none⟩ (.int .u64 1)).drew.cell? ⟨c, 0, none⟩ = some (.int .u64 k) := (B1.c 0).trans (by rw [Array.getElem?_setIfInBounds_ne (by omega)]; exact h0)
  have d23 : (w.setCell ⟨c, 23, none⟩ (.int .u64 1)).drew.cell? ⟨c, 23, none⟩ = some (.int .u64 1) := (B1.c 23).trans (by rw [Array.getElem?_setIfInBounds_self, if_pos hlt])
  have HA0 : Keep ((arr.setIfInBounds 23 (.int .u64 1))[0]? = some (.int .u64 k)) := ⟨by rw [Array.getElem?_setIfInBounds_ne (by omega)]; exact h0⟩
  have HA23 : Keep ((arr.setIfInBounds 23 (.int .u64 1))[23]? = some (.int .u64 1)) := ⟨by rw [Array.getElem?_setIfInBounds_self, if_pos hlt]⟩
  have KB := Keep.mk B1
  have KE := Keep.mk E1
  clear h h0 h23 B1 E1 hlt
  go_enter Tryz.func29, Tryz.ntmps29
  go_wp2_with fail
  -- reg fresh
  refine wp_region_noPanic ?_
  refine wp_region_held_drew (S := fun X => X.cell? ⟨c, 0, none⟩ = some (.int .u64 k) ∧ X.cell? ⟨c, 23, none⟩ = some (.int .u64 1)) (by kernel_rfl) ⟨d0, d23⟩ (fun hHeld => ?_)
  refine wpAnyH_take (i := 0) (v := ?_) rfl (by kernel_rfl) (by kernel_rfl) (by kernel_rfl) (fun _ _ _ h => h) (Or.inl ⟨by rfl, ?_⟩) (by assumption) ?_
  rotate_left
  · intro w hSw; go_simp; (try with_reducible rfl)
  try simp only [Act.put, List.setIfInBounds_toArray, List.set_cons_zero, List.set_cons_succ, List.getElem_toArray, List.getElem_cons_zero, List.getElem_cons_succ]
  refine wpAnyH_take (i := 1) (v := ?_) rfl (by kernel_rfl) (by kernel_rfl) (by kernel_rfl) (fun _ _ _ h => h) (Or.inl ⟨by rfl, ?_⟩) (by assumption) ?_
  rotate_left
  · intro w hSw; go_simp; (try with_reducible rfl)
  try simp only [Act.put, List.setIfInBounds_toArray, List.set_cons_zero, List.set_cons_succ, List.getElem_toArray, List.getElem_cons_zero, List.getElem_cons_succ]
  refine wpAnyH_take (i := 2) (v := ?_) rfl (by kernel_rfl) (by kernel_rfl) (by kernel_rfl) (fun _ _ _ h => h) (Or.inl ⟨by rfl, ?_⟩) (by assumption) ?_
  rotate_left
  · intro w hSw; go_simp; (try with_reducible rfl)
  try simp only [Act.put, List.setIfInBounds_toArray, List.set_cons_zero, List.set_cons_succ, List.getElem_toArray, List.getElem_cons_zero, List.getElem_cons_succ]
  refine wpAnyH_take (i := 3) (v := ?_) rfl (by kernel_rfl) (by kernel_rfl) (by kernel_rfl) (fun _ _ _ h => h) (Or.inl ⟨by rfl, ?_⟩) (by assumption) ?_
  rotate_left
  · intro w hSw; go_simp; (try with_reducible rfl)
  try simp only [Act.put, List.setIfInBounds_toArray, List.set_cons_zero, List.set_cons_succ, List.getElem_toArray, List.getElem_cons_zero, List.getElem_cons_succ]
  refine wpAnyH_take (i := 4) (v := ?_) rfl (by kernel_rfl) (by kernel_rfl) (by kernel_rfl) (fun _ _ _ h => h) (Or.inl ⟨by rfl, ?_⟩) (by assumption) ?_
  rotate_left
  · intro w hSw; go_simp; (try with_reducible rfl)
  try simp only [Act.put, List.setIfInBounds_toArray, List.set_cons_zero, List.set_cons_succ, List.getElem_toArray, List.getElem_cons_zero, List.getElem_cons_succ]
  refine wpAnyH_take (i := 5) (v := ?_) rfl (by kernel_rfl) (by kernel_rfl) (by kernel_rfl) (fun _ _ _ h => h) (Or.inl ⟨by rfl, ?_⟩) (by assumption) ?_
  rotate_left
  · intro w hSw; go_simp; (try with_reducible rfl)
  try simp only [Act.put, List.setIfInBounds_toArray, List.set_cons_zero, List.set_cons_succ, List.getElem_toArray, List.getElem_cons_zero, List.getElem_cons_succ]
  refine wpAnyH_take (i := 6) (v := ?_) rfl (by kernel_rfl) (by kernel_rfl) (by kernel_rfl) (fun _ _ _ h => h) (Or.inl ⟨by rfl, ?_⟩) (by assumption) ?_
  rotate_left
  · intro w hSw; go_simp; (try with_reducible rfl)
  try simp only [Act.put, List.setIfInBounds_toArray, List.set_cons_zero, List.set_cons_succ, List.getElem_toArray, List.getElem_cons_zero, List.getElem_cons_succ]
  refine wpAnyH_take (i := 7) (v := ?_) rfl (by kernel_rfl) (by kernel_rfl) (by kernel_rfl) (fun _ _ _ h => h) (Or.inl ⟨by rfl, ?_⟩) (by assumption) ?_
  rotate_left
  · intro w hSw; go_simp; (try with_reducible rfl)
  try simp only [Act.put, List.setIfInBounds_toArray, List.set_cons_zero, List.set_cons_succ, List.getElem_toArray, List.getElem_cons_zero, List.getElem_cons_succ]
  refine wpAnyH_take (i := 8) (v := ?_) rfl (by kernel_rfl) (by kernel_rfl) (by kernel_rfl) (fun _ _ _ h => h) (Or.inl ⟨by rfl, ?_⟩) (by assumption) ?_
  rotate_left
  · intro w hSw; go_simp; (try with_reducible rfl)
  try simp only [Act.put, List.setIfInBounds_toArray, List.set_cons_zero, List.set_cons_succ, List.getElem_toArray, List.getElem_cons_zero, List.getElem_cons_succ]
  refine wpAnyH_take (i := 9) (v := ?_) rfl (by kernel_rfl) (by kernel_rfl) (by kernel_rfl) (fun _ _ _ h => h) (Or.inl ⟨by rfl, ?_⟩) (by assumption) ?_
  rotate_left
  · intro w hSw; go_simp; (try with_reducible rfl)
  try simp only [Act.put, List.setIfInBounds_toArray, List.set_cons_zero, List.set_cons_succ, List.getElem_toArray, List.getElem_cons_zero, List.getElem_cons_succ]
  refine wpAnyH_ready (rs := [10]) (by kernel_rfl) (by simp) ?_
  refine AllReadyH.cons rfl (fun K hK => ?_) AllReadyH.nil
  go_simp
  refine (token_any _ _ (xr_bd _ _).1 (xr_bd _ _).2).mono ?_
  rintro e w2 ⟨rfl, hb2⟩
  generalize tokN (bits BinOp.xor IntKind.u64 k (IntKind.u64.wrap 4294967296)) = s
  have B2 := (Fz.drew _ 1).trans (Fz.below hb2 (Nat.le_refl _))
  have KB2 := Keep.mk (KB.out.fz B2 (by simp))
  have F2 : Keep (Fz w w2 [c]) := ⟨(KE.out.trans B2).mono (by simp)⟩
  have d0b : w2.cell? ⟨c, 0, none⟩ = some (.int .u64 k) := (KB2.out.c 0).trans HA0.out
  have d23b : w2.cell? ⟨c, 23, none⟩ = some (.int .u64 1) := (KB2.out.c 23).trans HA23.out
  clear hb2 B2
  refine hK.out _ _ ?_ (fun hHeld => ?_)
  · exact ⟨d0b, d23b⟩
  clear hK K
  try simp only [Act.put, List.setIfInBounds_toArray, List.set_cons_zero, List.set_cons_succ, List.getElem_toArray, List.getElem_cons_zero, List.getElem_cons_succ]
  refine wpAnyH_take (i := 11) (v := ?_) rfl (by kernel_rfl) (by kernel_rfl) (by kernel_rfl) (fun _ _ _ h => h) (Or.inl ⟨by rfl, ?_⟩) (by assumption) ?_
  rotate_left
  · intro w hSw; go_simp; (try with_reducible rfl)
  try simp only [Act.put, List.setIfInBounds_toArray, List.set_cons_zero, List.set_cons_succ, List.getElem_toArray, List.getElem_cons_zero, List.getElem_cons_succ]
  refine wpAnyH_done (by kernel_rfl) ?_ _
  refine NoPanic.normal ?_
  go_wp2_with fail
  go_ret
  exact ⟨s, rfl, KB2.out, F2.out⟩
  -- end reg
set_option maxRecDepth 100000 in
theorem over_nil (w : World) : Calls Tryz.prog 38 #[.pointer none] w fun e w' => e = .returned (.bool true) ∧ w' = w := by
  go_enter Tryz.func38, Tryz.ntmps38
  go_wp2_with fail
  go_ret
  exact ⟨rfl, rfl⟩
set_option maxRecDepth 100000 in
theorem fstate_any (f q : Nat) (times state rcv tries at_ : Int) (has : Bool) (since : Int) (twice : Bool) (out : Value) (w : World) (h : Bk w f (flC q times state rcv tries at_ has since twice out) 105) :
    Calls Tryz.prog 51 #[.pointer (some ⟨f, 0, none⟩)] w fun e w' => e = .returned (.int .i64 state) ∧ w' = w := by
  have c5 : w.cell? ⟨f, 5, none⟩ = some (.int .i64 state) := h.c 5
  clear h
  go_enter Tryz.func51, Tryz.ntmps51
  go_wp2_with fail
  go_ret
  exact ⟨rfl, rfl⟩
/-- A leg that was dialed. -/
abbrev legC (f : Nat) : Array Value := #[.pointer (some ⟨f, 0, none⟩), .int .i64 0, .int .i64 1, .bool true, .bool false, .bool false, .int .u32 0, .int .u32 0, .int .u64 0]
set_option maxRecDepth 100000 in
theorem over_any (l f q : Nat) (times state rcv tries at_ : Int) (has : Bool) (since : Int) (twice : Bool) (out : Value) (w : World) (hl : Bk w l (legC f) 61) (h : Bk w f (flC q times state rcv tries at_ has since twice out) 105) :
    Calls Tryz.prog 38 #[.pointer (some ⟨l, 0, none⟩)] w fun e w' => e = .returned (.bool (decide (10 ≤ state))) ∧ w' = w := by
  have c0 : w.cell? ⟨l, 0, none⟩ = some (.pointer (some ⟨f, 0, none⟩)) := hl.c 0
  have FS := Keep.mk (fstate_any f q times state rcv tries at_ has since twice out w h)
  clear hl h
  go_enter Tryz.func38, Tryz.ntmps38
  go_wp2_with (first
    | (go_at_call 51
       go_loud (refine FS.out.mono ?_; rintro e X ⟨rfl, hX⟩)
       rw [hX]
       clear hX)
    | fail)
  go_ret
  exact ⟨by first | rfl | simp, rfl⟩
theorem infoLegP : (Tryz.prog.info? 56).map (fun i => (i.zero, i.size, i.bytes)) = some (some (.pointer none), 1, 8) := by kernel_rfl
theorem index_leg (cs : Array Value) (i : Nat) (v : Value) (h : cs[i]? = some v) (hi : i < 8) (W : World) :
    (Instr.index 65 (.agg cs) (.int .i64 (i : Int))).run Tryz.prog W = .ok v W := by
  obtain ⟨i0, h0, _, h1, _⟩ := info_parts infoLegP
  simp [Instr.index, run_underlying Tryz.underlying65, asIntOf, hi, sizeOf, typeInfo, part, go_sem, h0, h1, h]
set_option maxRecDepth 100000 in
set_option maxHeartbeats 1600000 in
theorem put_first (c l : Nat) (arr : Array Value) (w : World) (h : Bk w c arr 68) (hs : arr.size = 32) (h0 : ∀ i, i < 8 → arr[12 + i]? = some (.pointer none)) :
    Calls Tryz.prog 27 #[.pointer (some ⟨c, 0, none⟩), .pointer (some ⟨l, 0, none⟩)] w fun e w' => e = .returned (.bool true) ∧ Bk w' c (arr.setIfInBounds 12 (.pointer (some ⟨l, 0, none⟩))) 68 ∧ Fz w w' [c] := by
  have l0 : w.cell? ⟨c, 12, none⟩ = some (.pointer none) := (h.c 12).trans (h0 0 (by omega))
  have l1 : w.cell? ⟨c, 13, none⟩ = some (.pointer none) := (h.c 13).trans (h0 1 (by omega))
  have l2 : w.cell? ⟨c, 14, none⟩ = some (.pointer none) := (h.c 14).trans (h0 2 (by omega))
  have l3 : w.cell? ⟨c, 15, none⟩ = some (.pointer none) := (h.c 15).trans (h0 3 (by omega))
  have l4 : w.cell? ⟨c, 16, none⟩ = some (.pointer none) := (h.c 16).trans (h0 4 (by omega))
  have l5 : w.cell? ⟨c, 17, none⟩ = some (.pointer none) := (h.c 17).trans (h0 5 (by omega))
  have l6 : w.cell? ⟨c, 18, none⟩ = some (.pointer none) := (h.c 18).trans (h0 6 (by omega))
  have l7 : w.cell? ⟨c, 19, none⟩ = some (.pointer none) := (h.c 19).trans (h0 7 (by omega))
  have f12 := h.free 12
  have HB := Keep.mk h
  clear h h0
  go_enter Tryz.func27, Tryz.ntmps27
  go_wp2_with fail
  go_loopw [11] (fun i wr => i = .int .i64 0 ∧ wr = w) (fun _ _ => 0)
  case atStart => exact ⟨rfl, rfl⟩
  case round =>
    obtain ⟨rfl, rfl⟩ := hrel
    have ix := index_leg #[.pointer none, .pointer none, .pointer none, .pointer none, .pointer none, .pointer none, .pointer none, .pointer none] 0 (.pointer none) rfl (by omega) wr
    rw [show ((0 : Nat) : Int) = 0 from rfl] at ix
    go_wp2_with (first
      | (go_at_call 38
         go_loud (refine (over_nil _).mono ?_; rintro e X ⟨rfl, hX⟩)
         rw [hX]
         clear hX)
      | fail)
    go_ret
    exact ⟨rfl, HB.out.set 12 _, Fz.set _ c 12 _⟩
end Go.Proofs.YtcjanieeepcddaaGreatDoor
