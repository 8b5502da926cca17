/-
  The reference's Take: a full table.
-/
import Derived.Test.YtdmmcgcglkblhaaDoorRtD
import Derived.Laws.Rows
namespace Go.Proofs.YtdmmcgcglkblhaaDoor
open Go.RowKit Go.Maps

set_option maxRecDepth 100000 in
set_option maxHeartbeats 1600000 in
theorem rttake_full (base rb : Nat) (v : Value) (most o : Int) (L : List Te) (kv : Value) (w : World) (hR : Rt w base rb v most L) (hm : (L.length : Int) = most) :
    Calls Tryd.prog 17 #[.pointer (some ⟨rb, 0, none⟩), .int .i64 o, kv] w fun e w' => e = .returned (.agg #[.int .u64 0, .int .i64 0, .int .i64 15]) ∧ Below w.heap.size w w' := by
  have hB : Below w.heap.size w (w.alloc (.cells #[.int .u64 0, .int .i64 0, .int .i64 0] 51)) := (Below.refl _ w).alloc (Nat.le_refl _) _
  have hRW := hR.below hB
  obtain ⟨A, c, rfl, -⟩ := own_slice hRW.own
  have cl : (w.alloc (.cells #[.int .u64 0, .int .i64 0, .int .i64 0] 51)).drew.cell? ⟨rb, 1, none⟩ = some (.slice A L.length c) := hRW.listC
  have cm : (w.alloc (.cells #[.int .u64 0, .int .i64 0, .int .i64 0] 51)).drew.cell? ⟨rb, 0, none⟩ = some (.int .i64 most) := hRW.mostC
  have hb : ((L.length : Int) == most) = true := by simp [hm]
  have HB := Keep.mk hB
  clear hR hRW hB hm
  go_enter Tryd.func17, Tryd.ntmps17
  go_wp2_with fail
  go_region_held3 (fun X => X.cell? ⟨rb, 1, none⟩ = some (.slice A L.length c) ∧ X.cell? ⟨rb, 0, none⟩ = some (.int .i64 most)) (exact ⟨cl, cm⟩) (fail)
  go_wp2_with fail
  refine bodyPost_ret (v := .agg #[.int .u64 0, .int .i64 0, .int .i64 15]) (results_cell_row Tryd.results17 _ _ w.heap.size 51 _ (0, 0) _ rfl (heap_alloc_new _ _) Tryd.underlying51 rfl (by kernel_rfl)) rfl ⟨rfl, ?_⟩
  exact ((Below.refl _ w).alloc (Nat.le_refl _) _).drew
end Go.Proofs.YtdmmcgcglkblhaaDoor
