/-
  The reference's New and Arm.
-/
import Derived.Test.YtmjmiadogniopaaRfA
namespace Go.Proofs.Ytmjmiadogniopaa
open Go.RowKit

theorem rf_new (now : Int) (w : World) : Rf (w.alloc (.cells #[.int .i64 now, .slice none 0 0] 49)) w.heap.size w.heap.size (.slice none 0 0) now [] where
  low := Nat.le_refl _
  blk := heap_alloc_new _ _
  own := World.ownsRow_nil _ _ _ _
  ne := by simp [Value.ownBlock]

set_option maxHeartbeats 1600000 in
theorem rnew_any (tick : Int) (w : World) :
    Calls Try.prog 15 #[.int .i64 tick] w fun e w' => e = .returned (.pointer (some ⟨w.heap.size, 0, none⟩)) ∧
      Rf w' w.heap.size w.heap.size (.slice none 0 0) (min (max tick 0) 1099511627776) [] ∧ Below w.heap.size w w' := by
  obtain ⟨now, hnow⟩ : ∃ now, min (max tick 0) 1099511627776 = now := ⟨_, rfl⟩
  have HE := Keep.mk (rf_new now w)
  have HB : Keep (Below w.heap.size w (w.alloc (.cells #[.int .i64 now, .slice none 0 0] 49))) := ⟨(Below.refl _ w).alloc (Nat.le_refl _) _⟩
  have HN := Keep.mk hnow
  rw [hnow]
  clear hnow
  rcases Int.lt_or_le tick 0 with h1 | h1
  · obtain rfl : now = 0 := by have := HN.out; omega
    go_enter Try.func15, Try.ntmps15
    go_wp2_with fail
    all_goals go_ret
    exact ⟨rfl, HE.out, HB.out⟩
  · rcases Int.lt_or_le 1099511627776 tick with h2 | h2
    · obtain rfl : now = 1099511627776 := by have := HN.out; omega
      go_enter Try.func15, Try.ntmps15
      go_wp2_with fail
      all_goals go_ret
      exact ⟨rfl, HE.out, HB.out⟩
    · obtain rfl : now = tick := by have := HN.out; omega
      go_enter Try.func15, Try.ntmps15
      go_wp2_with fail
      all_goals go_ret
      exact ⟨rfl, HE.out, HB.out⟩

set_option maxHeartbeats 1600000 in
theorem rarm_no (base rb : Nat) (v : Value) (n : Int) (L : List Due) (h t : Int) (w : World) (hR : Rf w base rb v n L) (hn : 0 ≤ n) (hn2 : n < 2305843009213693952) (ht : t ≤ n ∨ n + 4096 < t) :
    Calls Try.prog 17 #[.pointer (some ⟨rb, 0, none⟩), .int .i64 h, .int .i64 t] w fun e w' => e = .returned (.int .i64 1) ∧ w' = w := by
  have c0 := hR.tickC
  have hw : IntKind.i64.wrap (n + 4096) = n + 4096 := IntWalk.i64_in _ (by omega)
  clear hR
  by_cases h1 : t ≤ n
  · clear ht
    go_enter Try.func17, Try.ntmps17
    go_wp2_with fail
    all_goals go_ret
    exact ⟨rfl, rfl⟩
  · have h2 : n + 4096 < t := by omega
    clear ht
    go_enter Try.func17, Try.ntmps17
    go_wp2_with fail
    all_goals go_ret
    exact ⟨rfl, rfl⟩

set_option maxRecDepth 100000 in
set_option maxHeartbeats 1600000 in
theorem rarm_yes (base rb : Nat) (v : Value) (n : Int) (L : List Due) (h t : Int) (w : World) (hR : Rf w base rb v n L) (hbase : base ≤ w.heap.size) (hL : L.length ≤ 10000) (hn : 0 ≤ n) (hn2 : n < 2305843009213693952) (h1 : n < t) (h2 : t ≤ n + 4096) :
    Calls Try.prog 17 #[.pointer (some ⟨rb, 0, none⟩), .int .i64 h, .int .i64 t] w fun e w' => e = .returned (.int .i64 0) ∧ ∃ v', Rf w' base rb v' n (dropH h L ++ [(h, t)]) ∧ Fg w w' rb v v' := by
  have c0 := hR.tickC
  have hw : IntKind.i64.wrap (n + 4096) = n + 4096 := IntWalk.i64_in _ (by omega)
  have HC := Keep.mk (rcancel_any base rb v n L h w hR hbase (by omega))
  have HLT := Keep.mk hR.lt
  have HK : Keep ((dropH h L).length ≤ 1000000) := ⟨by have := List.length_filter_le (fun d : Due => decide (d.1 ≠ h)) L; unfold dropH; omega⟩
  have h3 : ¬ t ≤ n := by omega
  have h4 : ¬ n + 4096 < t := by omega
  clear hR
  obtain ⟨bo, hbo⟩ : ∃ bo : Bool, (tk L h).isSome = bo := ⟨_, rfl⟩
  rw [hbo] at HC
  clear hbo
  go_enter Try.func17, Try.ntmps17
  go_wp2_with (first
    | (go_at_call 18
       go_loud (refine HC.out.mono ?_; rintro e w2 ⟨rfl, v2, h2R, f2, n2⟩)
       obtain ⟨A2, c2, rfl, -⟩ := own_slice h2R.own
       have cc2 := h2R.listC
       have H2 := Keep.mk h2R
       have F2 := Keep.mk f2
       have N2 := Keep.mk n2
       clear h2R f2 n2)
    | (refine wpList_append_ref rfl (.tmp 29) (.tmp 33) 47 rfl Try.underlying47 base (.slice A2 (dropH h L).length c2) _ _ rfl (H2.out.own.alloc (.cells #[.int .i64 h, .int .i64 t] 55)) w2.heap.size (h, t) rfl _ (heap_alloc_new _ _) HK.out ?_ ?_
       · have := F2.out.size; simp; omega
       intro v4 w4 hown4 hg4 hat4
       have hk4 : w4.heap[rb]? = some (.cells #[.int .i64 n, .slice A2 (dropH h L).length c2] 49 (0, 0)) :=
         (hg4.block rb (by have := H2.out.lt; simp; omega) (fun e => H2.out.ne e.symm)).trans ((Below.heap_alloc _ _ _ H2.out.lt).trans H2.out.blk)
       have cc4 : w4.cell? ⟨rb, 1, none⟩ = some (.slice A2 (dropH h L).length c2) := by rw [cell_of_row w4 rb 1 _ _ (0, 0) hk4]; rfl
       have f4 : w4.frozen? ⟨rb, 1, none⟩ = false := by simp [World.frozen?, hk4]
       obtain ⟨A4, c4, rfl, -⟩ := own_slice hown4
       have hnw : ∀ k, (Value.slice A4 ((dropH h L).length + 1) c4).ownBlock = some k → w.heap.size ≤ k := fun k e => by
         rcases hat4 with e2 | e2
         · exact N2.out k (e2 ▸ e)
         · rw [e2] at e; have := F2.out.size; simp at e; omega
       have K4 := Keep.mk hk4
       have HO4 := Keep.mk hown4
       have HB4 : Keep (Fg w w4 rb v (.slice A4 ((dropH h L).length + 1) c4)) := ⟨{
         os := hg4.os.trans F2.out.os
         tape := hg4.tape.trans F2.out.tape
         output := hg4.output.trans F2.out.output
         size := by have := F2.out.size; have := hg4.size; simp at this; omega
         block := fun k hk hb => (hg4.block k (by have := F2.out.size; simp; omega) (fun e => by have := N2.out k e.symm; omega)).trans ((Below.heap_alloc _ _ _ (by have := F2.out.size; omega)).trans (F2.out.block k hk hb))
         new := fun k e => .inr (hnw k e) }⟩
       have NW4 := Keep.mk hnw
       clear hown4 hg4 hat4 hnw hk4)
    | fail)
  go_ret
  have F := HB4.out
  refine ⟨rfl, _, rf_blk K4.out H2.out.low (by rw [List.length_append]; exact HO4.out) (fun e => by have := NW4.out _ e; have := HLT.out; omega), ?_⟩
  exact { os := F.os, tape := F.tape, output := F.output, size := by simpa using F.size, new := F.new, block := fun k hk hb => Eq.trans (by show (w4.heap.modify rb _)[k]? = _; rw [Array.getElem?_modify, if_neg (Ne.symm hb)]) (F.block k hk hb) }
end Go.Proofs.Ytmjmiadogniopaa
