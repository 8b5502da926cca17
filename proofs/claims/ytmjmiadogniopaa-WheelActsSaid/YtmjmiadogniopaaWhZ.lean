/-
  The fixed fact that each law asks first: wakes.
-/
import Derived.Test.YtmjmiadogniopaaWhY
namespace Go.Proofs.Ytmjmiadogniopaa
open Go.RowKit

theorem adv_wakes {L' O : List Due} (h : Adv 4 [(1, 5), (2, 3)] L' O) : L' = [(1, 5)] ∧ O = [(2, 3)] := by
  have h1 := h.rest
  have h2 := h.perm
  have e1 : ([(1, 5), (2, 3)] : List Due).filter (fun d => decide ((4 : Int) < d.2)) = [(1, 5)] := by decide
  have e2 : ([(1, 5), (2, 3)] : List Due).filter (fun d => decide (d.2 ≤ (4 : Int))) = [(2, 3)] := by decide
  rw [e1] at h1
  rw [e2] at h2
  exact ⟨h1, List.perm_singleton.1 h2⟩

set_option maxRecDepth 100000 in
set_option maxHeartbeats 1600000 in
theorem wakes_any (w : World) : Calls Try.prog 8 #[] w fun e w' => e = .returned (.bool true) ∧ Below w.heap.size w w' := by
  go_enter Try.func8, Try.ntmps8
  go_wp2_with (first
    | (go_at_call 9
       go_loud (refine (new_wl 0 w).mono ?_; rintro e w1 ⟨rfl, h1, b1⟩)
       have H1 := Lib.hid h1
       have B1 := Keep.mk b1
       have A1 := Keep.mk ((arm_wl h1 b1.size (x := 1) (t := 5) (wfI_of (by omega) (by omega)) (by omega) (by omega) (by omega) (by omega) (by simp) (by omega)))
       clear h1 b1)
    | (go_at_call_of 10 (Value.int .i64 5)
       go_loud (refine A1.out.mono ?_; rintro e w2 ⟨rfl, S2, h2, f2⟩)
       have H2 := Lib.hid h2
       have B2 := Keep.mk (B1.out.trans (H1.out.fmBelow f2 B1.out.size))
       have A2 := Keep.mk ((arm_wl h2 B2.out.size (x := 2) (t := 3) (wfI_of (by omega) (by omega)) (by omega) (by omega) (by omega) (by omega) (by simp [dropH]) (by omega)))
       clear h2 f2)
    | (go_at_call_of 10 (Value.int .i64 3)
       go_loud (refine A2.out.mono ?_; rintro e w3 ⟨rfl, S3, h3, f3⟩)
       have h3' : Wl w3 w.heap.size (w.heap.size + 1) w.heap.size 2 S3 0 [(1, 5), (2, 3)] := h3
       have H3 := Lib.hid h3'
       have B3 := Keep.mk (B2.out.trans (H2.out.fmBelow f3 B2.out.size))
       have A3 := Keep.mk (advance_wl h3' B3.out.size 4 (by omega) (by omega) (by simp) (fun d hd => by
         simp only [List.mem_cons, List.not_mem_nil, or_false] at hd
         rcases hd with rfl | rfl
         · exact wfI_of (by omega) (by omega)
         · exact wfI_of (by omega) (by omega)))
       clear h3 f3 h3')
    | (go_at_call 12
       go_loud (refine A3.out.mono ?_; rintro e w4 ⟨v, S4, L4, O, rfl, h4, hb4, hn4, f4, ha4⟩)
       obtain ⟨rfl, rfl⟩ := adv_wakes ha4
       obtain ⟨A, c, hv, hcs⟩ := own_slice hb4.own
       obtain ⟨g, off, rfl, hg, hcs⟩ := Rd.of_own (A := A) (c := c) dueC_length (by decide) (hv ▸ hb4.own) (by simp)
       have c0 : w4.cell? ⟨g, off, none⟩ = some (.int .i64 2) := hcs 0 (2, 3) rfl 0 _ rfl
       have c1 : w4.cell? ⟨g, off + 1, none⟩ = some (.int .i64 3) := hcs 0 (2, 3) rfl 1 _ rfl
       subst hv
       have H4 := Lib.hid h4
       have B4 := Keep.mk (B3.out.trans (H3.out.fmBelow f4 B3.out.size))
       have LN := Keep.mk (len_wl h4)
       clear hcs hb4 hn4 f4 ha4 h4)
    | (go_at_call 13
       go_loud (refine LN.out.mono ?_; rintro e w5 ⟨rfl, rfl⟩))
    | fail)
  go_ret
  exact ⟨rfl, B4.out⟩
end Go.Proofs.Ytmjmiadogniopaa
