/-
  The walk of the law WheelAgain.
-/
import Derived.Test.YtmjmiadogniopaaWhZ
namespace Go.Proofs.Ytmjmiadogniopaa
open Go.RowKit

theorem adv_none {n : Int} {L L' O : List Due} (h : Adv n L L' O) (hL : ∀ d ∈ L, n < d.2) : L' = L ∧ O = [] := by
  have h1 := h.rest
  have h2 := h.perm
  rw [List.filter_eq_self.2 fun d hd => decide_eq_true (hL d hd)] at h1
  rw [List.filter_eq_nil_iff.2 fun d hd => by have := hL d hd; simp; omega] at h2
  exact ⟨h1, h2.eq_nil⟩
theorem adv_all {n : Int} {L L' O : List Due} (h : Adv n L L' O) (hL : ∀ d ∈ L, d.2 ≤ n) : L' = [] ∧ O.Perm L := by
  have h1 := h.rest
  have h2 := h.perm
  rw [List.filter_eq_nil_iff.2 fun d hd => by have := hL d hd; simp; omega] at h1
  rw [List.filter_eq_self.2 fun d hd => decide_eq_true (hL d hd)] at h2
  exact ⟨h1, h2⟩
theorem wl_now {w : World} {base b m nb : Nat} {S : Nat → Value} {n n' : Int} {L : List Due} (h : Wl w base b m nb S n L) (e : n = n') : Wl w base b m nb S n' L := e ▸ h

set_option maxRecDepth 100000 in
set_option maxHeartbeats 1600000 in
theorem wheelAgain_walk (n a b : Int) (w : World) (n1 : 0 ≤ n) (n2 : n ≤ 65535) (a1 : 0 ≤ a) (a2 : a ≤ 65535) (b1 : 0 ≤ b) (b2 : b ≤ 65535) :
    Calls Try.prog 4 #[.int .u16 n, .int .u16 a, .int .u16 b] w fun e w' => e = .returned (.bool true) ∧ Below w.heap.size w w' := by
  have q1 : IntKind.i64.wrap n = n := IntWalk.i64_in _ (by omega)
  have q2 : IntKind.i64.wrap a = a := IntWalk.i64_in _ (by omega)
  have q3 : IntKind.i64.wrap b = b := IntWalk.i64_in _ (by omega)
  have q4 : IntKind.i64.wrap (n + 1) = n + 1 := IntWalk.i64_in _ (by omega)
  have t1 : a.tmod 4096 = a % 4096 := Int.tmod_eq_emod_of_nonneg a1
  have t2 : b.tmod 4096 = b % 4096 := Int.tmod_eq_emod_of_nonneg b1
  obtain ⟨p, hp⟩ : ∃ p, a % 4096 = p := ⟨_, rfl⟩
  obtain ⟨q, hq⟩ : ∃ q, b % 4096 = q := ⟨_, rfl⟩
  rw [hp] at t1
  rw [hq] at t2
  have p1 : 0 ≤ p ∧ p < 4096 := by omega
  have p2 : 0 ≤ q ∧ q < 4096 := by omega
  clear hp hq
  have q5 : IntKind.i64.wrap (n + 1 + p) = n + 1 + p := IntWalk.i64_in _ (by omega)
  have q6 : IntKind.i64.wrap (n + 1 + q) = n + 1 + q := IntWalk.i64_in _ (by omega)
  have q7 : IntKind.i64.wrap (n + 5000) = n + 5000 := IntWalk.i64_in _ (by omega)
  have q8 : IntKind.i64.wrap (n + 1 + q - 1) = n + 1 + q - 1 := IntWalk.i64_in _ (by omega)
  have P1 := Keep.mk p1
  have P2 := Keep.mk p2
  have N1 := Keep.mk n1
  have N2 := Keep.mk n2
  clear p1 p2 a1 a2 b1 b2
  go_enter Try.func4, Try.ntmps4
  go_wp2_with (first
    | (go_at_call 8; refine (wakes_any _).mono ?_; rintro e w1 ⟨rfl, hb1⟩; have HB1 := Keep.mk hb1; clear hb1)
    | (go_at_call 9
       go_loud (refine (new_wl n w1).mono ?_; rintro e w2 ⟨rfl, h2, b2⟩)
       have n1 := N1.out
       have n2 := N2.out
       have h2 := wl_now h2 (show min (max n 0) 1099511627776 = n by omega)
       have H2 := Lib.hid h2
       have B2 := Keep.mk b2
       have p1 := P1.out
       have A2 := Keep.mk (arm_wl h2 b2.size (x := 7) (t := n + 1 + p) (wfI_of (by omega) (by omega)) (by omega) (by omega) (by omega) (by omega) (by simp) (by omega))
       clear h2 b2 n1 n2 p1)
    | (go_at_call 10
       go_loud (refine A3.out.mono ?_; rintro e w4 ⟨rfl, S4, h4, f4⟩)
       have h4' : Wl w4 w1.heap.size (w1.heap.size + 1) w1.heap.size 2 S4 n [(7, n + 1 + q)] := h4
       have H4 := Lib.hid h4'
       have B4 := Keep.mk (B3.out.trans (H3.out.fmBelow f4 B3.out.size))
       have L4 := Keep.mk (len_wl h4')
       have n1 := N1.out
       have n2 := N2.out
       have p2 := P2.out
       have D4 := Keep.mk (advance_wl h4' B4.out.size (n + 1 + q - 1) (by omega) (by omega) (by simp) (fun d hd => by rw [List.mem_singleton.1 hd]; exact wfI_of (by omega) (by omega)))
       clear h4 f4 h4' n1 n2 p2 A3)
    | (go_at_call 10
       go_loud (refine A2.out.mono ?_; rintro e w3 ⟨rfl, S3, h3, f3⟩)
       have h3' : Wl w3 w1.heap.size (w1.heap.size + 1) w1.heap.size 1 S3 n [(7, n + 1 + p)] := h3
       have H3 := Lib.hid h3'
       have B3 := Keep.mk (B2.out.trans (H2.out.fmBelow f3 B2.out.size))
       have n1 := N1.out
       have n2 := N2.out
       have p2 := P2.out
       have A3 := Keep.mk (arm_wl h3' B3.out.size (x := 7) (t := n + 1 + q) (wfI_of (by omega) (by omega)) (by omega) (by omega) (by omega) (by omega) (by simp) (by omega))
       clear h3 f3 h3' A2 n1 n2 p2)
    | (go_at_call 13
       go_loud (refine L6.out.mono ?_; rintro e w6 ⟨rfl, rfl⟩))
    | (go_at_call 13
       go_loud (refine L4.out.mono ?_; rintro e w4 ⟨rfl, rfl⟩))
    | (go_at_call 12
       go_loud (refine D6.out.mono ?_; rintro e w7 ⟨v7, S7, L7, O7, rfl, h7, hb7, hn7, f7, ha7⟩)
       obtain ⟨rfl, rfl⟩ := adv_none ha7 (by simp)
       obtain ⟨A7, c7, rfl, -⟩ := own_slice hb7.own
       have B7 := Keep.mk (B6.out.trans (H6.out.fmBelow f7 B6.out.size))
       clear h7 hb7 hn7 f7 ha7)
    | (go_at_call 12
       go_loud (refine D5.out.mono ?_; rintro e w6 ⟨v6, S6, L6', O6, rfl, h6, hb6, hn6, f6, ha6⟩)
       have n1 := N1.out
       have n2 := N2.out
       have p2 := P2.out
       obtain ⟨rfl, hpp⟩ := adv_all ha6 (by intro d hd; rw [List.mem_singleton.1 hd]; show n + 1 + q ≤ _; omega)
       obtain rfl := List.perm_singleton.1 hpp
       obtain ⟨A6, c6, hv6, -⟩ := own_slice hb6.own
       obtain ⟨g6, off6, rfl, -, hcs⟩ := Rd.of_own (A := A6) (c := c6) dueC_length (by decide) (hv6 ▸ hb6.own) (by simp)
       have c0 : w6.cell? ⟨g6, off6, none⟩ = some (.int .i64 7) := hcs 0 (7, n + 1 + q) rfl 0 _ rfl
       have c1 : w6.cell? ⟨g6, off6 + 1, none⟩ = some (.int .i64 (n + 1 + q)) := hcs 0 (7, n + 1 + q) rfl 1 _ rfl
       subst hv6
       have H6 := Lib.hid h6
       have B6 := Keep.mk (B5.out.trans (H5.out.fmBelow f6 B5.out.size))
       have L6 := Keep.mk (len_wl h6)
       have D6 := Keep.mk (advance_wl h6 B6.out.size (n + 5000) (by omega) (by omega) (by simp) (by simp))
       clear h6 hb6 hn6 f6 ha6 hpp hcs n1 n2 p2 D5)
    | (go_at_call 12
       go_loud (refine D4.out.mono ?_; rintro e w5 ⟨v5, S5, L5, O5, rfl, h5, hb5, hn5, f5, ha5⟩)
       have n1 := N1.out
       have n2 := N2.out
       have p2 := P2.out
       obtain ⟨rfl, rfl⟩ := adv_none ha5 (by intro d hd; rw [List.mem_singleton.1 hd]; show _ < n + 1 + q; omega)
       obtain ⟨A5, c5, rfl, -⟩ := own_slice hb5.own
       have h5' := wl_now h5 (show max n (min (n + 1 + q - 1) (n + 10000)) = n + q by omega)
       have H5 := Lib.hid h5'
       have B5 := Keep.mk (B4.out.trans (H4.out.fmBelow f5 B4.out.size))
       have D5 := Keep.mk (advance_wl h5' B5.out.size (n + 1 + q) (by omega) (by omega) (by simp) (fun d hd => by rw [List.mem_singleton.1 hd]; exact wfI_of (by omega) (by omega)))
       clear h5 hb5 hn5 f5 ha5 n1 n2 p2 D4 h5')
    | fail)
  go_ret
  exact ⟨rfl, HB1.out.trans (B7.out.mono HB1.out.size)⟩
end Go.Proofs.Ytmjmiadogniopaa
