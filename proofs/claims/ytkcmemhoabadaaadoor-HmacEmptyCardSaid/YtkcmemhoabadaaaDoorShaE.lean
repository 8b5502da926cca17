/-
  The law ShaEmpty, walked: pieces without bytes change nothing.
-/
import Derived.Test.YtkcmemhoabadaaaDoorShaW
namespace Go.Proofs.YtkcmemhoabadaaaDoor
open Go.RowKit

theorem Arg.empty {α : Type} (w : World) (sz : Nat) (enc : α → List Value) (A : Option Addr) : Arg w sz enc A 0 0 ([] : List α) := ⟨rfl, Nat.le_refl _, by decide, fun _ => rfl, Rd.nil⟩

theorem PcsOk.alloc {w : World} {ps : List Pc} (h : PcsOk w ps) (o : Obj) : PcsOk (w.alloc o) ps := fun p hp => (h p hp).alloc o
/-- sha.Of of a new row of pieces. -/
theorem of_new (w : World) (g n : Nat) (ps : List Pc) (l : List Int) (hg : w.heap.size = g) (hn : ps.length = n) (hok : PcsOk w ps) (hl : glue ps = l) (hn1 : n ≤ 1000000) (h1 : l.length ≤ 100000) (hb : ∀ z ∈ l, 0 ≤ z ∧ z ≤ 255) :
    Calls Tryd.prog 14 #[.slice (some ⟨g, 0, none⟩) n n] (w.alloc (.cells (ps.flatMap encP).toArray 22)) fun r w' => r = .returned (.agg (bArr (digB l))) ∧ Below w.heap.size w w' := by
  subst hl
  refine (of_any _ n n ps _ (Arg.new' w g hg 22 (0, 0) 1 encP encP_length ps n hn (by unfold maxLen; omega)) (hok.alloc _) hn1 h1 hb).mono ?_
  rintro e w' ⟨rfl, hb'⟩
  exact ⟨rfl, ((Below.refl _ w).alloc (Nat.le_refl _) _).trans (hb'.mono (by simp))⟩

set_option maxRecDepth 100000 in
set_option maxHeartbeats 2000000 in
theorem shaEmpty_walk (A1 A2 : Option Addr) (n1 c1 n2 c2 : Nat) (l1 l2 : List Int) (at_ : Int) (w : World) (ha1 : Arg w 1 encB A1 n1 c1 l1) (ha2 : Arg w 1 encB A2 n2 c2 l2) (b1 : ∀ z ∈ l1, 0 ≤ z ∧ z ≤ 255) (b2 : ∀ z ∈ l2, 0 ≤ z ∧ z ≤ 255) (t0 : 0 ≤ at_) (t1 : at_ ≤ 255) :
    Calls Tryd.prog 5 #[.slice A1 n1 c1, .slice A2 n2 c2, .int .u8 at_] w fun e w' => e = .returned (.bool true) ∧ Below w.heap.size w w' := by
  have H1 := Lib.hid ha1
  have H2 := Lib.hid ha2
  have B1 := Lib.hid b1
  have B2 := Lib.hid b2
  have m1 := ha1.hcap
  have m2 := ha1.hmax
  have m3 := ha2.hcap
  have m4 := ha2.hmax
  have e1 := ha1.hlen
  have e2 := ha2.hlen
  unfold maxLen at m2 m4
  have E1 := Keep.mk e1
  have E2 := Keep.mk e2
  clear ha1 ha2 b1 b2 e1 e2
  by_cases hb1 : 300 < n1
  · go_enter Tryd.func5, Tryd.ntmps5
    go_wp2_with (go_at_call 13; refine (wakes03_any _).mono ?_; rintro e w1 ⟨rfl, hb1⟩)
    go_ret
    exact ⟨rfl, hb1⟩
  by_cases hb2 : 300 < n2
  · go_enter Tryd.func5, Tryd.ntmps5
    go_wp2_with (go_at_call 13; refine (wakes03_any _).mono ?_; rintro e w1 ⟨rfl, hb1⟩)
    go_ret
    exact ⟨rfl, hb1⟩
  have h1 : at_ % 2 = 0 ∨ at_ % 2 = 1 := by omega
  have h2 : at_ / 2 % 2 = 0 ∨ at_ / 2 % 2 = 1 := by omega
  rcases h1 with h1 | h1 <;> rcases h2 with h2 | h2
  all_goals
    go_enter Tryd.func5, Tryd.ntmps5
    go_wp2_with (go_at_call 13; refine (wakes03_any _).mono ?_; rintro e w1 ⟨rfl, hbw⟩)
    have o1 := (H1.out.below hbw).alloc (.cells #[] 5) |>.alloc (.cells #[] 5)
    have o2 := (H2.out.below hbw).alloc (.cells #[] 5) |>.alloc (.cells #[] 5)
    have hsz : ((w1.alloc (.cells #[] 5)).alloc (.cells #[] 5)).heap.size = w1.heap.size + 1 + 1 := by simp
    have hbe : Below w1.heap.size w1 ((w1.alloc (.cells #[] 5)).alloc (.cells #[] 5)) := ((Below.refl _ w1).alloc (Nat.le_refl _) _).alloc (by simp) _
    have HBE := Lib.hid hbe
    have O1 := Lib.hid o1
    have O2 := Lib.hid o2
    have HSZ := Keep.mk hsz
    have hln : (l1 ++ l2).length ≤ 600 := by rw [List.length_append, E1.out, E2.out]; omega
    have hbt : ∀ z ∈ l1 ++ l2, 0 ≤ z ∧ z ≤ 255 := fun z hz => (List.mem_append.1 hz).elim (B1.out z) (B2.out z)
    have HBT := Lib.hid hbt
    clear o1 o2 hsz hbe hbt h1 h2
    change Calls _ _ _ (((w1.alloc (.cells #[] 5)).alloc (.cells #[] 5)).alloc _) _
    generalize (w1.alloc (.cells #[] 5)).alloc (.cells #[] 5) = w2 at *
    first
      | (refine (of_new w2 _ 4 [⟨A1, n1, c1, l1⟩, ⟨some ⟨w1.heap.size, 0, none⟩, 0, 0, []⟩, ⟨A2, n2, c2, l2⟩, ⟨some ⟨w1.heap.size + 1, 0, none⟩, 0, 0, []⟩] (l1 ++ l2) HSZ.out rfl (fun p hp => ?_) (by simp [glue]) (by omega) (by omega) HBT.out).mono ?_; (· simp only [List.mem_cons, List.not_mem_nil, or_false] at hp; rcases hp with rfl | rfl | rfl | rfl <;> (first | exact O1.out | exact O2.out | exact Arg.empty _ _ _ _)); rintro e w3 ⟨rfl, hb3⟩)
      | (refine (of_new w2 _ 4 [⟨A1, n1, c1, l1⟩, ⟨some ⟨w1.heap.size, 0, none⟩, 0, 0, []⟩, ⟨none, 0, 0, []⟩, ⟨A2, n2, c2, l2⟩] (l1 ++ l2) HSZ.out rfl (fun p hp => ?_) (by simp [glue]) (by omega) (by omega) HBT.out).mono ?_; (· simp only [List.mem_cons, List.not_mem_nil, or_false] at hp; rcases hp with rfl | rfl | rfl | rfl <;> (first | exact O1.out | exact O2.out | exact Arg.empty _ _ _ _)); rintro e w3 ⟨rfl, hb3⟩)
      | (refine (of_new w2 _ 4 [⟨none, 0, 0, []⟩, ⟨A1, n1, c1, l1⟩, ⟨A2, n2, c2, l2⟩, ⟨some ⟨w1.heap.size + 1, 0, none⟩, 0, 0, []⟩] (l1 ++ l2) HSZ.out rfl (fun p hp => ?_) (by simp [glue]) (by omega) (by omega) HBT.out).mono ?_; (· simp only [List.mem_cons, List.not_mem_nil, or_false] at hp; rcases hp with rfl | rfl | rfl | rfl <;> (first | exact O1.out | exact O2.out | exact Arg.empty _ _ _ _)); rintro e w3 ⟨rfl, hb3⟩)
      | (refine (of_new w2 _ 4 [⟨none, 0, 0, []⟩, ⟨A1, n1, c1, l1⟩, ⟨none, 0, 0, []⟩, ⟨A2, n2, c2, l2⟩] (l1 ++ l2) HSZ.out rfl (fun p hp => ?_) (by simp [glue]) (by omega) (by omega) HBT.out).mono ?_; (· simp only [List.mem_cons, List.not_mem_nil, or_false] at hp; rcases hp with rfl | rfl | rfl | rfl <;> (first | exact O1.out | exact O2.out | exact Arg.empty _ _ _ _)); rintro e w3 ⟨rfl, hb3⟩)
    obtain ⟨D, hD⟩ : ∃ D, digB (l1 ++ l2) = D := ⟨_, rfl⟩
    have HD := Keep.mk hD
    have hDl : D.length = 32 := by rw [← hD, digB_length]
    have HDl := Keep.mk hDl
    rw [hD]
    clear hD hDl
    go_wp2_with fail
    refine (of_new w3 _ 2 [⟨A1, n1, c1, l1⟩, ⟨A2, n2, c2, l2⟩] (l1 ++ l2) rfl rfl (fun p hp => ?_) (by simp [glue]) (by omega) (by omega) HBT.out).mono ?_
    · simp only [List.mem_cons, List.not_mem_nil, or_false] at hp
      rcases hp with rfl | rfl
      · exact O1.out.below hb3
      · exact O2.out.below hb3
    rintro e w4 ⟨rfl, hb4⟩
    rw [HD.out]
    go_wp2_with (first
      | (refine wpList_eql_arr rfl 24 _ _ _ rfl 5 32 .u8 Tryd.underlying24 Tryd.underlying5 infoB1 eqGuard32 D HDl.out rfl rfl ?_)
      | fail)
    go_ret
    exact ⟨rfl, hbw.trans ((HBE.out.trans ((hb3.trans (hb4.mono hb3.size)).mono HBE.out.size)).mono hbw.size)⟩
/-- The same, its arguments in the frame's order. -/
theorem shaEmpty_any (A1 : Option Addr) (n1 c1 : Nat) (l1 : List Int) (A2 : Option Addr) (n2 c2 : Nat) (l2 : List Int) (at_ : Int) (w : World) (ha1 : Arg w 1 encB A1 n1 c1 l1) (b1 : ∀ z ∈ l1, 0 ≤ z ∧ z ≤ 255) (ha2 : Arg w 1 encB A2 n2 c2 l2) (b2 : ∀ z ∈ l2, 0 ≤ z ∧ z ≤ 255) (t0 : 0 ≤ at_) (t1 : at_ ≤ 255) :
    Calls Tryd.prog 5 #[.slice A1 n1 c1, .slice A2 n2 c2, .int .u8 at_] w fun e w' => e = .returned (.bool true) ∧ Below w.heap.size w w' :=
  shaEmpty_walk A1 A2 n1 c1 n2 c2 l1 l2 at_ w ha1 ha2 b1 b2 t0 t1
end Go.Proofs.YtkcmemhoabadaaaDoor
