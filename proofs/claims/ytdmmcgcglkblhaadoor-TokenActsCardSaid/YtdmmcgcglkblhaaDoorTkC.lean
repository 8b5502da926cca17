/-
  wakes; the walk of the law TokenNil.
-/
import Derived.Test.YtdmmcgcglkblhaaDoorTkB
namespace Go.Proofs.YtdmmcgcglkblhaaDoor
open Go.RowKit Go.Maps

section
variable {w w' : World} {base b m nb k : Nat} {most o : Int} {M : Int → Option En} {ks r : List Int} {e : Ending}
theorem Took.full (h : Took w base b m nb most M k o ks e w') (hk : (k : Int) = most) : e = .returned (.tuple #[.int .u64 0, .int .i64 0, .int .i64 15]) ∧ Tb w' base b m nb most M k ∧ Ft w w' m := by
  rcases h with ⟨_, h⟩ | ⟨h, _⟩ | ⟨h, _⟩
  · exact h
  · exact absurd hk h
  · exact absurd hk h
theorem Took.nobody (h : Took w base b m nb most M k o ks e w') (hk : (k : Int) ≠ most) (hM : ∀ x ∈ ks, (M (tokN x)).isSome = true) : e = .returned (.tuple #[.int .u64 0, .int .i64 ks.length, .int .i64 6]) ∧ Tb w' base b m nb most M k ∧ Ft w w' m := by
  rcases h with ⟨h, _⟩ | ⟨_, _, h⟩ | ⟨_, i, key, h1, _, h3, _⟩
  · exact absurd h hk
  · exact h
  · have := hM key (List.mem_of_getElem? h1)
    rw [h3] at this
    cases this
/-- The first of the keys is the one. -/
theorem Took.first {x : Int} (h : Took w base b m nb most M k o (x :: r) e w') (hk : (k : Int) ≠ most) (hM : M (tokN x) = none) :
    e = .returned (.tuple #[.int .u64 x, .int .i64 0, .int .i64 0]) ∧ Tb w' base b m (nb + 1) most (setT M (tokN x) (some ⟨o, true, 0⟩)) (k + 1) ∧ Ft w w' m := by
  rcases h with ⟨h, _⟩ | ⟨_, h, _⟩ | ⟨_, i, key, h1, h2, h3, h4, h5⟩
  · exact absurd h hk
  · have := h x (by simp)
    rw [hM] at this
    cases this
  · cases i with
    | zero =>
      obtain rfl : x = key := by simpa using h1
      exact ⟨h4, h5⟩
    | succ i =>
      have := h2 x (by simp)
      rw [hM] at this
      cases this
/-- The second is. -/
theorem Took.second {x y : Int} (h : Took w base b m nb most M k o (x :: y :: r) e w') (hk : (k : Int) ≠ most) (hx : (M (tokN x)).isSome = true) (hM : M (tokN y) = none) :
    e = .returned (.tuple #[.int .u64 y, .int .i64 1, .int .i64 0]) ∧ Tb w' base b m (nb + 1) most (setT M (tokN y) (some ⟨o, true, 0⟩)) (k + 1) ∧ Ft w w' m := by
  rcases h with ⟨h, _⟩ | ⟨_, h, _⟩ | ⟨_, i, key, h1, h2, h3, h4, h5⟩
  · exact absurd h hk
  · have := h y (by simp)
    rw [hM] at this
    cases this
  · match i, h1, h2, h4 with
    | 0, h1, _, _ =>
      obtain rfl : x = key := by simpa using h1
      rw [h3] at hx
      cases hx
    | 1, h1, _, h4 =>
      obtain rfl : y = key := by simpa using h1
      exact ⟨h4, h5⟩
    | i + 2, _, h2, _ =>
      have := h2 y (by simp)
      rw [hM] at this
      cases this
end

set_option maxRecDepth 100000 in
set_option maxHeartbeats 3200000 in
theorem wakes_any (w : World) : Calls Tryd.prog 8 #[] w fun e w' => e = .returned (.bool true) ∧ Below w.heap.size w w' := by
  obtain ⟨t5, h5⟩ : ∃ t, tokN 5 = t := ⟨_, rfl⟩
  obtain ⟨t6, h6⟩ : ∃ t, tokN 6 = t := ⟨_, rfl⟩
  have h56 : t6 ≠ t5 := by rw [← h5, ← h6, tok_five, tok_six]; decide
  have H5 := Keep.mk h5
  have H6 := Keep.mk h6
  have H56 := Keep.mk h56
  clear h5 h6 h56
  go_enter Tryd.func8, Tryd.ntmps8
  go_wp2_with (first
    | (go_at_call 9
       go_loud (refine (tnew_any 4 w).mono ?_; rintro e w1 ⟨rfl, t1, b1⟩)
       rw [show min (max (4 : Int) 1) 64 = 4 by decide] at t1
       have b2 : Below w.heap.size w (w1.alloc (.cells #[.int .u64 5] 22)) := b1.alloc b1.size _
       have T2 := Keep.mk (t1.below ((Below.refl _ w1).alloc (Nat.le_refl _) (.cells #[.int .u64 5] 22)))
       have B2 := Keep.mk b2
       have C2 := Keep.mk (tk_take _ _ _ _ _ _ _ 1 _ 1 1 [5] _ T2.out (Arg.new' w1 _ rfl 22 (0, 0) 1 encU encU_length [5] 1 rfl (by decide)) (by simp) (by omega) (by omega))
       clear t1 b1 b2)
    | (go_at_call_of 10 (Value.int .i64 1)
       go_loud (refine C2.out.mono ?_; rintro e w3 h3)
       obtain ⟨rfl, t3, f3⟩ := h3.first (by decide) rfl
       rw [H5.out] at t3
       have T3 := Keep.mk t3
       have B3 := Keep.mk (B2.out.trans (f3.below (Nat.le_refl _) B2.out.size))
       have B4 : Keep (Below w.heap.size w (w3.alloc (.cells #[.int .u64 5, .int .u64 6] 22))) := ⟨B3.out.alloc B3.out.size _⟩
       have T4 := Keep.mk (t3.below ((Below.refl _ w3).alloc (Nat.le_refl _) (.cells #[.int .u64 5, .int .u64 6] 22)))
       have C4 := Keep.mk (tk_take _ _ _ _ _ _ _ 2 _ 2 2 [5, 6] _ T4.out (Arg.new' w3 _ rfl 22 (0, 0) 1 encU encU_length [5, 6] 2 rfl (by decide)) (by simp) (by omega) (by omega))
       clear h3 t3 f3)
    | (go_at_call_of 10 (Value.int .i64 2)
       go_loud (refine C4.out.mono ?_; rintro e w5 h5)
       obtain ⟨rfl, t5', f5⟩ := h5.second (by decide) (by rw [H5.out, setT_same]; rfl) (by rw [H6.out, setT_other _ _ H56.out])
       have B5 := Keep.mk (B4.out.trans (f5.below (Nat.le_refl _) B4.out.size))
       clear h5 t5' f5)
    | fail)
  go_ret
  exact ⟨rfl, B5.out⟩

set_option maxRecDepth 100000 in
set_option maxHeartbeats 3200000 in
theorem tokenNil_walk (k tick : Int) (w : World) : Calls Tryd.prog 7 #[.int .u64 k, .int .i64 tick] w fun e w' => e = .returned (.bool true) ∧ Below w.heap.size w w' := by
  go_enter Tryd.func7, Tryd.ntmps7
  go_wp2_with (first
    | (go_at_call 8; refine (wakes_any _).mono ?_; rintro e w1 ⟨rfl, hb1⟩; have HB1 := Keep.mk hb1; clear hb1)
    | (go_at_call 10
       go_loud (refine (take_nil _ _ _).mono ?_; rintro e X ⟨rfl, hX⟩)
       have HB2 : Keep (Below w.heap.size w X) := ⟨by rw [hX]; exact HB1.out.alloc HB1.out.size _⟩
       clear hX)
    | (go_at_call 13
       go_loud (refine (find_nil _ _).mono ?_; rintro e X ⟨rfl, rfl⟩))
    | (go_at_call 12
       go_loud (refine (free_nil _ _ _).mono ?_; rintro e X ⟨rfl, rfl⟩))
    | (go_at_call 14
       go_loud (refine (tick_nil _ _).mono ?_; rintro e w3 ⟨rfl, hb3⟩)
       have HB3 := Keep.mk (HB2.out.trans (hb3.mono HB2.out.size))
       clear hb3)
    | (go_at_call 15
       go_loud (refine (all_nil _).mono ?_; rintro e w4 ⟨rfl, hb4⟩)
       have HB4 := Keep.mk (HB3.out.trans (hb4.mono HB3.out.size))
       clear hb4)
    | fail)
  go_ret
  exact ⟨rfl, HB4.out⟩
end Go.Proofs.YtdmmcgcglkblhaaDoor
