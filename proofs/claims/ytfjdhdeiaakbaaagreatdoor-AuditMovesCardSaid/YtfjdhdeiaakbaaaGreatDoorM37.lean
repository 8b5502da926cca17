/-
  Walks and laws, one behind the other (part 37).
-/
import Derived.Test.YtfjdhdeiaakbaaaGreatDoorM8
import Derived.Test.YtfjdhdeiaakbaaaGreatDoorM36
set_option linter.unusedSimpArgs false
set_option linter.unusedVariables false
/-
  The document's moves.
-/
namespace Go.Proofs.YtfjdhdeiaakbaaaGreatDoor
open Go.RowKit

set_option maxRecDepth 100000 in
set_option maxHeartbeats 12800000 in
theorem to_in (s e : Int) (w : World) (hs : 0 ≤ s ∧ s < 8) (he : 0 ≤ e ∧ e ≤ 5) : Calls Tryz.prog 16 #[.int .i64 s, .int .i64 e] w fun r w' => r = .returned (.int .i64 (toR s e)) ∧ w' = w := by
  obtain ⟨t, ht⟩ : ∃ t, toR s e = t := ⟨_, rfl⟩
  rw [ht]
  obtain rfl | rfl | rfl | rfl | rfl | rfl | rfl | rfl := eight hs
  all_goals
    obtain rfl | rfl | rfl | rfl | rfl | rfl : e = 0 ∨ e = 1 ∨ e = 2 ∨ e = 3 ∨ e = 4 ∨ e = 5 := by omega
  all_goals
    obtain rfl := ht
    clear hs he
    go_enter Tryz.func16, Tryz.ntmps16
    go_wp2_with fail
    go_ret
    exact ⟨rfl, rfl⟩
set_option maxRecDepth 100000 in
set_option maxHeartbeats 3200000 in
theorem to_out (s e : Int) (w : World) (hs : ¬ (0 ≤ s ∧ s < 8)) : Calls Tryz.prog 16 #[.int .i64 s, .int .i64 e] w fun r w' => r = .returned (.int .i64 (toR s e)) ∧ w' = w := by
  rw [toR_out hs]
  have a0 : (s == 0) = false := by rw [beq_eq_false_iff_ne]; omega
  have a1 : (s == 1) = false := by rw [beq_eq_false_iff_ne]; omega
  have a2 : (s == 2) = false := by rw [beq_eq_false_iff_ne]; omega
  have a3 : (s == 3) = false := by rw [beq_eq_false_iff_ne]; omega
  have a4 : (s == 4) = false := by rw [beq_eq_false_iff_ne]; omega
  have a5 : (s == 5) = false := by rw [beq_eq_false_iff_ne]; omega
  have a6 : (s == 6) = false := by rw [beq_eq_false_iff_ne]; omega
  have a7 : (s == 7) = false := by rw [beq_eq_false_iff_ne]; omega
  have hg : (e == 5) = false ∨ ((e == 5) = true ∧ decide (0 ≤ s) = false) ∨ ((e == 5) = true ∧ decide (0 ≤ s) = true ∧ decide (s < 8) = false) := by
    by_cases a : e = 5
    · by_cases b : 0 ≤ s
      · exact .inr (.inr ⟨by simp [a], by simp [b], by simp <;> omega⟩)
      · exact .inr (.inl ⟨by simp [a], by simp <;> omega⟩)
    · exact .inl (by simp [a])
  clear hs
  rcases hg with g1 | ⟨g1, g2⟩ | ⟨g1, g2, g3⟩
  all_goals
    go_enter Tryz.func16, Tryz.ntmps16
    go_wp2_with fail
    go_ret
    exact ⟨rfl, rfl⟩
theorem mto_any (s e : Int) (w : World) (he : 0 ≤ e ∧ e ≤ 5) : Calls Tryz.prog 16 #[.int .i64 s, .int .i64 e] w fun r w' => r = .returned (.int .i64 (toR s e)) ∧ w' = w := by
  by_cases hs : 0 ≤ s ∧ s < 8
  · exact to_in s e w hs he
  · exact to_out s e w hs
end Go.Proofs.YtfjdhdeiaakbaaaGreatDoor
/-
  The document's search.
-/
namespace Go.Proofs.YtfjdhdeiaakbaaaGreatDoor
open Go.RowKit

theorem leadsR_yes {n : Nat} {a b : Int} {e : Nat} (he : e < 6) (h1 : 0 ≤ toR a e) (h2 : leadsR n (toR a e) b = true) : leadsR (n + 1) a b = true := by
  rw [leadsR, Bool.or_eq_true, List.any_eq_true]
  exact .inr ⟨e, List.mem_range.2 he, by simp [h1, h2]⟩
theorem leadsR_no {n : Nat} {a b : Int} (hab : a ≠ b) (h : ∀ e : Nat, e < 6 → ¬ (0 ≤ toR a e ∧ leadsR n (toR a e) b = true)) : leadsR (n + 1) a b = false := by
  rw [leadsR, Bool.or_eq_false_iff]
  refine ⟨by simp [hab], ?_⟩
  rw [List.any_eq_false]
  intro e he hh
  exact h e (List.mem_range.1 he) (by simpa using hh)
set_option maxRecDepth 100000 in
set_option maxHeartbeats 6400000 in
theorem leads_any (n : Nat) (hn : n ≤ 8) : ∀ (a b : Int) (w : World), Calls Tryz.prog 8 #[.int .i64 a, .int .i64 b, .int .i64 n] w fun r w' => r = .returned (.bool (leadsR n a b)) ∧ w' = w := by
  induction n with
  | zero =>
    intro a b w
    clear hn
    by_cases hab : a = b
    · subst hab
      have hl : leadsR 0 a a = true := by simp [leadsR]
      rw [hl]
      clear hl
      go_enter Tryz.func8, Tryz.ntmps8
      go_wp2_with fail
      go_ret
      exact ⟨rfl, rfl⟩
    · have g0 : (a == b) = false := by simp [hab]
      have hl : leadsR 0 a b = false := by simp [leadsR, hab]
      rw [hl]
      clear hl hab
      go_enter Tryz.func8, Tryz.ntmps8
      go_wp2_with fail
      go_loopw [7] (fun I wr => I = .int .i64 0 ∧ wr = w) (fun _ _ => 0)
      case atStart => exact ⟨rfl, rfl⟩
      case round =>
        obtain ⟨rfl, rfl⟩ := hrel
        go_wp2_with fail
        go_ret
        exact ⟨rfl, rfl⟩
  | succ n ih =>
    intro a b w
    by_cases hab : a = b
    · subst hab
      have hl : leadsR (n + 1) a a = true := by simp [leadsR]
      obtain ⟨N, hN⟩ : ∃ N : Int, ((n + 1 : Nat) : Int) = N := ⟨_, rfl⟩
      rw [hl, hN]
      clear hl hN ih
      go_enter Tryz.func8, Tryz.ntmps8
      go_wp2_with fail
      go_ret
      exact ⟨rfl, rfl⟩
    · have g0 : (a == b) = false := by simp [hab]
      · have IH : Keep (∀ (x y : Int) (W : World), Calls Tryz.prog 8 #[.int .i64 x, .int .i64 y, .int .i64 n] W fun r w' => r = .returned (.bool (leadsR n x y)) ∧ w' = W) := ⟨fun x y W => ih (by omega) x y W⟩
        have HAB := Keep.mk hab
        obtain ⟨N, hN⟩ : ∃ N : Int, ((n + 1 : Nat) : Int) = N := ⟨_, rfl⟩
        have e1 : IntKind.i64.wrap (N - 1) = (n : Int) := by rw [IntWalk.i64_in _ (by omega)]; omega
        have hp : decide ((0 : Int) < N) = true := by simp <;> omega
        rw [hN]
        clear hN
        obtain ⟨q, hq⟩ : ∃ q, leadsR (n + 1) a b = q := ⟨_, rfl⟩
        rw [hq]
        have HQ := Keep.mk hq
        clear hab hq ih
        go_enter Tryz.func8, Tryz.ntmps8
        go_wp2_with fail
        go_loopw [7] (fun I wr => ∃ e : Nat, e ≤ 6 ∧ I = .int .i64 e ∧ wr = w ∧ Keep (∀ i : Nat, i < e → ¬ (0 ≤ toR a i ∧ leadsR n (toR a i) b = true))) (fun i _ => 6 - (intOf i).toNat)
        case atStart => exact ⟨0, by omega, rfl, rfl, ⟨fun i hi => by omega⟩⟩
        case round =>
          obtain ⟨e, he, rfl, rfl, HN⟩ := hrel
          rcases Nat.lt_or_ge e 6 with hlt | hge
          · have TO := Keep.mk (mto_any a e wr ⟨by omega, by omega⟩)
            obtain ⟨t, ht⟩ : ∃ t, toR a e = t := ⟨_, rfl⟩
            rw [ht] at TO
            have HT := Keep.mk ht
            have d0 : decide ((e : Int) ≤ 5) = true := by simp <;> omega
            clear ht
            by_cases h0 : 0 ≤ t
            · have d1 : decide (0 ≤ t) = true := by simp [h0]
              have LE := Keep.mk (IH.out t b wr)
              obtain ⟨r, hr⟩ : ∃ r, leadsR n t b = r := ⟨_, rfl⟩
              rw [hr] at LE
              have HR := Keep.mk hr
              have H0 := Keep.mk h0
              clear hr h0
              cases r
              · have NX : Keep (∀ i : Nat, i < e + 1 → ¬ (0 ≤ toR a i ∧ leadsR n (toR a i) b = true)) := ⟨fun i hi hh => by
                  rcases Nat.lt_or_ge i e with h1 | h1
                  · exact HN.out i h1 hh
                  · obtain rfl : i = e := by omega
                    rw [HT.out, HR.out] at hh
                    exact absurd hh.2 (by decide)⟩
                go_wp2_with (first
                  | (go_at_call 16
                     go_loud (refine TO.out.mono ?_; rintro r X ⟨rfl, hX⟩)
                     rw [hX]
                     clear hX)
                  | (go_at_call 8
                     go_loud (refine LE.out.mono ?_; rintro r X ⟨rfl, hX⟩)
                     rw [hX]
                     clear hX)
                  | fail)
                go_roundw
                case rel => exact ⟨e + 1, by omega, by go_num, by first | rfl | trivial, NX⟩
                case measure => simp [intOf] <;> omega
              · go_wp2_with (first
                  | (go_at_call 16
                     go_loud (refine TO.out.mono ?_; rintro r X ⟨rfl, hX⟩)
                     rw [hX]
                     clear hX)
                  | (go_at_call 8
                     go_loud (refine LE.out.mono ?_; rintro r X ⟨rfl, hX⟩)
                     rw [hX]
                     clear hX)
                  | fail)
                go_ret
                exact ⟨by rw [← HQ.out, leadsR_yes hlt (HT.out ▸ H0.out) (HT.out ▸ HR.out)]; rfl, by first | rfl | trivial⟩
            · have d1 : decide (0 ≤ t) = false := by simp [h0] <;> omega
              have NX : Keep (∀ i : Nat, i < e + 1 → ¬ (0 ≤ toR a i ∧ leadsR n (toR a i) b = true)) := ⟨fun i hi hh => by
                rcases Nat.lt_or_ge i e with h1 | h1
                · exact HN.out i h1 hh
                · obtain rfl : i = e := by omega
                  rw [HT.out] at hh
                  exact h0 hh.1⟩
              clear h0
              go_wp2_with (first
                | (go_at_call 16
                   go_loud (refine TO.out.mono ?_; rintro r X ⟨rfl, hX⟩)
                   rw [hX]
                   clear hX)
                | fail)
              go_roundw
              case rel => exact ⟨e + 1, by omega, by go_num, by first | rfl | trivial, NX⟩
              case measure => simp [intOf] <;> omega
          · obtain rfl : e = 6 := by omega
            go_wp2_with fail
            go_ret
            exact ⟨by rw [← HQ.out, leadsR_no HAB.out HN.out]; rfl, by first | rfl | trivial⟩
end Go.Proofs.YtfjdhdeiaakbaaaGreatDoor
