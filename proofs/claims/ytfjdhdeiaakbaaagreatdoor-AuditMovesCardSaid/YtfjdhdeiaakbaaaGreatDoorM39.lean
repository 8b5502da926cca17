/-
  Walks and laws, one behind the other (part 39).
-/
import Derived.Deep.MidRow
import Derived.Laws.StructEq
import Derived.Test.YtfjdhdeiaakbaaaGreatDoorM38
set_option linter.unusedSimpArgs false
set_option linter.unusedVariables false
/-
  close.Step of any state and any cause.
-/
namespace Go.Proofs.YtfjdhdeiaakbaaaGreatDoor
open Go.RowKit Go.ChangeShapes

theorem fndM_none {s e : Int} : ∀ {l : List (Int × Int × Int)}, (∀ (i : Nat) (m : Int × Int × Int), l[i]? = some m → ¬ (m.1 = s ∧ m.2.1 = e)) → fndM s e l = none
  | [], _ => rfl
  | m :: r, h => by
    rw [fndM, if_neg (h 0 m rfl)]
    exact fndM_none fun i x hx => h (i + 1) x (by simpa using hx)
theorem fndM_at {s e : Int} : ∀ {l : List (Int × Int × Int)} {j : Nat} {m : Int × Int × Int}, l[j]? = some m → m.1 = s ∧ m.2.1 = e → (∀ (i : Nat) (x : Int × Int × Int), i < j → l[i]? = some x → ¬ (x.1 = s ∧ x.2.1 = e)) → fndM s e l = some m.2.2
  | [], j, m, h, _, _ => by simp at h
  | y :: r, 0, m, h, hm, _ => by
    obtain rfl : y = m := by simpa using h
    rw [fndM, if_pos hm]
  | y :: r, j + 1, m, h, hm, hn => by
    rw [fndM, if_neg (hn 0 y (by omega) rfl)]
    exact fndM_at (j := j) (by simpa using h) hm fun i x hi hx => hn (i + 1) x (by omega) (by simpa using hx)
abbrev mvV : Value := .agg (mvL.flatMap mvC).toArray
theorem mv_ix0 (W : World) : (Instr.index 123 mvV (.int .i64 0)).run Tryz.prog W = .ok (.agg #[.int .i64 0, .int .i64 0, .int .i64 1]) W := by kernel_rfl
theorem mv_ix1 (W : World) : (Instr.index 123 mvV (.int .i64 1)).run Tryz.prog W = .ok (.agg #[.int .i64 1, .int .i64 1, .int .i64 2]) W := by kernel_rfl
theorem mv_ix2 (W : World) : (Instr.index 123 mvV (.int .i64 2)).run Tryz.prog W = .ok (.agg #[.int .i64 1, .int .i64 3, .int .i64 4]) W := by kernel_rfl
theorem mv_ix3 (W : World) : (Instr.index 123 mvV (.int .i64 3)).run Tryz.prog W = .ok (.agg #[.int .i64 2, .int .i64 2, .int .i64 3]) W := by kernel_rfl
theorem mv_ix4 (W : World) : (Instr.index 123 mvV (.int .i64 4)).run Tryz.prog W = .ok (.agg #[.int .i64 2, .int .i64 3, .int .i64 5]) W := by kernel_rfl
theorem mv_ix5 (W : World) : (Instr.index 123 mvV (.int .i64 5)).run Tryz.prog W = .ok (.agg #[.int .i64 3, .int .i64 3, .int .i64 7]) W := by kernel_rfl
theorem mv_ix6 (W : World) : (Instr.index 123 mvV (.int .i64 6)).run Tryz.prog W = .ok (.agg #[.int .i64 4, .int .i64 1, .int .i64 6]) W := by kernel_rfl
theorem mv_ix7 (W : World) : (Instr.index 123 mvV (.int .i64 7)).run Tryz.prog W = .ok (.agg #[.int .i64 5, .int .i64 2, .int .i64 7]) W := by kernel_rfl
theorem mv_ix8 (W : World) : (Instr.index 123 mvV (.int .i64 8)).run Tryz.prog W = .ok (.agg #[.int .i64 6, .int .i64 2, .int .i64 7]) W := by kernel_rfl
theorem mv_ix9 (W : World) : (Instr.index 123 mvV (.int .i64 9)).run Tryz.prog W = .ok (.agg #[.int .i64 7, .int .i64 4, .int .i64 8]) W := by kernel_rfl
theorem mv_index (j : Nat) (m : Int × Int × Int) (h : mvL[j]? = some m) (W : World) : (Instr.index 123 mvV (.int .i64 j)).run Tryz.prog W = .ok (.agg #[.int .i64 m.1, .int .i64 m.2.1, .int .i64 m.2.2]) W := by
  have hj : j < 10 := by have := (List.getElem?_eq_some_iff.1 h).1; simpa [mvL] using this
  obtain rfl | rfl | rfl | rfl | rfl | rfl | rfl | rfl | rfl | rfl : j = 0 ∨ j = 1 ∨ j = 2 ∨ j = 3 ∨ j = 4 ∨ j = 5 ∨ j = 6 ∨ j = 7 ∨ j = 8 ∨ j = 9 := by omega
  · simp [mvL] at h
    subst h
    exact mv_ix0 W
  · simp [mvL] at h
    subst h
    exact mv_ix1 W
  · simp [mvL] at h
    subst h
    exact mv_ix2 W
  · simp [mvL] at h
    subst h
    exact mv_ix3 W
  · simp [mvL] at h
    subst h
    exact mv_ix4 W
  · simp [mvL] at h
    subst h
    exact mv_ix5 W
  · simp [mvL] at h
    subst h
    exact mv_ix6 W
  · simp [mvL] at h
    subst h
    exact mv_ix7 W
  · simp [mvL] at h
    subst h
    exact mv_ix8 W
  · simp [mvL] at h
    subst h
    exact mv_ix9 W
set_option maxRecDepth 100000 in
set_option maxHeartbeats 6400000 in
theorem cstep_any (s e : Int) (w : World) (hG : Gm w) :
    Calls Tryz.prog 49 #[.int .i64 s, .int .i64 e] w fun r w' => r = .returned (.tuple #[.int .i64 ((stp s e).getD s), .bool (stp s e).isSome]) ∧ Below w.heap.size w w' := by
  by_cases h5 : e = 5 ∧ 0 ≤ s ∧ s < 8
  · have hs : stp s e = some 8 := if_pos h5
    rw [hs]
    obtain ⟨rfl, h6, h7⟩ := h5
    clear hs hG
    go_enter Tryz.func49, Tryz.ntmps49
    go_wp2_with fail
    first
      | (refine bodyPost_ret (results_tmp2 rfl _ _ _) rfl ?_)
      | go_ret
    exact ⟨rfl, Below.refl _ _⟩
  · have hs : stp s e = fndM s e mvL := if_neg h5
    rw [hs]
    have HM : w.rangeAt 0 0 (mvL.flatMap mvC) := fun j v hv => by rw [Nat.zero_add]; exact hG.2 j v hv
    have HG := Keep.mk hG
    clear hG hs
    obtain ⟨mv, hmv⟩ : ∃ mv, mvV = mv := ⟨_, rfl⟩
    have IX : ∀ (j : Nat) (m : Int × Int × Int), mvL[j]? = some m → ∀ W : World, (Instr.index 123 mv (.int .i64 j)).run Tryz.prog W = .ok (.agg #[.int .i64 m.1, .int .i64 m.2.1, .int .i64 m.2.2]) W := fun j m h W => hmv ▸ mv_index j m h W
    have HIX := Lib.hid IX
    clear IX
    have hg : (e == 5) = false ∨ ((e == 5) = true ∧ decide (0 ≤ s) = false) ∨ ((e == 5) = true ∧ decide (0 ≤ s) = true ∧ decide (s < 8) = false) := by
      by_cases a : e = 5
      · by_cases b : 0 ≤ s
        · exact .inr (.inr ⟨by simp [a], by simp [b], by simp <;> omega⟩)
        · exact .inr (.inl ⟨by simp [a], by simp <;> omega⟩)
      · exact .inl (by simp [a])
    clear h5
    rcases hg with g1 | ⟨g1, g2⟩ | ⟨g1, g2, g3⟩
    all_goals
      go_enter Tryz.func49, Tryz.ntmps49
      go_wp2_with (first
        | (refine wpList_load_mid rfl 123 (.global 0) rfl 0 0 rfl (mvL.flatMap mvC) _ HM Tryz.underlying123 rfl (by kernel_rfl) ?_)
        | fail)
      clear HM
      go_loopw [19] (fun I wr => ∃ j : Nat, j ≤ 10 ∧ I = .int .i64 j ∧ Keep (Below w.heap.size w wr) ∧ Keep (∀ (i : Nat) (m : Int × Int × Int), i < j → mvL[i]? = some m → ¬ (m.1 = s ∧ m.2.1 = e))) (fun i _ => 10 - (intOf i).toNat)
      case atStart => exact ⟨0, by omega, rfl, ⟨Below.refl _ _⟩, ⟨fun i m hi => by omega⟩⟩
      case round =>
        obtain ⟨j, hj, rfl, HB, HN⟩ := hrel
        rcases Nat.lt_or_ge j 10 with hlt | hge
        · obtain ⟨⟨f, b, t⟩, hm⟩ : ∃ m, mvL[j]? = some m := ⟨_, List.getElem?_eq_getElem (by simpa [mvL] using hlt)⟩
          have ix := HIX.out j _ hm wr
          have hlti : ((j : Nat) : Int) < 10 := by omega
          obtain ⟨W, hW⟩ : ∃ W, wr.alloc (.cells #[.int .i64 f, .int .i64 b, .int .i64 t] 122) = W := ⟨_, rfl⟩
          have NB : Bk W wr.heap.size #[.int .i64 f, .int .i64 b, .int .i64 t] 122 := hW ▸ Bk.new wr _ _
          have s0 : W.cell? ⟨wr.heap.size, 0, none⟩ = some (.int .i64 f) := NB.c 0
          have s1 : W.cell? ⟨wr.heap.size, 1, none⟩ = some (.int .i64 b) := NB.c 1
          have s2 : W.cell? ⟨wr.heap.size, 2, none⟩ = some (.int .i64 t) := NB.c 2
          have BW : Keep (Below w.heap.size w W) := ⟨hW ▸ HB.out.alloc HB.out.size _⟩
          have HJ := Keep.mk hm
          clear NB hm
          by_cases e1 : f = s
          · by_cases e2 : b = e
            · subst e1 e2
              go_wp2_with fail
              first
                | (refine bodyPost_ret (results_tmp2 rfl _ _ _) rfl ?_)
                | go_ret
              have hf := fndM_at HJ.out ⟨rfl, rfl⟩ HN.out
              exact ⟨by rw [hf]; rfl, BW.out⟩
            · have d1 : (f == s) = true := by simp [e1]
              have d2 : (b == e) = false := by simp [e2]
              have NX : Keep (∀ (i : Nat) (m : Int × Int × Int), i < j + 1 → mvL[i]? = some m → ¬ (m.1 = s ∧ m.2.1 = e)) := ⟨fun i m hi hx hh => by
                rcases Nat.lt_or_ge i j with h1 | h1
                · exact HN.out i m h1 hx hh
                · obtain rfl : i = j := by omega
                  rw [HJ.out] at hx
                  cases hx
                  exact e2 hh.2⟩
              clear e1 e2
              go_wp2_with fail
              go_roundw
              case rel => exact ⟨j + 1, by omega, by go_num, BW, NX⟩
              case measure => simp [intOf] <;> omega
          · have d1 : (f == s) = false := by simp [e1]
            have NX : Keep (∀ (i : Nat) (m : Int × Int × Int), i < j + 1 → mvL[i]? = some m → ¬ (m.1 = s ∧ m.2.1 = e)) := ⟨fun i m hi hx hh => by
              rcases Nat.lt_or_ge i j with h1 | h1
              · exact HN.out i m h1 hx hh
              · obtain rfl : i = j := by omega
                rw [HJ.out] at hx
                cases hx
                exact e1 hh.1⟩
            clear e1
            go_wp2_with fail
            go_roundw
            case rel => exact ⟨j + 1, by omega, by go_num, BW, NX⟩
            case measure => simp [intOf] <;> omega
        · obtain rfl : j = 10 := by omega
          go_wp2_with fail
          first
            | (refine bodyPost_ret (results_tmp2 rfl _ _ _) rfl ?_)
            | go_ret
          have hf : fndM s e mvL = none := fndM_none fun i m hx => HN.out i m (by have := (List.getElem?_eq_some_iff.1 hx).1; simpa [mvL] using this) hx
          exact ⟨by rw [hf]; rfl, HB.out⟩
end Go.Proofs.YtfjdhdeiaakbaaaGreatDoor
