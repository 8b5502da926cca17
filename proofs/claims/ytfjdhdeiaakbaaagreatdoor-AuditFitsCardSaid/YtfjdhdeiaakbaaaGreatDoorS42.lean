/-
  Walks and laws, one behind the other (part 42).
-/
import Derived.Lib.LazyBuf
import Derived.Test.YtfjdhdeiaakbaaaGreatDoorS8
import Derived.Test.YtfjdhdeiaakbaaaGreatDoorS10
set_option linter.unusedSimpArgs false
set_option linter.unusedVariables false
/-
  Spans: a set of runs; Runs, Many.
-/
namespace Go.Proofs.YtfjdhdeiaakbaaaGreatDoor
open Go.RowKit

/-- A set of runs: its block, its row. -/
structure Sp (w : World) (lo sb : Nat) (l : List Due) : Prop where
  ex : ∃ v, Bk w sb #[v] 388 ∧ w.ownsRow lo 379 2 v l.length (l.flatMap dueC)
theorem infoRun : (Tryz.prog.info? 379).map (fun i => (i.zero, i.size, i.bytes)) = some (some (.agg #[.int .i64 0, .int .i64 0]), 2, 16) := by kernel_rfl
theorem dueC_one (x : Due) : ∀ u ∈ dueC x, u.oneCell' = true := by simp [dueC, Value.oneCell']
set_option maxRecDepth 100000 in
theorem to_any (a b : Int) (w : World) (h1 : -9223372036854775808 ≤ a + b) (h2 : a + b < 9223372036854775808) : Calls Tryz.prog 347 #[.agg #[.int .i64 a, .int .i64 b]] w fun e w' => e = .returned (.int .i64 (a + b)) ∧ Below w.heap.size w w' := by
  have q : IntKind.i64.wrap (a + b) = a + b := IntWalk.i64_in _ (by omega)
  clear h1 h2
  have HB : Keep (Below w.heap.size w (w.alloc (.cells #[.int .i64 a, .int .i64 b] 379))) := ⟨(Below.refl _ w).alloc (Nat.le_refl _) _⟩
  go_enter Tryz.func347, Tryz.ntmps347
  go_wp2_with fail
  go_ret
  exact ⟨rfl, HB.out⟩
set_option maxRecDepth 100000 in
set_option maxHeartbeats 1600000 in
/-- A copy of a row of runs. -/
theorem rclone_any {w : World} {lo : Nat} {v : Value} {l : List Due} (h : w.ownsRow lo 379 2 v l.length (l.flatMap dueC)) (hl : l.length ≤ 1000000) :
    Calls Tryz.prog 355 #[v] w fun e w' => ∃ v', e = .returned v' ∧ w'.ownsRow w.heap.size 379 2 v' l.length (l.flatMap dueC) ∧ Below w.heap.size w w' := by
  obtain ⟨A, c, rfl, hc⟩ := own_slice h
  have HR := Keep.mk (Rd.of_own dueC_length (by decide) h)
  have HL := Keep.mk hl
  obtain ⟨i0, hi, hz0, hz1, hz2⟩ := info_parts infoRun
  have HI : Keep (Tryz.prog.info? 379 = some i0 ∧ i0.zero = some (.agg #[.int .i64 0, .int .i64 0]) ∧ i0.size = 2 ∧ i0.bytes = 16) := ⟨hi, hz0, hz1, hz2⟩
  have HN : Keep (A = none → c = 0 ∧ l = []) := ⟨fun e => by
    subst e
    rcases h.2 with ⟨e, e2⟩ | ⟨g, cap, cur, e, _⟩
    · injection e with _ _ e3
      exact ⟨e3, List.eq_nil_of_length_eq_zero e2⟩
    · cases e⟩
  have hq : ∀ w', (binOp .eql 376 (.slice A l.length c) (.slice none 0 0)).run Tryz.prog w' = .ok (.bool A.isNone) w' := fun w' => run_eql_slice_nil w' _ _ A l.length c Tryz.underlying376
  clear h hl hc hi hz0 hz1 hz2
  cases A with
  | none =>
    obtain ⟨rfl, rfl⟩ := HN.out rfl
    have hq2 : ∀ w', (binOp .eql 376 (.slice none 0 0) (.slice none 0 0)).run Tryz.prog w' = .ok (.bool true) w' := hq
    clear hq
    show Calls Tryz.prog 355 #[.slice none 0 0] w _
    go_enter Tryz.func355, Tryz.ntmps355
    go_wp2_with fail
    go_ret
    exact ⟨_, rfl, World.ownsRow_nil _ _ _ _, Below.refl _ _⟩
  | some a =>
    go_enter Tryz.func355, Tryz.ntmps355
    go_wp2_with (first
      | (refine wpList_append_rd rfl (.tmp 5) (.tmp 6) 376 rfl w.heap.size 379 i0 _ 2 16 Tryz.underlying376 HI.out.1 HI.out.2.1 HI.out.2.2.1 HI.out.2.2.2 rfl (by omega) (.slice (some ⟨w.heap.size, 0, none⟩) 0 0) 0 [] rfl (World.ownsRow_made w #[] 0 (Nat.le_refl _) (Nat.zero_le _) (by simp)) (some a) l.length c w.heap.size dueC l rfl (by intro e; cases e) rfl dueC_length (HR.out.below ((Below.refl _ w).alloc (Nat.le_refl _) _)) dueC_one (by unfold maxLen; have := HL.out; omega) (by have := HL.out; omega) (by simp) ?_
         intro v' w3 ho3 hg3 hv3
         have HO3 := Keep.mk ho3
         have B3 : Keep (Below w.heap.size w w3) := ⟨((Fz.alloc w (.cells #[] 379)).trans (Fz.grown hg3)).toBelow (Nat.le_refl _) (by simp [Value.ownBlock])⟩
         obtain ⟨A3, n3, c3, rfl⟩ : ∃ A n c, v' = .slice A n c := let ⟨A, c, h, _⟩ := own_slice ho3; ⟨A, _, c, h⟩
         clear ho3 hg3 hv3)
      | fail)
    go_ret
    exact ⟨_, rfl, by simpa using HO3.out, B3.out⟩
end Go.Proofs.YtfjdhdeiaakbaaaGreatDoor
