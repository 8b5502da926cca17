/-
  The contract of slices.DeleteFunc with Cancel's closure.
-/
import Derived.Test.YtcjanieeepcddaaGreatDoorWhF
namespace Go.Proofs.YtcjanieeepcddaaGreatDoor
open Go.RowKit

theorem flat_set (a b : Int) : ∀ (L : List Due) (i : Nat), i < L.length → ((L.flatMap dueC).set (i * 2) (.int .i64 a)).set (i * 2 + 1) (.int .i64 b) = (L.set i (a, b)).flatMap dueC
  | x :: r, 0, _ => rfl
  | x :: r, i + 1, h => by
    have := flat_set a b r i (by simpa using h)
    rw [List.set_cons_succ, List.flatMap_cons, List.flatMap_cons, ← this]
    rw [show (i + 1) * 2 = i * 2 + 1 + 1 by omega]
    rfl
theorem flat_take : ∀ (L : List Due) (i : Nat), (L.flatMap dueC).take (i * 2) = (L.take i).flatMap dueC
  | [], i => by simp
  | x :: r, 0 => by simp
  | x :: r, i + 1 => by
    have := flat_take r i
    rw [List.take_succ_cons, List.flatMap_cons, List.flatMap_cons, ← this, show (i + 1) * 2 = i * 2 + 1 + 1 by omega]
    rfl

section
variable {w w' : World} {base g n c : Nat} {L : List Due}
theorem own_set (h : w.ownsRow base 72 2 (.slice (some ⟨g, 0, none⟩) n c) n (L.flatMap dueC)) (hL : L.length = n) (i : Nat) (hi : i < n) (a b : Int) :
    ((w.setCell ⟨g, i * 2, none⟩ (.int .i64 a)).setCell ⟨g, i * 2 + 1, none⟩ (.int .i64 b)).ownsRow base 72 2 (.slice (some ⟨g, 0, none⟩) n c) n ((L.set i (a, b)).flatMap dueC) := by
  obtain ⟨hl, h⟩ := h
  have hl2 : ((L.set i (a, b)).flatMap dueC).length = n * 2 := by rw [← flat_set a b L i (by omega)]; simpa using hl
  refine ⟨hl2, ?_⟩
  rcases h with ⟨e, _⟩ | ⟨g', cap, cur, hv, hb, hg, h1, h2, h3, h4⟩
  · cases e
  · cases hv
    refine .inr ⟨g, c, _, rfl, hb, cells_set (cells_set hg (i * 2) _) (i * 2 + 1) _, h1, h2, by simpa using h3, ?_⟩
    rw [Array.toList_setIfInBounds, Array.toList_setIfInBounds, List.take_set, List.take_set, h4, flat_set a b L i (by omega)]
theorem own_cut (h : w.ownsRow base 72 2 (.slice (some ⟨g, 0, none⟩) n c) n (L.flatMap dueC)) (hL : L.length = n) (i : Nat) (hi : i ≤ n) :
    w.ownsRow base 72 2 (.slice (some ⟨g, 0, none⟩) i c) i ((L.take i).flatMap dueC) := by
  obtain ⟨hl, h⟩ := h
  have h5 : (L.take i).length = i := by rw [List.length_take]; omega
  have hl2 : ((L.take i).flatMap dueC).length = i * 2 := by rw [← flat_take, List.length_take, hl]; omega
  refine ⟨hl2, ?_⟩
  rcases h with ⟨e, _⟩ | ⟨g', cap, cur, hv, hb, hg, h1, h2, h3, h4⟩
  · cases e
  · cases hv
    refine .inr ⟨g, c, cur, rfl, hb, hg, by omega, h2, h3, ?_⟩
    rw [← flat_take, ← h4, List.take_take, Nat.min_eq_left (by omega)]
theorem setCells_block {t : TypeId} : ∀ (vs : List Value) (o : Nat) (w : World) (arr : Array Value), w.heap[g]? = some (.cells arr t (0, 0)) →
    ∃ arr' : Array Value, (w.setCells g o vs).heap[g]? = some (.cells arr' t (0, 0)) ∧ arr'.size = arr.size ∧ arr'.toList.take o = arr.toList.take o
  | [], o, w, arr, h => ⟨arr, h, rfl, rfl⟩
  | v :: r, o, w, arr, h => by
    obtain ⟨arr', h1, h2, h3⟩ := setCells_block r (o + 1) (w.setCell ⟨g, o, none⟩ v) _ (cells_set h o v)
    refine ⟨arr', h1, by simpa using h2, ?_⟩
    have := congrArg (List.take o) h3
    rw [List.take_take, List.take_take, Nat.min_eq_left (by omega), Array.toList_setIfInBounds, List.take_set] at this
    rw [this, List.set_eq_of_length_le (by simp; omega)]
theorem own_wiped (h : w.ownsRow base 72 2 (.slice (some ⟨g, 0, none⟩) n c) n (L.flatMap dueC)) (vs : List Value) :
    (w.setCells g (n * 2) vs).ownsRow base 72 2 (.slice (some ⟨g, 0, none⟩) n c) n (L.flatMap dueC) := by
  obtain ⟨hl, h⟩ := h
  refine ⟨hl, ?_⟩
  rcases h with ⟨e, _⟩ | ⟨g', cap, cur, hv, hb, hg, h1, h2, h3, h4⟩
  · cases e
  · cases hv
    obtain ⟨arr', e1, e2, e3⟩ := setCells_block vs (n * 2) w cur hg
    exact .inr ⟨g, c, arr', rfl, hb, e1, h1, h2, by rw [e2, h3], by rw [e3, h4]⟩
theorem own_there (h : w.ownsRow base 72 2 (.slice (some ⟨g, 0, none⟩) n c) n (L.flatMap dueC)) (j : Nat) (hj : j < c * 2) : (w.cell? ⟨g, j, none⟩).isSome = true ∧ w.frozen? ⟨g, j, none⟩ = false := by
  obtain ⟨hl, h⟩ := h
  rcases h with ⟨e, _⟩ | ⟨g', cap, cur, hv, hb, hg, h1, h2, h3, h4⟩
  · cases e
  · cases hv
    refine ⟨?_, by simp [World.frozen?, hg]⟩
    rw [cell_of_row w g j _ _ (0, 0) hg]
    simp [h3, hj]
end

theorem grown_setCells {w w' : World} {g : Nat} (h : w.grownBy w' (some g)) (o : Nat) (vs : List Value) : w.grownBy (w'.setCells g o vs) (some g) where
  os := (World.keptBut_setCells g (may := fun _ => True) vs o w' (fun _ _ => trivial)).1.trans h.os
  tape := by
    have : ∀ (vs : List Value) (o : Nat) (w : World), (w.setCells g o vs).tape = w.tape := fun vs => by
      induction vs with
      | nil => intro o w; rfl
      | cons v r ih => intro o w; exact (ih (o + 1) _).trans rfl
    exact (this vs o w').trans h.tape
  output := (World.keptBut_setCells g (may := fun _ => True) vs o w' (fun _ _ => trivial)).2.1.trans h.output
  size := by
    have : ∀ (vs : List Value) (o : Nat) (w : World), (w.setCells g o vs).heap.size = w.heap.size := fun vs => by
      induction vs with
      | nil => intro o w; rfl
      | cons v r ih => intro o w; exact (ih (o + 1) _).trans (by simp)
    rw [this]; exact h.size
  block := fun i hi hne => by
    have : ∀ (vs : List Value) (o : Nat) (w : World), (w.setCells g o vs).heap[i]? = w.heap[i]? := fun vs => by
      induction vs with
      | nil => intro o w; rfl
      | cons v r ih => intro o w; exact (ih (o + 1) _).trans (Below.heap_setCell _ _ _ _ (fun e => hne (by rw [e])))
    rw [this]; exact h.block i hi hne

theorem run_clear_due (w : World) (ty : TypeId) (g o n c : Nat) (hn : 0 < n) (hc : ∀ j, j < n * 2 → (w.cell? ⟨g, o + j, none⟩).isSome = true) (hf : ∀ j, j < n * 2 → w.frozen? ⟨g, o + j, none⟩ = false) :
    (Builtin.clear_ #[69] ty #[.slice (some ⟨g, o, none⟩) n c]).run Tryz.prog w = .ok (.tuple #[]) (w.setCells g o (List.replicate (n * 2) (.int .i64 0))) := by
  have hv : ∀ w, (zeroValue 72).run Tryz.prog w = .ok (.agg #[.int .i64 0, .int .i64 0]) w := Tryz.zeroValue72
  have hzc : (Builtin.zeroCells (Value.agg #[.int .i64 0, .int .i64 0]).cells n).toList = List.replicate (n * 2) (.int .i64 0) := by
    simp only [Builtin.zeroCells, Value.cells]
    apply List.ext_getElem
    · simp
    · intro i h1 h2
      have hm : i % 2 = 0 ∨ i % 2 = 1 := by omega
      rcases hm with hm | hm <;> simp [hm]
  have hst := run_storeCells_cells (P := Tryz.prog) g o (List.replicate (n * 2) (.int .i64 0)) 0 w (by simpa using hc) (by simpa using hf) (by intro v hv'; rw [List.eq_of_mem_replicate hv']; rfl)
  simp only [Nat.add_zero] at hst
  obtain ⟨m, rfl⟩ : ∃ m, n = m + 1 := ⟨n - 1, by omega⟩
  simp [Builtin.clear_, run_underlying Tryz.underlying69, hv, hzc, hst]
end Go.Proofs.YtcjanieeepcddaaGreatDoor
