/-
  The plain law of the reference: the one that is due first; what falls due, one by one.
-/
import Derived.Test.YtmjmiadogniopaaWhTwo
namespace Go.Proofs.Ytmjmiadogniopaa
open Go.RowKit

theorem lexle_trans {a b c : Due} (h : lexle a b) (h' : lexle b c) : lexle a c := by
  unfold lexle at *; omega
theorem lexle_refl (a : Due) : lexle a a := by unfold lexle; omega
/-- Of the first j: the place of the first that is due (-1: none). -/
def FirstUp (L : List Due) (j : Nat) (i : Int) : Prop := (j = 0 ∧ i = -1) ∨ ∃ (k : Nat) (d : Due), i = (k : Int) ∧ k < j ∧ L[k]? = some d ∧ ∀ x ∈ L.take j, lexle d x
theorem FirstUp.take {L : List Due} {j : Nat} {x : Due} (hx : L[j]? = some x) {y : Due} (hy : y ∈ L.take (j + 1)) : y ∈ L.take j ∨ y = x := by
  rw [List.take_add_one, hx] at hy
  rcases List.mem_append.1 hy with h | h
  · exact .inl h
  · exact .inr (by simpa using h)
theorem FirstUp.one {L : List Due} {x : Due} (hx : L[0]? = some x) : FirstUp L 1 0 :=
  .inr ⟨0, x, rfl, by omega, hx, fun y hy => by
    rcases FirstUp.take hx hy with h | h
    · simp at h
    · rw [h]; exact lexle_refl _⟩
theorem FirstUp.turn {L : List Due} {j : Nat} {x d : Due} (hx : L[j]? = some x) (hd : ∀ y ∈ L.take j, lexle d y) (h : lexle x d) : FirstUp L (j + 1) j :=
  .inr ⟨j, x, rfl, by omega, hx, fun y hy => by
    rcases FirstUp.take hx hy with h1 | h1
    · exact lexle_trans h (hd y h1)
    · rw [h1]; exact lexle_refl _⟩
theorem FirstUp.stay {L : List Due} {j k : Nat} {x d : Due} (hx : L[j]? = some x) (hk : k < j) (hL : L[k]? = some d) (hd : ∀ y ∈ L.take j, lexle d y) (h : lexle d x) : FirstUp L (j + 1) k :=
  .inr ⟨k, d, rfl, by omega, hL, fun y hy => by
    rcases FirstUp.take hx hy with h1 | h1
    · exact hd y h1
    · rw [h1]; exact h⟩
/-- The place of the first that is due. -/
def IsFirst (L : List Due) (i : Int) : Prop := (L = [] ∧ i = -1) ∨ ∃ (k : Nat) (d : Due), i = (k : Int) ∧ k < L.length ∧ L[k]? = some d ∧ ∀ x ∈ L, lexle d x
theorem FirstUp.done {L : List Due} {i : Int} (h : FirstUp L L.length i) : IsFirst L i := by
  rcases h with ⟨h1, h2⟩ | ⟨k, d, h1, h2, h3, h4⟩
  · exact .inl ⟨List.length_eq_zero_iff.1 h1, h2⟩
  · rw [List.take_length] at h4
    exact .inr ⟨k, d, h1, h2, h3, h4⟩

/-- What has fallen due up to now (O), what is left (X), of L, till the tick t. -/
structure Fall (t : Int) (L X O : List Due) : Prop where
  rest : X = L.filter fun d => decide (d.1 ∉ O.map (·.1))
  sub : ∀ o ∈ O, o ∈ L ∧ o.2 ≤ t
  nodup : (O.map (·.1)).Nodup
  sorted : O.Pairwise lexle
  low : ∀ o ∈ O, ∀ x ∈ X, lexle o x
theorem Fall.start (t : Int) (L : List Due) : Fall t L L [] where
  rest := by rw [List.filter_eq_self.2]; intro d _; simp
  sub := by simp
  nodup := by simp
  sorted := .nil
  low := by simp
theorem Fall.step {t : Int} {L X O : List Due} (h : Fall t L X O) {d : Due} (hd : d ∈ X) (ht : d.2 ≤ t) (hf : ∀ x ∈ X, lexle d x) : Fall t L (dropH d.1 X) (O ++ [d]) where
  rest := by
    unfold dropH
    rw [h.rest, List.filter_filter]
    apply List.filter_congr
    intro x _
    simp only [List.map_append, List.mem_append, List.map_cons, List.map_nil, List.mem_singleton, not_or]
    by_cases e1 : x.1 = d.1 <;> by_cases e2 : x.1 ∈ O.map (·.1) <;> simp [e1, e2]
  sub := fun o ho => by
    rcases List.mem_append.1 ho with h1 | h1
    · exact h.sub o h1
    · obtain rfl : o = d := by simpa using h1
      rw [h.rest] at hd
      exact ⟨(List.mem_filter.1 hd).1, ht⟩
  nodup := by
    rw [h.rest] at hd
    have h1 := of_decide_eq_true (List.mem_filter.1 hd).2
    rw [List.map_append, List.nodup_append]
    refine ⟨h.nodup, by simp, fun a ha c hc e => h1 ?_⟩
    obtain rfl : c = d.1 := by simpa using hc
    exact e ▸ ha
  sorted := by
    rw [List.pairwise_append]
    refine ⟨h.sorted, by simp, fun a ha c hc => ?_⟩
    obtain rfl : c = d := by simpa using hc
    exact h.low a ha c hd
  low := fun o ho x hx => by
    have hx2 := (List.mem_filter.1 hx).1
    rcases List.mem_append.1 ho with h1 | h1
    · exact h.low o h1 x hx2
    · obtain rfl : o = d := by simpa using h1
      exact hf x hx2
theorem nodup_of_map {L : List Due} (h : (L.map (·.1)).Nodup) : L.Nodup := by
  induction L with
  | nil => exact .nil
  | cons d r ih =>
    obtain ⟨h1, h2⟩ := List.nodup_cons.1 h
    exact List.nodup_cons.2 ⟨fun hm => h1 (List.mem_map_of_mem hm), ih h2⟩
theorem Fall.done {t : Int} {L X O : List Due} (h : Fall t L X O) (hn : (L.map (·.1)).Nodup) (hX : ∀ x ∈ X, t < x.2) : Adv t L X O := by
  have hm : ∀ d ∈ L, (d.1 ∈ O.map (·.1) ↔ d ∈ O) := fun d hd => ⟨fun hh => by
    obtain ⟨o, ho, e⟩ := List.mem_map.1 hh
    rw [← nodup_inj hn (h.sub o ho).1 hd e]
    exact ho, List.mem_map_of_mem⟩
  have hi : ∀ d ∈ L, d ∉ O → t < d.2 := fun d hd hh => hX d (by
    rw [h.rest]
    exact List.mem_filter.2 ⟨hd, decide_eq_true (fun e => hh ((hm d hd).1 e))⟩)
  refine ⟨?_, ?_, h.sorted⟩
  · rw [h.rest]
    apply List.filter_congr
    intro d hd
    by_cases e : d ∈ O
    · have h1 := (h.sub d e).2
      have h2 : d.1 ∈ O.map (·.1) := (hm d hd).2 e
      have h3 : ¬ t < d.2 := by omega
      simp only [h2, h3, not_true]
    · have h1 := hi d hd e
      have h2 : d.1 ∉ O.map (·.1) := fun x => e ((hm d hd).1 x)
      simp only [h1, h2, not_false_eq_true]
  · refine (List.perm_ext_iff_of_nodup (nodup_of_map h.nodup) ((nodup_of_map hn).filter _)).2 fun d => ?_
    rw [List.mem_filter]
    refine ⟨fun hd => ⟨(h.sub d hd).1, decide_eq_true (h.sub d hd).2⟩, fun ⟨h1, h2⟩ => ?_⟩
    have h2 := of_decide_eq_true h2
    by_cases e : d ∈ O
    · exact e
    · have := hi d h1 e; omega
/-- Of the first that is due nothing is due: nothing at all is. -/
theorem IsFirst.none_due {L : List Due} {i t : Int} (h : IsFirst L i) (hi : ∀ (k : Nat) (d : Due), i = (k : Int) → L[k]? = some d → t < d.2) : ∀ x ∈ L, t < x.2 := fun x hx => by
  rcases h with ⟨rfl, _⟩ | ⟨k, d, h1, _, h3, h4⟩
  · cases hx
  · have a := hi k d h1 h3
    have b := h4 x hx
    unfold lexle at b
    omega
theorem adv_eq {n : Int} {L L1 L2 O1 O2 : List Due} (hn : (L.map (·.1)).Nodup) (h : Adv n L L1 O1) (h' : Adv n L L2 O2) : O1 = O2 ∧ L1 = L2 := adv_one hn h h' fun _ _ => Iff.rfl
end Go.Proofs.Ytmjmiadogniopaa
