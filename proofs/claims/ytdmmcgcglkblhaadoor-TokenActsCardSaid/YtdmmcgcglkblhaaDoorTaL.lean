/-
  What both tables answer when a key is taken.
-/
import Derived.Test.YtdmmcgcglkblhaaDoorRtF
import Derived.Test.YtdmmcgcglkblhaaDoorRtG
import Derived.Test.YtdmmcgcglkblhaaDoorTaA
namespace Go.Proofs.YtdmmcgcglkblhaaDoor
open Go.RowKit Go.Maps

/-- The first key that can be taken. -/
def First (M : Int → Option En) (ks : List Int) (i : Nat) (key : Int) : Prop := ks[i]? = some key ∧ (∀ x ∈ ks.take i, (M (tokN x)).isSome = true) ∧ M (tokN key) = none
theorem first_or (M : Int → Option En) : ∀ ks : List Int, (∀ x ∈ ks, (M (tokN x)).isSome = true) ∨ ∃ i key, First M ks i key
  | [] => .inl (by simp)
  | x :: r => by
    cases hx : M (tokN x) with
    | none => exact .inr ⟨0, x, rfl, by simp, hx⟩
    | some e =>
      rcases first_or M r with h | ⟨i, key, h1, h2, h3⟩
      · refine .inl fun y hy => ?_
        rcases List.mem_cons.1 hy with rfl | h4
        · rw [hx]; rfl
        · exact h y h4
      · refine .inr ⟨i + 1, key, h1, fun y hy => ?_, h3⟩
        rw [List.take_succ_cons] at hy
        rcases List.mem_cons.1 hy with rfl | h4
        · rw [hx]; rfl
        · exact h2 y h4
theorem First.lt {M : Int → Option En} {ks : List Int} {i j : Nat} {a b : Int} (h : First M ks i a) (h' : First M ks j b) : ¬ i < j := fun hl => by
  have h1 : (ks.take j)[i]? = some a := by rw [List.getElem?_take_of_lt hl]; exact h.1
  have := h'.2.1 a (List.mem_of_getElem? h1)
  rw [h.2.2] at this
  cases this
theorem First.uniq {M : Int → Option En} {ks : List Int} {i j : Nat} {a b : Int} (h : First M ks i a) (h' : First M ks j b) : i = j ∧ a = b := by
  have h1 := h.lt h'
  have h2 := h'.lt h
  obtain rfl : i = j := by omega
  refine ⟨rfl, ?_⟩
  have := h.1.symm.trans h'.1
  injection this
theorem First.not {M : Int → Option En} {ks : List Int} {i : Nat} {a : Int} (h : First M ks i a) (hn : ∀ x ∈ ks, (M (tokN x)).isSome = true) : False := by
  have := hn a (List.mem_of_getElem? h.1)
  rw [h.2.2] at this
  cases this
section
variable {w w' : World} {base b m nb k rb : Nat} {most o : Int} {M : Int → Option En} {ks : List Int} {e : Ending} {v : Value} {L : List Te}
theorem Took.at {i : Nat} {key : Int} (h : Took w base b m nb most M k o ks e w') (hk : (k : Int) ≠ most) (hf : First M ks i key) :
    e = .returned (.tuple #[.int .u64 key, .int .i64 i, .int .i64 0]) ∧ Tb w' base b m (nb + 1) most (setT M (tokN key) (some ⟨o, true, 0⟩)) (k + 1) ∧ Ft w w' m := by
  rcases h with ⟨h, _⟩ | ⟨_, h, _⟩ | ⟨_, i', key', h1, h2, h3, h4, h5⟩
  · exact absurd h hk
  · exact (hf.not h).elim
  · obtain ⟨rfl, rfl⟩ := hf.uniq ⟨h1, h2, h3⟩
    exact ⟨h4, h5⟩
theorem TookR.nobody (hl : Lk L M) (h : TookR w base rb v most o L ks e w') (hn : ∀ x ∈ ks, (M (tokN x)).isSome = true) : e = .returned (.agg #[.int .u64 0, .int .i64 ks.length, .int .i64 6]) ∧ Below w.heap.size w w' := by
  rcases h with ⟨_, h⟩ | ⟨i, key, h1, h2, h3, _⟩
  · exact h
  · exact (First.not (M := M) ⟨h1, fun x hx => hl.has.1 (h2 x hx), hl.lacks.1 h3⟩ hn).elim
theorem TookR.at {i : Nat} {key : Int} (hl : Lk L M) (h : TookR w base rb v most o L ks e w') (hf : First M ks i key) :
    e = .returned (.agg #[.int .u64 key, .int .i64 i, .int .i64 0]) ∧ ∃ v', Rt w' base rb v' most (L ++ [(tokN key, ⟨o, true, 0⟩)]) ∧ Fa10 w w' rb v v' := by
  rcases h with ⟨h, _⟩ | ⟨i', key', h1, h2, h3, h4⟩
  · exact (hf.not fun x hx => hl.has.1 (h x hx)).elim
  · obtain ⟨rfl, rfl⟩ := hf.uniq ⟨h1, fun x hx => hl.has.1 (h2 x hx), hl.lacks.1 h3⟩
    exact h4
end

/-- What a round needs of the list. -/
structure Fit (most : Int) (L : List Te) : Prop where
  len : (L.length : Int) ≤ most
  off : ∀ x ∈ L, x.2.l = false → x.2.o = 0
  tok : ∀ x ∈ L, wfU x.1
section
variable {most : Int} {L : List Te} {t : Int} {e : En}
theorem Fit.new (h : 1 ≤ most) : Fit most [] := ⟨by simp; omega, by simp, by simp⟩
theorem Fit.take (h : Fit most L) (hne : (L.length : Int) ≠ most) (ht : wfU t) (he : e.l = true) : Fit most (L ++ [(t, e)]) where
  len := by have := h.len; rw [List.length_append, List.length_singleton]; omega
  off := fun x hx hl => by
    rcases List.mem_append.1 hx with h1 | h1
    · exact h.off x h1 hl
    · obtain rfl : x = (t, e) := by simpa using h1
      rw [he] at hl; cases hl
  tok := fun x hx => by
    rcases List.mem_append.1 hx with h1 | h1
    · exact h.tok x h1
    · obtain rfl : x = (t, e) := by simpa using h1
      exact ht
theorem Fit.free (h : Fit most L) {i : Nat} {u : Int} {e' : En} (hi : L[i]? = some (t, e')) : Fit most (L.set i (t, ⟨0, false, u⟩)) where
  len := by rw [List.length_set]; exact h.len
  off := fun x hx hl => by
    rcases List.mem_or_eq_of_mem_set hx with h1 | rfl
    · exact h.off x h1 hl
    · rfl
  tok := fun x hx => by
    rcases List.mem_or_eq_of_mem_set hx with h1 | rfl
    · exact h.tok x h1
    · exact h.tok (t, e') (List.mem_of_getElem? hi)
theorem Fit.filter (h : Fit most L) (p : Te → Bool) : Fit most (L.filter p) where
  len := by have := h.len; have := List.length_filter_le p L; omega
  off := fun x hx => h.off x (List.mem_filter.1 hx).1
  tok := fun x hx => h.tok x (List.mem_filter.1 hx).1
end
end Go.Proofs.YtdmmcgcglkblhaaDoor
