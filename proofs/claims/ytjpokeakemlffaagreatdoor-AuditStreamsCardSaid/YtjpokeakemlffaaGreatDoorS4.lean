/-
  Walks and laws, one behind the other (part 4).
-/
import Derived.Deep.Slices
import Derived.Test.YtjpokeakemlffaaGreatDoorS3
set_option linter.unusedSimpArgs false
set_option linter.unusedVariables false
/-
  A slice of rows that came in, opened.
-/
namespace Go.Proofs.YtjpokeakemlffaaGreatDoor
open Go.RowKit Go.ChangeShapes Go.WideShapes Go.ChangeAt Go.Deep
theorem choose_list {α : Type} (p : Nat → α → Prop) : ∀ n, (∀ i, i < n → ∃ x, p i x) → ∃ l : List α, l.length = n ∧ ∀ i x, l[i]? = some x → p i x
  | 0, _ => ⟨[], rfl, fun i x h => by simp at h⟩
  | n + 1, h => by
    obtain ⟨l, hl, hp⟩ := choose_list p n fun i hi => h i (by omega)
    obtain ⟨x, hx⟩ := h n (by omega)
    refine ⟨l ++ [x], by simp [hl], fun i y hy => ?_⟩
    rcases Nat.lt_or_ge i l.length with hi | hi
    · rw [List.getElem?_append_left hi] at hy
      exact hp i y hy
    · rw [List.getElem?_append_right hi] at hy
      have : i = n := by
        have := (List.getElem?_eq_some_iff.1 hy).1
        simp at this
        omega
      subst this
      simp [hl] at hy
      exact hy ▸ hx
theorem arg_rows {H : Type} {enc : TypeId × Value → H} {P : Program} {w : World} {base : Nat} {spare : Nat → Bool} {held : Bool} {t e : TypeId} {a : Option Addr} {len cap : Nat} {d : DataW H} {p : List MemPlace}
    {α : Type} (encα : α → List Value) (Wf : α → Prop) (sz : Nat) (hsz : 0 < sz) (ht : P.underlying t = some (.slice e)) (hC : P.cellsOf e = sz) (hlen : ∀ x, (encα x).length = sz)
    (hdec : ∀ n cs y, DataW.trod enc P w base spare held n e cs = some y → ∃ x : α, cs = encα x ∧ Wf x)
    (h : DataW.Trod enc P w base spare held t (.slice a len cap) d p) :
    ∃ l : List α, Arg w sz encα a len cap l ∧ ∀ z ∈ l, Wf z := by
  obtain ⟨fuel, hf⟩ := h
  rcases open_slice ht hf with ⟨hcs, _⟩ | ⟨x, n, c, m, k, D, Pl, hcs, _, hl, hm, hz, _, hi⟩
  · simp [Value.cells] at hcs
    obtain ⟨rfl, rfl, rfl⟩ := hcs
    exact ⟨[], ⟨rfl, Nat.le_refl _, by decide, fun _ => rfl, Rd.nil⟩, by simp⟩
  · simp [Value.cells] at hcs
    obtain ⟨rfl, rfl, rfl⟩ := hcs
    have hzl : len ≤ m := by rw [hz]; split <;> omega
    obtain ⟨l, hll, hp⟩ := choose_list (fun i (v : α) => (∀ j, j < sz → w.cell? ((x.add (i * sz)).add j) = (encα v)[j]?) ∧ Wf v) len fun i hi' => by
      obtain ⟨cs', hc, htr⟩ := hi i (by omega)
      obtain ⟨v, rfl, hv⟩ := hdec _ _ _ htr
      rw [hC] at hc
      obtain ⟨_, _, hat⟩ := World.cells?_some hc
      exact ⟨v, hat, hv⟩
    refine ⟨l, ⟨hll, hl, hm, (by simp), fun hne => ?_⟩, fun z hz' => ?_⟩
    · have hpos : 0 < l.length := List.length_pos_iff.2 hne
      have h0 := (hp 0 l[0] (List.getElem?_eq_getElem hpos)).1 0 hsz
      have hlz : 0 < (encα l[0]).length := by rw [hlen]; exact hsz
      obtain ⟨v0, hv0⟩ : ∃ v0, (encα l[0])[0]? = some v0 := ⟨_, List.getElem?_eq_getElem hlz⟩
      rw [hv0] at h0
      obtain ⟨b, off, sp⟩ := x
      have hsp := World.cell?_spot h0
      simp [Addr.add] at hsp
      subst hsp
      refine ⟨b, off, rfl, World.block_lt_of_cell? w _ (by simpa [Addr.add] using h0), fun i v hv j u hu => ?_⟩
      have hj : j < sz := by have := (List.getElem?_eq_some_iff.1 hu).1; rwa [hlen] at this
      have h1 := (hp i v hv).1 j hj
      rw [hu] at h1
      rw [← h1]
      congr 1
      unfold Addr.add
      split <;> split <;> simp_all [Nat.add_assoc]
    · obtain ⟨i, hi', rfl⟩ := List.mem_iff_getElem.1 hz'
      exact (hp i _ (List.getElem?_eq_getElem hi')).2
end Go.Proofs.YtjpokeakemlffaaGreatDoor
