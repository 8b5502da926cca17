/-
  Walks and laws, one behind the other (part 3).
-/
import Derived.ChangeOld
import Derived.OpenShut
import Derived.ProofKit
import Derived.ShutString
import Derived.Test.YtjpokeakemlffaaGreatDoorS2
set_option linter.unusedSimpArgs false
set_option linter.unusedVariables false
/-
  A slice of bytes that came in, opened.
-/
namespace Go.Proofs.YtjpokeakemlffaaGreatDoor
open Go.RowKit Go.ChangeShapes Go.WideShapes Go.ChangeAt
def encI (k : IntKind) (x : Int) : List Value := [.int k x]
theorem arg_ints {H : Type} {enc : TypeId × Value → H} {P : Program} {w : World} {base : Nat} {spare : Nat → Bool} {held : Bool} {t e : TypeId} {k : IntKind} {a : Option Addr} {len cap : Nat} {d : DataW H} {p : List MemPlace}
    (ht : P.underlying t = some (.slice e)) (he : P.underlying e = some (.int k)) (hc : P.cellsOf e = 1) (h : DataW.Trod enc P w base spare held t (.slice a len cap) d p) :
    ∃ l : List Int, Arg w 1 (encI k) a len cap l ∧ ∀ z ∈ l, (Lit.int k z).wf = true := by
  obtain ⟨fuel, hf⟩ := h
  rcases open_ints ht he hc hf with ⟨hcs, _⟩ | ⟨x, n, c, zs, hcs, _, hl, hm, hz, _, hcell, hwz⟩
  · simp [Value.cells] at hcs
    obtain ⟨rfl, rfl, rfl⟩ := hcs
    exact ⟨[], ⟨rfl, Nat.le_refl _, by decide, fun _ => rfl, Rd.nil⟩, by simp⟩
  · simp [Value.cells] at hcs
    obtain ⟨rfl, rfl, rfl⟩ := hcs
    have hzl : len ≤ zs.length := by rw [hz]; split <;> omega
    have hlen : (zs.take len).length = len := by rw [List.length_take]; omega
    refine ⟨zs.take len, ⟨hlen, hl, hm, (by simp), fun hne => ?_⟩, fun z hz' => ?_⟩
    · have hpos : 0 < len := by
        rcases Nat.eq_zero_or_pos len with h0 | h0
        · subst h0; simp at hne
        · exact h0
      have h0 := hcell 0 (by omega)
      obtain ⟨b, off, sp⟩ := x
      have hsp := World.cell?_spot h0
      simp [Addr.add] at hsp
      subst hsp
      refine ⟨b, off, rfl, World.block_lt_of_cell? w _ (by simpa [Addr.add] using h0), fun i v hv j u hu => ?_⟩
      have hi : i < len := by have := (List.getElem?_eq_some_iff.1 hv).1; omega
      have hj : j = 0 := by have := (List.getElem?_eq_some_iff.1 hu).1; simp [encI] at this; exact this
      subst hj
      have h1 := hcell i (by omega)
      rw [List.getElem?_take, if_pos hi] at hv
      have h2 : zs.getD i 0 = v := by rw [List.getD_eq_getElem?_getD, hv]; rfl
      simp [encI] at hu
      rw [h2, hu] at h1
      rw [← h1]
      simp only [Nat.mul_one, Nat.add_zero]
      congr 1
      unfold Addr.add
      split <;> simp_all
    · exact hwz z (List.mem_of_mem_take hz')
theorem arg_bytes {H : Type} {enc : TypeId × Value → H} {P : Program} {w : World} {base : Nat} {spare : Nat → Bool} {held : Bool} {t e : TypeId} {a : Option Addr} {len cap : Nat} {d : DataW H} {p : List MemPlace}
    (ht : P.underlying t = some (.slice e)) (he : P.underlying e = some (.int .u8)) (hc : P.cellsOf e = 1) (h : DataW.Trod enc P w base spare held t (.slice a len cap) d p) :
    ∃ l : List Int, Arg w 1 encB a len cap l ∧ ∀ z ∈ l, 0 ≤ z ∧ z ≤ 255 := by
  obtain ⟨l, h1, h2⟩ := arg_ints ht he hc h
  exact ⟨l, h1, fun z hz => by have := bounds_u8 (h2 z hz); omega⟩
end Go.Proofs.YtjpokeakemlffaaGreatDoor
