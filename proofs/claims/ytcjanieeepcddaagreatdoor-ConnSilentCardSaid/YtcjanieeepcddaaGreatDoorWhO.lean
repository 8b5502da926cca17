/-
  The blocks of a wheel, and what is not its own.
-/
import Derived.Test.YtcjanieeepcddaaGreatDoorWhY
namespace Go.Proofs.YtcjanieeepcddaaGreatDoor
open Go.RowKit

theorem own_low {w : World} {base base' n : Nat} {e : TypeId} {sz : Nat} {v : Value} {xs : List Value} (h : w.ownsRow base e sz v n xs) (hb : base' ≤ base) : w.ownsRow base' e sz v n xs := by
  refine ⟨h.1, ?_⟩
  rcases h.2 with hn | ⟨g, cap, cur, hv, h1, r⟩
  · exact .inl hn
  · exact .inr ⟨g, cap, cur, hv, Nat.le_trans hb h1, r⟩
theorem own_blockW {w w' : World} {base n : Nat} {e : TypeId} {sz : Nat} {v : Value} {xs : List Value} (h : w.ownsRow base e sz v n xs) (hb : ∀ k, v.ownBlock = some k → w'.heap[k]? = w.heap[k]?) : w'.ownsRow base e sz v n xs := by
  refine ⟨h.1, ?_⟩
  rcases h.2 with hn | ⟨g, cap, cur, hv, h1, h2, r⟩
  · exact .inl hn
  · exact .inr ⟨g, cap, cur, hv, h1, (hb g (by rw [hv]; rfl)).trans h2, r⟩
/-- The blocks of a wheel. -/
def Owns (b m : Nat) (S : Nat → Value) (k : Nat) : Prop := k = b ∨ k = m ∨ ∃ i, i < 49 ∧ (S i).ownBlock = some k
section
variable {w w' : World} {base b m nb : Nat} {S S' : Nat → Value} {now : Int} {L : List Due} {k : Nat}
theorem Wl.lt (h : Wl w base b m nb S now L) (ho : Owns b m S k) : k < w.heap.size := by
  obtain ⟨N, h1, _⟩ := h.ex
  rcases ho with rfl | rfl | ⟨i, hi, e⟩
  · exact h1.st.blt
  · exact h1.mp.lt
  · exact ((h1.st.rows i hi).lt k e).2
theorem Wl.low (h : Wl w base b m nb S now L) (ho : Owns b m S k) : base ≤ k := by
  obtain ⟨N, h1, _⟩ := h.ex
  rcases ho with rfl | rfl | ⟨i, hi, e⟩
  · exact h1.st.hb
  · exact h1.st.hm
  · exact h1.st.low i hi k e
theorem Fm.other (hf : Fm w w' b m S S') (hk : k < w.heap.size) (ho : ¬ Owns b m S k) : w'.heap[k]? = w.heap[k]? :=
  hf.block k hk (fun e => ho (.inl e)) (fun e => ho (.inr (.inl e))) (fun i hi e => ho (.inr (.inr ⟨i, hi, e⟩)))
theorem Fm.owns (hf : Fm w w' b m S S') (ho : Owns b m S' k) : Owns b m S k ∨ w.heap.size ≤ k := by
  rcases ho with e | e | ⟨i, hi, e⟩
  · exact .inl (.inl e)
  · exact .inl (.inr (.inl e))
  · exact (hf.new i hi k e).imp (fun ⟨j, hj, ej⟩ => .inr (.inr ⟨j, hj, ej⟩)) id
/-- A wheel whose blocks nobody wrote. -/
theorem Wl.same (h : Wl w base b m nb S now L) (hs : w.heap.size ≤ w'.heap.size) (hb : ∀ k, Owns b m S k → w'.heap[k]? = w.heap[k]?) : Wl w' base b m nb S now L := by
  obtain ⟨N, h1, h2⟩ := h.ex
  refine ⟨N, ⟨⟨h1.st.hb, h1.st.hm, h1.st.ne, (hb b (.inl rfl)).trans h1.st.blk, Nat.lt_of_lt_of_le h1.st.mp hs, fun i hi => own_blockW (h1.st.rows i hi) (fun k e => hb k (.inr (.inr ⟨i, hi, e⟩))), h1.st.apart, h1.st.off⟩, ?_⟩, h2⟩
  obtain ⟨D, ⟨es, clock, hm, F, h3, hD⟩, r⟩ := h1.mp
  exact ⟨D, ⟨es, clock, (hb m (.inr (.inl rfl))).trans hm, F, h3, hD⟩, r⟩
theorem Wl.rebase {base' : Nat} (h : Wl w base b m nb S now L) (hb : base' ≤ base) : Wl w base' b m nb S now L := by
  obtain ⟨N, h1, h2⟩ := h.ex
  exact ⟨N, ⟨⟨Nat.le_trans hb h1.st.hb, Nat.le_trans hb h1.st.hm, h1.st.ne, h1.st.blk, h1.st.mp, fun i hi => own_low (h1.st.rows i hi) hb, h1.st.apart, h1.st.off⟩, h1.mp⟩, h2⟩
/-- A row that a wheel does not own. -/
def Off (b m : Nat) (S : Nat → Value) (v : Value) : Prop := ∀ k, v.ownBlock = some k → ¬ Owns b m S k
theorem Off.nil (b m : Nat) (S : Nat → Value) : Off b m S (.slice none 0 0) := fun k e => by cases e
theorem Off.fm {v : Value} (h : Off b m S v) (hf : Fm w w' b m S S') (hl : ∀ k, v.ownBlock = some k → k < w.heap.size) : Off b m S' v := fun k e ho => by
  rcases hf.owns ho with h1 | h1
  · exact h k e h1
  · have := hl k e; omega
end
end Go.Proofs.YtcjanieeepcddaaGreatDoor
