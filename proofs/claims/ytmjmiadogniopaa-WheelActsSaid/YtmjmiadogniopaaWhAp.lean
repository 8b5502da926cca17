/-
  Two wheels, and rows beside them.
-/
import Derived.Test.YtmjmiadogniopaaWhZ
namespace Go.Proofs.Ytmjmiadogniopaa
open Go.RowKit

theorem own_low {w : World} {base base' n : Nat} {e : TypeId} {sz : Nat} {v : Value} {xs : List Value} (h : w.ownsRow base e sz v n xs) (hb : base' ≤ base) : w.ownsRow base' e sz v n xs := by
  refine ⟨h.1, ?_⟩
  rcases h.2 with hn | ⟨g, cap, cur, hv, h1, r⟩
  · exact .inl hn
  · exact .inr ⟨g, cap, cur, hv, Nat.le_trans hb h1, r⟩
/-- The blocks of a wheel. -/
def Owns (b m : Nat) (S : Nat → Value) (k : Nat) : Prop := k = b ∨ k = m ∨ ∃ i, i < 49 ∧ (S i).ownBlock = some k
section
variable {w w' : World} {base b m nb : Nat} {S S' : Nat → Value} {now : Int} {L : List Due} {k : Nat}
theorem Wl.lt (h : Wl w base b m nb S now L) (ho : Owns b m S k) : k < w.heap.size := by
  obtain ⟨N, h1, _⟩ := h.ex
  rcases ho with rfl | rfl | ⟨i, hi, e⟩
  · exact h1.st.blt
  · exact h1.mp.lt
  · exact ((h1.st.rows i hi).lt k e).2
theorem Wl.low (h : Wl w base b m nb S now L) (ho : Owns b m S k) : base ≤ k := by
  obtain ⟨N, h1, _⟩ := h.ex
  rcases ho with rfl | rfl | ⟨i, hi, e⟩
  · exact h1.st.hb
  · exact h1.st.hm
  · exact h1.st.low i hi k e
theorem Fm.other (hf : Fm w w' b m S S') (hk : k < w.heap.size) (ho : ¬ Owns b m S k) : w'.heap[k]? = w.heap[k]? :=
  hf.block k hk (fun e => ho (.inl e)) (fun e => ho (.inr (.inl e))) (fun i hi e => ho (.inr (.inr ⟨i, hi, e⟩)))
theorem Fm.owns (hf : Fm w w' b m S S') (ho : Owns b m S' k) : Owns b m S k ∨ w.heap.size ≤ k := by
  rcases ho with e | e | ⟨i, hi, e⟩
  · exact .inl (.inl e)
  · exact .inl (.inr (.inl e))
  · exact (hf.new i hi k e).imp (fun ⟨j, hj, ej⟩ => .inr (.inr ⟨j, hj, ej⟩)) id
/-- A wheel whose blocks nobody wrote. -/
theorem Wl.same (h : Wl w base b m nb S now L) (hs : w.heap.size ≤ w'.heap.size) (hb : ∀ k, Owns b m S k → w'.heap[k]? = w.heap[k]?) : Wl w' base b m nb S now L := by
  obtain ⟨N, h1, h2⟩ := h.ex
  refine ⟨N, ⟨⟨h1.st.hb, h1.st.hm, h1.st.ne, (hb b (.inl rfl)).trans h1.st.blk, Nat.lt_of_lt_of_le h1.st.mp hs, fun i hi => own_block (h1.st.rows i hi) (fun k e => hb k (.inr (.inr ⟨i, hi, e⟩))), h1.st.apart, h1.st.off⟩, ?_⟩, h2⟩
  obtain ⟨D, ⟨es, clock, hm, F, h3, hD⟩, r⟩ := h1.mp
  exact ⟨D, ⟨es, clock, (hb m (.inr (.inl rfl))).trans hm, F, h3, hD⟩, r⟩
theorem Wl.rebase {base' : Nat} (h : Wl w base b m nb S now L) (hb : base' ≤ base) : Wl w base' b m nb S now L := by
  obtain ⟨N, h1, h2⟩ := h.ex
  exact ⟨N, ⟨⟨Nat.le_trans hb h1.st.hb, Nat.le_trans hb h1.st.hm, h1.st.ne, h1.st.blk, h1.st.mp, fun i hi => own_low (h1.st.rows i hi) hb, h1.st.apart, h1.st.off⟩, h1.mp⟩, h2⟩
/-- A row that a wheel does not own. -/
def Off (b m : Nat) (S : Nat → Value) (v : Value) : Prop := ∀ k, v.ownBlock = some k → ¬ Owns b m S k
theorem Off.nil (b m : Nat) (S : Nat → Value) : Off b m S (.slice none 0 0) := fun k e => by cases e
theorem Beside.off {v : Value} {n : Nat} {xs : List Value} (h : Beside w base b m S v n xs) : Off b m S v := fun k e ho => by
  rcases ho with rfl | rfl | ⟨i, hi, e2⟩
  · exact h.offb e
  · exact h.offm e
  · rcases h.apart i hi with ⟨x, _⟩ | x
    · rw [x] at e; cases e
    · exact x (e.trans e2.symm)
theorem Off.fm {v : Value} (h : Off b m S v) (hf : Fm w w' b m S S') (hl : ∀ k, v.ownBlock = some k → k < w.heap.size) : Off b m S' v := fun k e ho => by
  rcases hf.owns ho with h1 | h1
  · exact h k e h1
  · have := hl k e; omega
end
/-- Two wheels that share nothing. -/
def Ap2 (b m : Nat) (S : Nat → Value) (b' m' : Nat) (S' : Nat → Value) : Prop := ∀ k, Owns b m S k → ¬ Owns b' m' S' k
theorem Ap2.sym {b m b' m' : Nat} {S S' : Nat → Value} (h : Ap2 b m S b' m' S') : Ap2 b' m' S' b m S := fun k h1 h2 => h k h2 h1
section
variable {w w' : World} {base b m nb base' b' m' nb' : Nat} {S S1 S' : Nat → Value} {now : Int} {L : List Due}
theorem Wl.beside (h : Wl w base' b' m' nb' S' now L) (ha : Ap2 b m S b' m' S') (hf : Fm w w' b m S S1) : Wl w' base' b' m' nb' S' now L :=
  h.same hf.size (fun k ho => hf.other (h.lt ho) (fun x => ha k x ho))
theorem Ap2.fm (ha : Ap2 b m S b' m' S') (h : Wl w base' b' m' nb' S' now L) (hf : Fm w w' b m S S1) : Ap2 b m S1 b' m' S' := fun k h1 h2 => by
  rcases hf.owns h1 with h3 | h3
  · exact ha k h3 h2
  · have := h.lt h2; omega
end
theorem Adv.trans {n n' : Int} {L L1 L2 O1 O2 : List Due} (h : Adv n L L1 O1) (h' : Adv n' L1 L2 O2) (hn : n ≤ n') : Adv n' L L2 (O1 ++ O2) where
  rest := by
    rw [h'.rest, h.rest, List.filter_filter]
    apply List.filter_congr
    intro d _
    by_cases e : n' < d.2
    · have : n < d.2 := by omega
      simp [e, this]
    · simp [e]
  perm := by
    have h2 := h'.perm
    rw [h.rest, List.filter_filter] at h2
    refine (h.perm.append h2).trans (filter_split _ _ _ L (fun d _ => ?_) (fun d _ hh => ?_))
    · by_cases e1 : d.2 ≤ n
      · have : d.2 ≤ n' := by omega
        simp [e1, this]
      · have : n < d.2 := by omega
        simp [e1, this]
    · have := of_decide_eq_true hh.1
      have := hh.2
      simp at this
      omega
  sorted := by
    rw [List.pairwise_append]
    refine ⟨h.sorted, h'.sorted, fun a ha c hc => ?_⟩
    have h1 := of_decide_eq_true (List.mem_filter.1 (h.perm.mem_iff.1 ha)).2
    have h2 := (List.mem_filter.1 (h'.perm.mem_iff.1 hc)).1
    rw [h.rest] at h2
    have h3 := of_decide_eq_true (List.mem_filter.1 h2).2
    exact .inl (by omega)
theorem adv_one {n n' : Int} {L L1 L2 O1 O2 : List Due} (hn : (L.map (·.1)).Nodup) (h : Adv n L L1 O1) (h' : Adv n' L L2 O2) (hd : ∀ d ∈ L, (d.2 ≤ n ↔ d.2 ≤ n')) : O1 = O2 ∧ L1 = L2 := by
  have e1 : L.filter (fun d => decide (d.2 ≤ n)) = L.filter fun d => decide (d.2 ≤ n') := List.filter_congr fun d hm => by simp [hd d hm]
  have e2 : L.filter (fun d => decide (n < d.2)) = L.filter fun d => decide (n' < d.2) := List.filter_congr fun d hm => by
    have := hd d hm
    by_cases a : n < d.2
    · have : n' < d.2 := by omega
      simp [a, this]
    · have : ¬ n' < d.2 := by omega
      simp [a, this]
  have hp := h.perm
  rw [e1] at hp
  refine ⟨(hp.trans h'.perm.symm).eq_of_pairwise (fun a c ha hc h1 h2 => ?_) h.sorted h'.sorted, by rw [h.rest, h'.rest, e2]⟩
  have m1 := (List.mem_filter.1 (h.perm.mem_iff.1 ha)).1
  have m2 := (List.mem_filter.1 (h'.perm.mem_iff.1 hc)).1
  refine nodup_inj hn m1 m2 ?_
  unfold lexle at h1 h2
  omega
end Go.Proofs.Ytmjmiadogniopaa
