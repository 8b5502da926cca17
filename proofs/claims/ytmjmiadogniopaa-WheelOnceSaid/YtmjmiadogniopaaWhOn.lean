/-
  A wheel and a set of integers beside it.
-/
import Derived.Test.YtmjmiadogniopaaWhBs
namespace Go.Proofs.Ytmjmiadogniopaa
open Go.RowKit

structure One (w wr : World) (base b m nb g : Nat) (S : Nat → Value) (n : Int) (L : List Due) (G : Int → Bool) (c : Nat) : Prop where
  h : Wl wr base b m nb S n L
  gone : Bs wr g c G c
  off : ¬ Owns b m S g
  low : base ≤ g
  below : Below w.heap.size w wr
  hb : w.heap.size ≤ base
  hs : base ≤ wr.heap.size
section
variable {w wr w' : World} {base b m nb g c : Nat} {S S' : Nat → Value} {n n' : Int} {L L' : List Due} {G : Int → Bool}
theorem One.turn (h : One w wr base b m nb g S n L G c) {nb' : Nat} (hw : Wl w' base b m nb' S' n' L') (hf : Fm wr w' b m S S') : One w w' base b m nb' g S' n' L' G c where
  h := hw
  gone := h.gone.same (hf.other h.gone.lt h.off)
  off := fun ho => by
    rcases hf.owns ho with h1 | h1
    · exact h.off h1
    · have := h.gone.lt; omega
  low := h.low
  below := h.below.trans ((h.h.fmBelow hf h.hs).mono h.hb)
  hb := h.hb
  hs := Nat.le_trans h.hs hf.size
theorem One.put (h : One w wr base b m nb g S n L G c) (hc : c < maxLen) {x : Int} (hx : wfI x) (hG : G x = false) : ∃ w', (Instr.mapUpdate 28 (.map (some g)) (.int .i64 x) (.bool true)).run Try.prog wr = .ok () w' ∧ One w w' base b m nb g S n L (setB G x) (c + 1) := by
  obtain ⟨w', hr, hB, ht⟩ := h.gone.put hc hx
  rw [hG] at hB
  have hg := ht.grown
  refine ⟨w', hr, h.h.same hg.size fun k ho => hg.block k (h.h.lt ho) (fun e => by cases e; exact h.off ho), hB, h.off, h.low,
    ⟨hg.os.trans h.below.os, hg.tape.trans h.below.tape, hg.output.trans h.below.output, Nat.le_trans h.below.size hg.size, fun k hk => (hg.block k (Nat.lt_of_lt_of_le hk h.below.size) (fun e => by cases e; have := h.low; have := h.hb; omega)).trans (h.below.block k hk)⟩, h.hb, Nat.le_trans h.hs hg.size⟩
theorem One.quiet (h : One w wr base b m nb g S n L G c) (hB : Below wr.heap.size wr w') : One w w' base b m nb g S n L G c where
  h := h.h.below hB
  gone := h.gone.same (hB.block g h.gone.lt)
  off := h.off
  low := h.low
  below := h.below.trans (hB.mono h.below.size)
  hb := h.hb
  hs := Nat.le_trans h.hs hB.size
/-- A new map beside a new wheel. -/
theorem One.made (hw : Wl wr base b m nb S n L) (hB : Below w.heap.size w wr) (hb : w.heap.size ≤ base) (hs : base ≤ wr.heap.size) : One w (wr.alloc (.map #[] 0)) base b m nb wr.heap.size S n L (fun _ => false) 0 where
  h := hw.below ((Below.refl _ wr).alloc (Nat.le_refl _) _)
  gone := Bs.made wr
  off := fun ho => by have := hw.lt ho; omega
  low := hs
  below := hB.alloc hB.size _
  hb := hb
  hs := Nat.le_trans hs (by simp)
theorem Bs.drew (h : Bs w m nb G c) (q : Nat) : Bs (w.drewN q) m nb G c := h.same rfl
/-- A set of one's own is written: whatever lay before it stays. -/
theorem Bs.putBelow (h : Bs w m nb G c) (hn : nb < maxLen) {x : Int} (hx : wfI x) {z : Nat} (hz : z ≤ m) : ∃ w', (Instr.mapUpdate 28 (.map (some m)) (.int .i64 x) (.bool true)).run Try.prog w = .ok () w' ∧ Bs w' m (nb + 1) (setB G x) (if G x then c else c + 1) ∧ Below z w w' := by
  obtain ⟨w', hr, hB, ht⟩ := h.put hn hx
  have hg := ht.grown
  have := h.lt
  exact ⟨w', hr, hB, ⟨hg.os, hg.tape, hg.output, hg.size, fun k hk => hg.block k (by omega) (fun e => by cases e; omega)⟩⟩
end
end Go.Proofs.Ytmjmiadogniopaa
