/-
  Two wheels beside one another.
-/
import Derived.Test.YtmjmiadogniopaaOpenBytes
import Derived.Test.YtmjmiadogniopaaWhAp
namespace Go.Proofs.Ytmjmiadogniopaa
open Go.RowKit

/-- Two wheels beside one another, behind the law's start. -/
structure Two (w wr : World) (base b1 m1 b2 m2 nb : Nat) (S1 S2 : Nat → Value) (n1 n2 : Int) (L1 L2 : List Due) : Prop where
  h1 : Wl wr base b1 m1 nb S1 n1 L1
  h2 : Wl wr base b2 m2 nb S2 n2 L2
  ap : Ap2 b1 m1 S1 b2 m2 S2
  below : Below w.heap.size w wr
  hb : w.heap.size ≤ base
  hs : base ≤ wr.heap.size
theorem Wl.nbUp {w : World} {base b m nb nb' : Nat} {S : Nat → Value} {now : Int} {L : List Due} (h : Wl w base b m nb S now L) (hn : nb ≤ nb') : Wl w base b m nb' S now L := by
  obtain ⟨N, h1, h2⟩ := h.ex
  obtain ⟨D, hD, r⟩ := h1.mp
  exact ⟨N, ⟨h1.st, D, hD.mono hn, r⟩, h2⟩
section
variable {w wr w' : World} {base b1 m1 b2 m2 nb : Nat} {S1 S2 S' : Nat → Value} {n1 n2 n' : Int} {L1 L2 L' : List Due}
theorem Two.turn1 (h : Two w wr base b1 m1 b2 m2 nb S1 S2 n1 n2 L1 L2) {nb' : Nat} (hw : Wl w' base b1 m1 nb' S' n' L') (hf : Fm wr w' b1 m1 S1 S') (hn : nb ≤ nb') : Two w w' base b1 m1 b2 m2 nb' S' S2 n' n2 L' L2 :=
  ⟨hw, (h.h2.beside h.ap hf).nbUp hn, h.ap.fm h.h2 hf, h.below.trans ((h.h1.fmBelow hf h.hs).mono h.hb), h.hb, Nat.le_trans h.hs hf.size⟩
theorem Two.turn2 (h : Two w wr base b1 m1 b2 m2 nb S1 S2 n1 n2 L1 L2) {nb' : Nat} (hw : Wl w' base b2 m2 nb' S' n' L') (hf : Fm wr w' b2 m2 S2 S') (hn : nb ≤ nb') : Two w w' base b1 m1 b2 m2 nb' S1 S' n1 n' L1 L' :=
  ⟨(h.h1.beside h.ap.sym hf).nbUp hn, hw, (h.ap.sym.fm h.h1 hf).sym, h.below.trans ((h.h2.fmBelow hf h.hs).mono h.hb), h.hb, Nat.le_trans h.hs hf.size⟩
/-- A row beside both is written. -/
theorem Two.row (h : Two w wr base b1 m1 b2 m2 nb S1 S2 n1 n2 L1 L2) {v : Value} (hg : wr.grownBy w' v.ownBlock) (o1 : Off b1 m1 S1 v) (o2 : Off b2 m2 S2 v) (hv : ∀ k, v.ownBlock = some k → base ≤ k) : Two w w' base b1 m1 b2 m2 nb S1 S2 n1 n2 L1 L2 where
  h1 := h.h1.same hg.size fun k ho => hg.block k (h.h1.lt ho) (fun e => o1 k e.symm ho)
  h2 := h.h2.same hg.size fun k ho => hg.block k (h.h2.lt ho) (fun e => o2 k e.symm ho)
  ap := h.ap
  below := ⟨hg.os.trans h.below.os, hg.tape.trans h.below.tape, hg.output.trans h.below.output, Nat.le_trans h.below.size hg.size, fun k hk => (hg.block k (Nat.lt_of_lt_of_le hk h.below.size) (fun e => by have := hv k e.symm; have := h.hb; omega)).trans (h.below.block k hk)⟩
  hb := h.hb
  hs := Nat.le_trans h.hs hg.size
/-- A new row is nobody's. -/
theorem off_new {w : World} {base b m nb : Nat} {S : Nat → Value} {now : Int} {L : List Due} (h : Wl w base b m nb S now L) {v : Value} (hv : ∀ k, v.ownBlock = some k → w.heap.size ≤ k) : Off b m S v := fun k e ho => by
  have := h.lt ho
  have := hv k e
  omega
theorem own_nilcap {w : World} {base n c : Nat} {e : TypeId} {sz : Nat} {A : Option Addr} {xs : List Value} (h : w.ownsRow base e sz (.slice A n c) n xs) : A = none → c = 0 := fun ha => by
  rcases h.2 with ⟨e1, _⟩ | ⟨g, cap, cur, e1, _⟩
  · cases e1; rfl
  · cases e1; cases ha
theorem own_off {w w' : World} {b m base n : Nat} {S S' : Nat → Value} {e : TypeId} {sz : Nat} {v : Value} {xs : List Value} (h : w.ownsRow base e sz v n xs) (hf : Fm w w' b m S S') (ho : Off b m S v) : w'.ownsRow base e sz v n xs :=
  own_block h fun k hk => hf.other (h.lt k hk).2 (ho k hk)
end
end Go.Proofs.Ytmjmiadogniopaa
