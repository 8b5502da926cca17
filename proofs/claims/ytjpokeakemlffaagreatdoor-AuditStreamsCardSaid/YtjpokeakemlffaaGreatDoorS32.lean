/-
  Walks and laws, one behind the other (part 32).
-/
import Derived.Deep.LoopGhost
import Derived.Lib.MinMax
import Derived.Test.YtjpokeakemlffaaGreatDoorS14
import Derived.Test.YtjpokeakemlffaaGreatDoorS31
set_option linter.unusedSimpArgs false
set_option linter.unusedVariables false
/-
  The contract of step, told of the one list; and of Advance.
-/
namespace Go.Proofs.YtjpokeakemlffaaGreatDoor
open Go.RowKit
structure Dz (w wr : World) (base b m nb : Nat) (S S' : Nat → Value) (N' : Nat → List Due) (n : Int) (L' : List Due) (lv : Value) (hs : List Int) (O : List Due) (out : Value) (i j : Nat) : Prop where
  st : WSt wr base b m S' N' n
  mp : Mp wr m nb (tk (dropAll (hs.take i) L')) (dropAll (hs.take i) L').length
  outB : Beside wr base b m S' out (O.length + j) ((O ++ (hs.take j).map fun x => (x, n)).flatMap dueC)
  lvB : Beside wr base b m S' lv hs.length ((hs.map fun x => (x, n)).flatMap dueC)
  ap : Apt lv out
  new : ∀ k, out.ownBlock = some k → w.heap.size ≤ k
  fm : Fm w wr b m S S'
section
variable {w wr w' : World} {base b m nb i j : Nat} {S S' : Nat → Value} {N' : Nat → List Due} {n : Int} {L' : List Due} {lv out : Value} {hs : List Int} {O : List Due}
theorem Dz.below (h : Dz w wr base b m nb S S' N' n L' lv hs O out i j) (hB : Below wr.heap.size wr w') : Dz w w' base b m nb S S' N' n L' lv hs O out i j :=
  ⟨h.st.below hB, h.mp.below hB, h.outB.fm (Fm.quiet hB b m S'), h.lvB.fm (Fm.quiet hB b m S'), h.ap, h.new, h.fm.trans (Fm.quiet hB b m S')⟩
theorem Dz.del (h : Dz w wr base b m nb S S' N' n L' lv hs O out i j) (hn : (L'.map (·.1)).Nodup) {x : Int} (hx : hs[i]? = some x) (hw : wfI x) (ty : TypeId) :
    ∃ w', (Builtin.delete_ #[259, 3] ty #[.map (some m), .int .i64 x]).run Tryz.prog wr = .ok (.tuple #[]) w' ∧ wr.mapTurned w' m ∧ Dz w w' base b m nb S S' N' n L' lv hs O out (i + 1) j := by
  obtain ⟨w', h1, h2, h3⟩ := h.mp.cut (dropAll_nodup hn) hw ty
  have ht : hs.take (i + 1) = hs.take i ++ [x] := by rw [List.take_add_one, hx]; rfl
  rw [← dropAll_snoc, ← ht] at h2
  exact ⟨w', h1, h3, h.st.turned h3, h2, h.outB.fm (Fm.turned h3 b S'), h.lvB.fm (Fm.turned h3 b S'), h.ap, h.new, h.fm.trans (Fm.turned h3 b S')⟩
theorem Dz.next (h : Dz w wr base b m nb S S' N' n L' lv hs O out i j) {x : Int} (hx : hs[j]? = some x) {v' : Value} (hown : w'.ownsRow base 195 2 v' (O.length + j + 1) (((O ++ (hs.take j).map fun x => (x, n)) ++ [(x, n)]).flatMap dueC))
    (hg : wr.grownBy w' out.ownBlock) (hat : v'.ownBlock = out.ownBlock ∨ v'.ownBlock = some wr.heap.size) : Dz w w' base b m nb S S' N' n L' lv hs O v' i (j + 1) where
  st := h.st.kept hg (fun e => h.outB.offb e.symm) (fun i hi => (h.outB.apart i hi).free)
  mp := h.mp.kept hg (fun e => h.outB.offm e.symm)
  outB := by
    have ht : hs.take (j + 1) = hs.take j ++ [x] := by rw [List.take_add_one, hx]; rfl
    refine ⟨?_, fun i hi => (h.outB.apart i hi).grow (h.st.rows i hi) hat, ?_, ?_⟩
    · rw [ht, List.map_append, ← List.append_assoc]; exact hown
    · rcases hat with e | e
      · rw [e]; exact h.outB.offb
      · rw [e]; have := h.st.blt; simp; omega
    · rcases hat with e | e
      · rw [e]; exact h.outB.offm
      · rw [e]; have := h.st.mp; simp; omega
  lvB := h.lvB.kept hg h.ap.sym.free
  ap := (h.ap.sym.grow h.lvB.own hat).sym
  new := fun k e => by
    rcases hat with e2 | e2
    · exact h.new k (e2 ▸ e)
    · rw [e2] at e; cases e; exact h.fm.size
  fm := h.fm.row hg (fun k e => .inr (h.new k e))
end
end Go.Proofs.YtjpokeakemlffaaGreatDoor
/-
  The contract of Advance.
-/
namespace Go.Proofs.YtjpokeakemlffaaGreatDoor
open Go.RowKit
structure Az (w wr : World) (base b m nb : Nat) (S : Nat → Value) (L : List Due) (n : Int) (out : Value) : Prop where
  ex : ∃ (S' : Nat → Value) (N' : Nat → List Due) (L' O : List Due), Whl wr base b m nb S' N' n (tk L') L'.length ∧ Inv n N' L' ∧ Beside wr base b m S' out O.length (O.flatMap dueC) ∧
    (∀ k, out.ownBlock = some k → w.heap.size ≤ k) ∧ Fm w wr b m S S' ∧ Adv n L L' O
end Go.Proofs.YtjpokeakemlffaaGreatDoor
/-
  The wheel's Advance, told of the one list.
-/
namespace Go.Proofs.YtjpokeakemlffaaGreatDoor
open Go.RowKit
variable {base b m nb : Nat} {S : Nat → Value} {now : Int} {L : List Due} {w : World}
end Go.Proofs.YtjpokeakemlffaaGreatDoor
