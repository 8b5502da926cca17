/-
  The contract of step, told of the one list; and of Advance.
-/
import Derived.Deep.LoopGhost
import Derived.Lib.MinMax
import Derived.Test.YtcjanieeepcddaaGreatDoorWhU
namespace Go.Proofs.YtcjanieeepcddaaGreatDoor
open Go.RowKit

/-- A row that was the wheel's, or is new. -/
def Nw (w : World) (S : Nat → Value) (v : Value) : Prop := ∀ k, v.ownBlock = some k → (∃ j, j < 49 ∧ (S j).ownBlock = some k) ∨ w.heap.size ≤ k

theorem turn_any (base b m nb : Nat) (S : Nat → Value) (N : Nat → List Due) (n : Int) (L : List Due) (w : World) (hW : Whl w base b m nb S N n (tk L) L.length) (hI : Inv n N L) (hbase : base ≤ w.heap.size)
    (hn : 0 ≤ n) (hn2 : n < 2305843009213693952) (hL : L.length ≤ 100000) :
    Calls Tryz.prog 80 #[.pointer (some ⟨b, 0, none⟩)] w fun e w' => ∃ (A : Option Addr) (c : Nat) (hs : List Int) (S' : Nat → Value) (N' : Nat → List Due), e = .returned (.slice A hs.length c) ∧
      Whl w' base b m nb S' N' (n + 1) (tk L) L.length ∧ Inv (n + 1) N' (L.filter fun d => decide (d.2 ≠ n + 1)) ∧ hs.Perm ((L.filter fun d => decide (d.2 = n + 1)).map (·.1)) ∧
      Beside w' base b m S' (.slice A hs.length c) hs.length ((hs.map fun x => (x, n + 1)).flatMap dueC) ∧ Fm w w' b m S S' ∧ Nw w S (.slice A hs.length c) := by
  obtain ⟨h1, h2⟩ := hI.step
  refine (step_any base b m S N n w hW.st hbase hn hn2 L.length (fun i => hI.len i) (by omega) (fun i => hI.ticks hn hn2 i)).mono ?_
  rintro e w' ⟨A, k, c, S', rfl, hs⟩
  obtain ⟨l, hl⟩ : ∃ l, prep (n + 1) N ((n + 1) % 16).toNat = l := ⟨_, rfl⟩
  rw [hl] at h2
  have hk := hs.len
  rw [hl] at hk
  have ho := hs.out
  rw [hl] at ho
  obtain ⟨q, hq⟩ : ∃ q, l.map (·.1) = q := ⟨_, rfl⟩
  have hlen : k = q.length := by rw [← hq, List.length_map]; exact hk
  have hlq : q.map (fun x => (x, n + 1)) = l := by rw [← hq]; exact map_tick fun d hd => of_decide_eq_true (List.mem_filter.1 (h2.mem_iff.1 hd)).2
  rw [← hlq] at ho
  clear hk
  subst hlen
  exact ⟨A, c, q, S', _, rfl, ⟨hs.st, hW.mp.fr hW.st hs.fr⟩, h1, by rw [← hq]; exact h2.map _, ⟨ho, hs.apart, hs.off.1, hs.off.2⟩, hs.fr.fm m, hs.new⟩

/-- What was due, and the wheel beside it, while the deletions go on. -/
structure Dz (w wr : World) (base b m nb : Nat) (S S' : Nat → Value) (N' : Nat → List Due) (n : Int) (L' : List Due) (lv : Value) (hs : List Int) (O : List Due) (out : Value) (i j : Nat) : Prop where
  st : WSt wr base b m S' N' n
  mp : Mp wr m nb (tk (dropAll (hs.take i) L')) (dropAll (hs.take i) L').length
  outB : Beside wr base b m S' out (O.length + j) ((O ++ (hs.take j).map fun x => (x, n)).flatMap dueC)
  lvB : Beside wr base b m S' lv hs.length ((hs.map fun x => (x, n)).flatMap dueC)
  ap : Apt lv out
  new : ∀ k, out.ownBlock = some k → w.heap.size ≤ k
  fm : Fm w wr b m S S'
section
variable {w wr w' : World} {base b m nb i j : Nat} {S S' : Nat → Value} {N' : Nat → List Due} {n : Int} {L' : List Due} {lv out : Value} {hs : List Int} {O : List Due}
theorem Dz.below (h : Dz w wr base b m nb S S' N' n L' lv hs O out i j) (hB : Below wr.heap.size wr w') : Dz w w' base b m nb S S' N' n L' lv hs O out i j :=
  ⟨h.st.below hB, h.mp.below hB, h.outB.fm (Fm.quiet hB b m S'), h.lvB.fm (Fm.quiet hB b m S'), h.ap, h.new, h.fm.trans (Fm.quiet hB b m S')⟩
/-- A handle is deleted. -/
theorem Dz.del (h : Dz w wr base b m nb S S' N' n L' lv hs O out i j) (hn : (L'.map (·.1)).Nodup) {x : Int} (hx : hs[i]? = some x) (hw : wfI x) (ty : TypeId) :
    ∃ w', (Builtin.delete_ #[116, 3] ty #[.map (some m), .int .i64 x]).run Tryz.prog wr = .ok (.tuple #[]) w' ∧ wr.mapTurned w' m ∧ Dz w w' base b m nb S S' N' n L' lv hs O out (i + 1) j := by
  obtain ⟨w', h1, h2, h3⟩ := h.mp.cut (dropAll_nodup hn) hw ty
  have ht : hs.take (i + 1) = hs.take i ++ [x] := by rw [List.take_add_one, hx]; rfl
  rw [← dropAll_snoc, ← ht] at h2
  exact ⟨w', h1, h3, h.st.turned h3, h2, h.outB.fm (Fm.turned h3 b S'), h.lvB.fm (Fm.turned h3 b S'), h.ap, h.new, h.fm.trans (Fm.turned h3 b S')⟩
/-- .. and told. -/
theorem Dz.next (h : Dz w wr base b m nb S S' N' n L' lv hs O out i j) {x : Int} (hx : hs[j]? = some x) {v' : Value} (hown : w'.ownsRow base 72 2 v' (O.length + j + 1) (((O ++ (hs.take j).map fun x => (x, n)) ++ [(x, n)]).flatMap dueC))
    (hg : wr.grownBy w' out.ownBlock) (hat : v'.ownBlock = out.ownBlock ∨ v'.ownBlock = some wr.heap.size) : Dz w w' base b m nb S S' N' n L' lv hs O v' i (j + 1) where
  st := h.st.kept hg (fun e => h.outB.offb e.symm) (fun i hi => (h.outB.apart i hi).free)
  mp := h.mp.kept hg (fun e => h.outB.offm e.symm)
  outB := by
    have ht : hs.take (j + 1) = hs.take j ++ [x] := by rw [List.take_add_one, hx]; rfl
    refine ⟨?_, fun i hi => (h.outB.apart i hi).grow (h.st.rows i hi) hat, ?_, ?_⟩
    · rw [ht, List.map_append, ← List.append_assoc]; exact hown
    · rcases hat with e | e
      · rw [e]; exact h.outB.offb
      · rw [e]; have := h.st.blt; simp; omega
    · rcases hat with e | e
      · rw [e]; exact h.outB.offm
      · rw [e]; have := h.st.mp; simp; omega
  lvB := h.lvB.kept hg h.ap.sym.free
  ap := (h.ap.sym.grow h.lvB.own hat).sym
  new := fun k e => by
    rcases hat with e2 | e2
    · exact h.new k (e2 ▸ e)
    · rw [e2] at e; cases e; exact h.fm.size
  fm := h.fm.row hg (fun k e => .inr (h.new k e))
end
theorem Az.of_dz {w wr : World} {base b m nb : Nat} {S S' : Nat → Value} {N' : Nat → List Due} {n : Int} {L L' : List Due} {lv out : Value} {hs ts : List Int} {O : List Due} (h : Dz w wr base b m nb S S' N' (n + 1) L' lv ts O out ts.length ts.length)
    (hi : Inv (n + 1) N' (L'.filter fun d => decide (d.2 ≠ n + 1))) (hn : (L'.map (·.1)).Nodup) (hp : hs.Perm ((L'.filter fun d => decide (d.2 = n + 1)).map (·.1))) (ht : sortI hs = ts) (ha : Adv n L L' O) :
    Whl wr base b m nb S' N' (n + 1) (tk (L'.filter fun d => decide (d.2 ≠ n + 1))) (L'.filter fun d => decide (d.2 ≠ n + 1)).length ∧
      ∃ O', Beside wr base b m S' out O'.length (O'.flatMap dueC) ∧ Adv (n + 1) L (L'.filter fun d => decide (d.2 ≠ n + 1)) O' := by
  have hd : dropAll (ts.take ts.length) L' = L'.filter fun d => decide (d.2 ≠ n + 1) := by
    rw [List.take_length]
    exact dropAll_due hn ((ht ▸ sortI_perm hs).trans hp)
  have hm := h.mp
  rw [hd] at hm
  have ho := h.outB
  rw [List.take_length, show O.length + ts.length = (O ++ ts.map fun x => (x, n + 1)).length by rw [List.length_append, List.length_map]] at ho
  refine ⟨⟨h.st, hm⟩, _, ho, ?_⟩
  have h3 := ha.step (l := L'.filter fun d => decide (d.2 = n + 1)) (.refl _)
  have h4 : sortI ((L'.filter fun d => decide (d.2 = n + 1)).map (·.1)) = ts := by
    rw [← ht]
    exact (((sortI_perm _).trans hp.symm).trans (sortI_perm hs).symm).eq_of_pairwise (fun a b _ _ h1 h2 => Int.le_antisymm h1 h2) (sortI_sorted _) (sortI_sorted _)
  rw [h4] at h3
  exact h3
end Go.Proofs.YtcjanieeepcddaaGreatDoor
