/-
  A wheel and the reference's beside one another.
-/
import Derived.Test.YtmjmiadogniopaaOpenRows
import Derived.Test.YtmjmiadogniopaaRfE
namespace Go.Proofs.Ytmjmiadogniopaa
open Go.RowKit Go.ChangeShapes Go.WideShapes Go.ChangeAt Go.Deep

/-- What is done to a wheel. -/
abbrev Ac := Int × Int × Int
def actC (a : Ac) : List Value := [.int .i64 a.1, .int .i64 a.2.1, .int .i64 a.2.2]
theorem actC_length (a : Ac) : (actC a).length = 3 := rfl
def wfAc (a : Ac) : Prop := (Lit.int .i64 a.1).wf = true ∧ (Lit.int .i64 a.2.1).wf = true ∧ (Lit.int .i64 a.2.2).wf = true
theorem dec_act {H : Type} {enc : TypeId × Value → H} {w : World} {base : Nat} {spare : Nat → Bool} {held : Bool} (n : Nat) (cs : List Value) (y : DataW H × List MemPlace)
    (h : DataW.trod enc Try.prog w base spare held n 44 cs = some y) : ∃ x : Ac, cs = actC x ∧ wfAc x := by
  obtain ⟨xs, k, _, _, hl, hx, hf⟩ := DataW.trod_struct Try.underlying44 h
  have hc : Try.prog.cellsOf 44 = 3 := by kernel_rfl
  have h3 : Try.prog.cellsOf 3 = 1 := by kernel_rfl
  rw [hc] at hl
  match cs, hl with
  | [c0, c1, c2], _ =>
    match xs, hx with
    | [y0, y1, y2], _ =>
      have g0 := hf 0 _ rfl
      have g1 := hf 1 _ rfl
      have g2 := hf 2 _ rfl
      simp [h3] at g0 g1 g2
      obtain ⟨n0, e0, _, w0⟩ := DataW.trod_int Try.underlying3 g0
      obtain ⟨n1, e1, _, w1⟩ := DataW.trod_int Try.underlying3 g1
      obtain ⟨n2, e2, _, w2⟩ := DataW.trod_int Try.underlying3 g2
      simp at e0 e1 e2
      subst e0 e1 e2
      exact ⟨(n0, n1, n2), rfl, w0, w1, w2⟩
theorem arg_acts {H : Type} {enc : TypeId × Value → H} {w : World} {base : Nat} {spare : Nat → Bool} {held : Bool} {a : Option Addr} {len cap : Nat} {d : DataW H} {p : List MemPlace}
    (h : DataW.Trod enc Try.prog w base spare held 40 (.slice a len cap) d p) : ∃ l : List Ac, Arg w 3 actC a len cap l ∧ ∀ z ∈ l, wfAc z := by
  obtain ⟨l, ha, hw⟩ := arg_rows actC wfAc 3 (by decide) Try.underlying40 (by kernel_rfl) actC_length dec_act h
  exact ⟨l, ha, hw⟩

structure Act2 (w wr : World) (base b m nb rb : Nat) (S : Nat → Value) (v : Value) (n1 : Int) (L1 : List Due) (n2 : Int) (L2 : List Due) : Prop where
  h : Wl wr base b m nb S n1 L1
  r : Rf wr base rb v n2 L2
  off1 : ¬ Owns b m S rb
  off2 : Off b m S v
  below : Below w.heap.size w wr
  hb : w.heap.size ≤ base
  hs : base ≤ wr.heap.size
section
variable {w wr w' : World} {base b m nb rb : Nat} {S S' : Nat → Value} {v v' : Value} {n1 n2 n' : Int} {L1 L2 L' : List Due}
theorem Act2.quiet (h : Act2 w wr base b m nb rb S v n1 L1 n2 L2) (hB : Below wr.heap.size wr w') : Act2 w w' base b m nb rb S v n1 L1 n2 L2 :=
  ⟨h.h.below hB, h.r.below hB, h.off1, h.off2, h.below.trans (hB.mono h.below.size), h.hb, Nat.le_trans h.hs hB.size⟩
theorem Act2.drew (h : Act2 w wr base b m nb rb S v n1 L1 n2 L2) (q : Nat) : Act2 w (wr.drewN q) base b m nb rb S v n1 L1 n2 L2 := h.quiet ⟨rfl, rfl, rfl, Nat.le_refl _, fun _ _ => rfl⟩
theorem Act2.wheel (h : Act2 w wr base b m nb rb S v n1 L1 n2 L2) {nb' : Nat} (hw : Wl w' base b m nb' S' n' L') (hf : Fm wr w' b m S S') : Act2 w w' base b m nb' rb S' v n' L' n2 L2 where
  h := hw
  r := h.r.same fun k hk => by
    rcases hk with rfl | e
    · exact hf.other h.r.lt h.off1
    · exact hf.other (h.r.own.lt k e).2 (h.off2 k e)
  off1 := fun ho => by
    rcases hf.owns ho with h1 | h1
    · exact h.off1 h1
    · have := h.r.lt; omega
  off2 := h.off2.fm hf fun k e => (h.r.own.lt k e).2
  below := h.below.trans ((h.h.fmBelow hf h.hs).mono h.hb)
  hb := h.hb
  hs := Nat.le_trans h.hs hf.size
theorem Act2.ref (h : Act2 w wr base b m nb rb S v n1 L1 n2 L2) (hr : Rf w' base rb v' n' L') (hf : Fg wr w' rb v v') : Act2 w w' base b m nb rb S v' n1 L1 n' L' where
  h := h.h.same hf.size fun k ho => hf.block k (h.h.lt ho) (fun e => h.off1 (e ▸ ho))
  r := hr
  off1 := h.off1
  off2 := fun k e ho => by
    rcases hf.new k e with h1 | h1
    · exact h.off2 k h1 ho
    · have := h.h.lt ho; omega
  below := h.below.trans ((hf.below h.r.low h.hs).mono h.hb)
  hb := h.hb
  hs := Nat.le_trans h.hs hf.size
/-- Both, new. -/
theorem Act2.made {base' rb' : Nat} (hw : Wl wr base b m nb S n1 L1) (hr : Rf w' base' rb' v' n2 L2) (hB : Below wr.heap.size wr w') (h0 : Below w.heap.size w wr) (hb : w.heap.size ≤ base) (hs : base ≤ wr.heap.size) (hrb : wr.heap.size ≤ rb') (hv : v'.ownBlock = none) (hbb : base ≤ base') : Act2 w w' base b m nb rb' S v' n1 L1 n2 L2 where
  h := hw.below hB
  r := hr.rebase hbb
  off1 := fun ho => by have := hw.lt ho; omega
  off2 := fun k e => by rw [hv] at e; cases e
  below := h0.trans (hB.mono h0.size)
  hb := hb
  hs := Nat.le_trans hs hB.size
end
end Go.Proofs.Ytmjmiadogniopaa
