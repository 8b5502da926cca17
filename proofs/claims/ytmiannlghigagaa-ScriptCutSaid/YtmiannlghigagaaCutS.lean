/-
  Two rows in the making, beside one another: whatever their steps' order.
-/
import Derived.Test.YtmiannlghigagaaLawPuts
namespace Go.Proofs.Ytmiannlghigagaa
open Go.RowKit

def AptC (a b : Value) : Prop := (a.ownBlock = none ∧ b.ownBlock = none) ∨ a.ownBlock ≠ b.ownBlock
theorem AptC.sym {a b : Value} (h : AptC a b) : AptC b a := h.elim (fun ⟨x, y⟩ => .inl ⟨y, x⟩) (fun x => .inr (Ne.symm x))
theorem AptC.free {a b : Value} (h : AptC a b) : b.ownBlock = none ∨ b.ownBlock ≠ a.ownBlock := h.elim (fun ⟨_, y⟩ => .inl y) (fun x => .inr (Ne.symm x))
theorem AptC.nil (a : Value) : AptC a (.slice none 0 0) := by
  cases h : a.ownBlock with
  | none => exact .inl ⟨h, rfl⟩
  | some k => exact .inr (by rw [h]; simp [Value.ownBlock])
theorem AptC.new {a b : Value} {w : World} {base n : Nat} {e : TypeId} {xs : List Value} {sz : Nat} (hb : w.ownsRow base e sz b n xs) (ha : ∀ k, a.ownBlock = some k → w.heap.size ≤ k) : AptC a b := by
  cases h : a.ownBlock with
  | none =>
    cases h2 : b.ownBlock with
    | none => exact .inl ⟨h, h2⟩
    | some k => exact .inr (by rw [h, h2]; simp)
  | some k =>
    refine .inr fun e => ?_
    have := ha k h
    have := (hb.lt k (e ▸ h)).2
    omega
theorem AptC.grow {a b a' : Value} {w : World} {base n : Nat} {e : TypeId} {xs : List Value} {sz : Nat} (h : AptC a b) (hb : w.ownsRow base e sz b n xs) (ha : a'.ownBlock = a.ownBlock ∨ a'.ownBlock = some w.heap.size) : AptC a' b := by
  rcases ha with ha | ha
  · rcases h with ⟨x, y⟩ | x
    · exact .inl ⟨ha.trans x, y⟩
    · exact .inr (by rw [ha]; exact x)
  · exact AptC.new hb fun k e => by rw [ha] at e; cases e; exact Nat.le_refl _
theorem own_blockC {w w' : World} {base n : Nat} {e : TypeId} {sz : Nat} {v : Value} {xs : List Value} (h : w.ownsRow base e sz v n xs) (hb : ∀ k, v.ownBlock = some k → w'.heap[k]? = w.heap[k]?) : w'.ownsRow base e sz v n xs := by
  refine ⟨h.1, ?_⟩
  rcases h.2 with hn | ⟨g, cap, cur, hv, h1, h2, r⟩
  · exact .inl hn
  · exact .inr ⟨g, cap, cur, hv, h1, (hb g (by rw [hv]; rfl)).trans h2, r⟩
theorem own_lowC {w : World} {base base' n : Nat} {e : TypeId} {sz : Nat} {v : Value} {xs : List Value} (h : w.ownsRow base e sz v n xs) (hb : base' ≤ base) : w.ownsRow base' e sz v n xs := by
  refine ⟨h.1, ?_⟩
  rcases h.2 with hn | ⟨g, cap, cur, hv, h1, r⟩
  · exact .inl hn
  · exact .inr ⟨g, cap, cur, hv, Nat.le_trans hb h1, r⟩
theorem own_nilcapC {w : World} {base n c : Nat} {e : TypeId} {sz : Nat} {A : Option Addr} {xs : List Value} (h : w.ownsRow base e sz (.slice A n c) n xs) : A = none → c = 0 := fun ha => by
  rcases h.2 with ⟨e1, _⟩ | ⟨g, cap, cur, e1, _⟩
  · cases e1; rfl
  · cases e1; cases ha

structure Cs (W0 W : World) (t sz : Nat) (v : Value) (n : Nat) (xs : List Value) (u : Value) (k : Nat) (ys : List Value) : Prop where
  b : W.ownsRow W0.heap.size t sz v n xs
  e : W.ownsRow W0.heap.size 27 5 u k ys
  ap : AptC v u
  bl : Below W0.heap.size W0 W
section
variable {W0 W W' : World} {t sz t' sz' : Nat} {v v' u u' : Value} {n k n' k' : Nat} {xs ys xs' ys' : List Value}
theorem Cs.start (W0 : World) : Cs W0 W0 5 1 (.slice none 0 0) 0 [] (.slice none 0 0) 0 [] :=
  ⟨World.ownsRow_nil _ _ _ _, World.ownsRow_nil _ _ _ _, AptC.nil _, Below.refl _ _⟩
theorem Cs.quiet (h : Cs W0 W t sz v n xs u k ys) (hB : Below W.heap.size W W') : Cs W0 W' t sz v n xs u k ys :=
  ⟨own_blockC h.b fun j e => hB.block j (h.b.lt j e).2, own_blockC h.e fun j e => hB.block j (h.e.lt j e).2, h.ap, h.bl.trans (hB.mono h.bl.size)⟩
theorem Cs.madeB (h : Cs W0 W t sz v n xs u k ys) : Cs W0 (W.alloc (.cells #[] 5)) 5 1 (.slice (some ⟨W.heap.size, 0, none⟩) 0 0) 0 [] u k ys :=
  ⟨World.ownsRow_made W #[] 0 h.bl.size (by decide) rfl, h.e.alloc _, AptC.new h.e fun j e => by cases e; exact Nat.le_refl _, h.bl.alloc h.bl.size _⟩
theorem Cs.madeE (h : Cs W0 W t sz v n xs u k ys) : Cs W0 (W.alloc (.cells #[] 27)) t sz v n xs (.slice (some ⟨W.heap.size, 0, none⟩) 0 0) 0 [] :=
  ⟨h.b.alloc _, World.ownsRow_made W #[] 0 h.bl.size (by decide) rfl, (AptC.new h.b fun j e => by cases e; exact Nat.le_refl _).sym, h.bl.alloc h.bl.size _⟩
theorem Cs.appB (h : Cs W0 W t sz v n xs u k ys) (ho : W'.ownsRow W0.heap.size t sz v' n' xs') (hg : W.grownBy W' v.ownBlock) (ha : v'.ownBlock = v.ownBlock ∨ v'.ownBlock = some W.heap.size) : Cs W0 W' t sz v' n' xs' u k ys :=
  ⟨ho, h.e.kept hg h.ap.free, h.ap.grow h.e ha, h.bl.grown hg h.bl.size fun j e => (h.b.lt j e).1⟩
theorem Cs.appE (h : Cs W0 W t sz v n xs u k ys) (ho : W'.ownsRow W0.heap.size 27 5 u' k' ys') (hg : W.grownBy W' u.ownBlock) (ha : u'.ownBlock = u.ownBlock ∨ u'.ownBlock = some W.heap.size) : Cs W0 W' t sz v n xs u' k' ys' :=
  ⟨h.b.kept hg h.ap.sym.free, ho, (h.ap.sym.grow h.b ha).sym, h.bl.grown hg h.bl.size fun j e => (h.e.lt j e).1⟩
theorem Cs.got (h : Cs W0 W t sz v n xs u k ys) (ho : W'.ownsRow W.heap.size t' sz' v' n' xs') (hB : Below W.heap.size W W') : Cs W0 W' t' sz' v' n' xs' u k ys :=
  ⟨own_lowC ho h.bl.size, own_blockC h.e fun j e => hB.block j (h.e.lt j e).2, AptC.new h.e fun j e => (ho.lt j e).1, h.bl.trans (hB.mono h.bl.size)⟩
end
end Go.Proofs.Ytmiannlghigagaa
