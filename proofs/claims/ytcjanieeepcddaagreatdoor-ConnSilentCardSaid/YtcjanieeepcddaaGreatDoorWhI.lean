/-
  The wheel's map: which handle is armed for which tick.
-/
import Derived.Maps.RangeWalk
import Derived.Test.YtcjanieeepcddaaGreatDoorWhH
namespace Go.Proofs.YtcjanieeepcddaaGreatDoor
open Go.RowKit Go.Maps

def wfI (h : Int) : Prop := (Lit.int .i64 h).wf = true
theorem wfI_of {h : Int} (h1 : -9223372036854775808 ≤ h) (h2 : h ≤ 9223372036854775807) : wfI h := by
  simp only [wfI, Lit.wf, IntKind.min, IntKind.max, IntKind.signed, IntKind.bits, Bool.and_eq_true, decide_eq_true_eq, if_true]
  omega
theorem key_int (h : Int) : WideAt.IsKeyLit (Lit.int .i64 h) := by constructor
theorem key_ne {h h' : Int} (e : h' ≠ h) : Lit.int .i64 h' ≠ Lit.int .i64 h := fun x => e (by injection x)
theorem keyed : Keyed Tryz.prog 3 := int_keyed Tryz.underlying3

def setM (M : Int → Option Int) (h : Int) (v : Option Int) : Int → Option Int := fun x => if x = h then v else M x
set_option maxRecDepth 100000 in
theorem setM_same (M : Int → Option Int) (h : Int) (v : Option Int) : setM M h v h = v := if_pos rfl
set_option maxRecDepth 100000 in
theorem setM_other (M : Int → Option Int) {h x : Int} (v : Option Int) (e : x ≠ h) : setM M h v x = M x := if_neg e

/-- Block m is the map: M says whose tick is which; k handles. -/
def Mp (w : World) (m nb : Nat) (M : Int → Option Int) (k : Nat) : Prop :=
  ∃ D : DataW Unit, w.ownsMap Tryz.prog 3 (plainElem Tryz.prog 3) m nb D ∧ (∀ h, Maps.has D (.int .i64 h) = (M h).isSome) ∧ (∀ h t, M h = some t → ∀ z, D.atKey (.int .i64 h) z = .lit (.int .i64 t)) ∧ Maps.size D = k

section
variable {w w' : World} {m nb k : Nat} {M : Int → Option Int}
theorem Mp.lt (h : Mp w m nb M k) : m < w.heap.size := let ⟨_, h, _⟩ := h; h.lt
theorem Mp.le (h : Mp w m nb M k) : k ≤ nb := by
  obtain ⟨D, h, _, _, rfl⟩ := h
  exact h.size_le
theorem Mp.kept {row : Option Nat} (h : Mp w m nb M k) (hg : w.grownBy w' row) (hne : some m ≠ row) : Mp w' m nb M k := by
  obtain ⟨D, h, r⟩ := h
  exact ⟨D, h.kept hg hne, r⟩
theorem Mp.setCell (h : Mp w m nb M k) {a : Addr} (ha : m ≠ a.block) (u : Value) : Mp (w.setCell a u) m nb M k := by
  obtain ⟨D, h, r⟩ := h
  exact ⟨D, h.setCell ha u, r⟩
theorem Mp.alloc (h : Mp w m nb M k) (o : Obj) : Mp (w.alloc o) m nb M k := h.kept (World.grownBy_alloc w o none) (by simp)
theorem Mp.drew (h : Mp w m nb M k) (j : Nat) : Mp (w.drewN j) m nb M k := by
  obtain ⟨D, h, r⟩ := h
  exact ⟨D, h, r⟩
theorem Mp.below (h : Mp w m nb M k) (hB : Below w.heap.size w w') : Mp w' m nb M k := h.kept (grown_of_below hB none) (by simp)
set_option maxRecDepth 100000 in
theorem Mp.look (h : Mp w m nb M k) {x : Int} (hx : wfI x) : ∃ c : Int, (Instr.lookup 116 (.map (some m)) (.int .i64 x) true).run Tryz.prog w = .ok (.tuple #[.int .i64 c, .bool (M x).isSome]) w ∧ ∀ t, M x = some t → c = t := by
  obtain ⟨D, h, h1, h2, _⟩ := h
  obtain ⟨v, ps, hrun, hv⟩ := h.look_ok keyed Tryz.underlying116 (z := .int .i64 0) (Tryz.zeroValue3 w) (zd := .lit (.int .i64 0)) (zp := []) (plainElem_int Tryz.underlying3 (by decide)) (keyOf_int_mk Tryz.underlying3 hx)
  obtain ⟨c, rfl, hc, _⟩ := plainElem_int_inv Tryz.underlying3 hv
  rw [h1] at hrun
  refine ⟨c, hrun, fun t ht => ?_⟩
  have e := congrArg Prod.fst hc
  simp only at e
  rw [h2 x t ht] at e
  injection e with e
  injection e with _ e
  exact e.symm
set_option maxRecDepth 100000 in
theorem Mp.del (h : Mp w m nb M k) {x : Int} (hx : wfI x) (ty : TypeId) : ∃ w', (Builtin.delete_ #[116, 3] ty #[.map (some m), .int .i64 x]).run Tryz.prog w = .ok (.tuple #[]) w' ∧ Mp w' m nb (setM M x none) (k - if (M x).isSome then 1 else 0) ∧ w.mapTurned w' m := by
  obtain ⟨D, h, h1, h2, h3⟩ := h
  obtain ⟨w', hrun, ho, ht⟩ := h.drop keyed Tryz.underlying116 (keyOf_int_mk Tryz.underlying3 hx) ty
  refine ⟨w', hrun, ⟨_, ho, fun y => ?_, fun y t hy z => ?_, ?_⟩, ht⟩
  · by_cases e : y = x
    · subst e; rw [setM_same, has_del_same]; rfl
    · rw [setM_other M none e, has_del_other (key_ne e)]; exact h1 y
  · by_cases e : y = x
    · subst e; rw [setM_same] at hy; cases hy
    · rw [setM_other M none e] at hy; rw [atKey_del_other (key_ne e)]; exact h2 y t hy z
  · have := size_del (k := Lit.int .i64 x) (h.tidy keyed)
    rw [h1, h3] at this
    omega
set_option maxRecDepth 100000 in
theorem Mp.put (h : Mp w m nb M k) (hn : nb < maxLen) {x t : Int} (hx : wfI x) (ht : wfI t) : ∃ w', (Instr.mapUpdate 116 (.map (some m)) (.int .i64 x) (.int .i64 t)).run Tryz.prog w = .ok () w' ∧ Mp w' m (nb + 1) (setM M x (some t)) (if (M x).isSome then k else k + 1) ∧ w.mapTurned w' m := by
  obtain ⟨D, h, h1, h2, h3⟩ := h
  obtain ⟨w', hrun, ho, htu⟩ := h.store keyed Tryz.underlying116 hn (keyOf_int_mk Tryz.underlying3 hx) (plainElem_int Tryz.underlying3 ht)
  refine ⟨w', hrun, ⟨_, ho, fun y => ?_, fun y s hy z => ?_, ?_⟩, htu⟩
  · by_cases e : y = x
    · subst e; rw [setM_same, has_put_same h.isMap (key_int y)]; rfl
    · rw [setM_other M _ e, has_put_other (key_ne e)]; exact h1 y
  · by_cases e : y = x
    · subst e; rw [setM_same] at hy; cases hy; rw [atKey_put_same h.isMap (key_int y)]
    · rw [setM_other M _ e] at hy; rw [atKey_put_other (key_ne e)]; exact h2 y s hy z
  · rw [size_put (h.tidy keyed), h1, h3]
theorem Mp.made (w : World) : Mp (w.alloc (.map #[] 0)) w.heap.size 0 (fun _ => none) 0 :=
  ⟨.map [], World.ownsMap_made w _ _ _, fun _ => rfl, fun x t (h : (none : Option Int) = some t) => (by cases h), rfl⟩
end

/-- The whole wheel: its lists, and its map. -/
structure Whl (w : World) (base b m nb : Nat) (S : Nat → Value) (N : Nat → List Due) (now : Int) (M : Int → Option Int) (k : Nat) : Prop where
  st : WSt w base b m S N now
  mp : Mp w m nb M k
section
variable {w w' : World} {base b m nb k : Nat} {S : Nat → Value} {N : Nat → List Due} {now : Int} {M : Int → Option Int}
theorem Whl.below (h : Whl w base b m nb S N now M k) (hB : Below w.heap.size w w') : Whl w' base b m nb S N now M k := ⟨h.st.below hB, h.mp.below hB⟩
theorem WSt.turned (h : WSt w base b m S N now) (ht : w.mapTurned w' m) : WSt w' base b m S N now :=
  h.kept ht.grown (by have := h.ne; simp; omega) (fun i hi => by
    cases hS : (S i).ownBlock with
    | none => exact .inl rfl
    | some j => exact .inr (fun e => (h.off i hi).2 (hS.trans e)))
/-- A turn of the lists leaves the map. -/
theorem Mp.fr {S' : Nat → Value} (h : Mp w m nb M k) (hst : WSt w base b m S N now) (hf : Fr w w' b S S') : Mp w' m nb M k := by
  obtain ⟨D, h, r⟩ := h
  have hlt := h.lt
  obtain ⟨es, clock, hb, F, hs, hD⟩ := h
  exact ⟨D, ⟨es, clock, (hf.block m hlt hst.ne (fun i hi => (hst.off i hi).2)).trans hb, F, hs, hD⟩, r⟩
end

/-- What a whole turn leaves: as Fr, but for the map. -/
structure Fm (w w' : World) (b m : Nat) (S S' : Nat → Value) : Prop where
  os : w'.os = w.os
  tape : w'.tape = w.tape
  output : w'.output = w.output
  size : w.heap.size ≤ w'.heap.size
  block : ∀ k, k < w.heap.size → k ≠ b → k ≠ m → (∀ i, i < 49 → (S i).ownBlock ≠ some k) → w'.heap[k]? = w.heap[k]?
  new : ∀ i, i < 49 → ∀ k, (S' i).ownBlock = some k → (∃ j, j < 49 ∧ (S j).ownBlock = some k) ∨ w.heap.size ≤ k
theorem Fr.fm {w w' : World} {b : Nat} {S S' : Nat → Value} (h : Fr w w' b S S') (m : Nat) : Fm w w' b m S S' :=
  ⟨h.os, h.tape, h.output, h.size, fun k h1 h2 _ h3 => h.block k h1 h2 h3, h.new⟩
theorem Fm.turned {w w' : World} {m : Nat} (h : w.mapTurned w' m) (b : Nat) (S : Nat → Value) : Fm w w' b m S S :=
  ⟨h.grown.os, h.grown.tape, h.grown.output, h.grown.size, fun k h1 _ h2 _ => h.grown.block k h1 (by simpa using h2), fun i hi _ e => .inl ⟨i, hi, e⟩⟩
theorem Fm.refl (w : World) (b m : Nat) (S : Nat → Value) : Fm w w b m S S := (Fr.refl w b S).fm m
theorem Fm.quiet {w w' : World} (h : Below w.heap.size w w') (b m : Nat) (S : Nat → Value) : Fm w w' b m S S := (Fr.quiet h b S).fm m
theorem Fm.trans {w w' w'' : World} {b m : Nat} {S S' S'' : Nat → Value} (h : Fm w w' b m S S') (h' : Fm w' w'' b m S' S'') : Fm w w'' b m S S'' where
  os := h'.os.trans h.os
  tape := h'.tape.trans h.tape
  output := h'.output.trans h.output
  size := Nat.le_trans h.size h'.size
  block := fun k hk hb hm hS => (h'.block k (Nat.lt_of_lt_of_le hk h.size) hb hm (fun i hi e => by
    rcases h.new i hi k e with ⟨j, hj, ej⟩ | hl
    · exact hS j hj ej
    · omega)).trans (h.block k hk hb hm hS)
  new := fun i hi k e => by
    rcases h'.new i hi k e with ⟨j, hj, ej⟩ | hl
    · exact h.new j hj k ej
    · exact .inr (Nat.le_trans h.size hl)
theorem Fm.below {w w' : World} {base b m : Nat} {S S' : Nat → Value} (h : Fm w w' b m S S') (hb : base ≤ b) (hm : base ≤ m) (hS : ∀ i, i < 49 → ∀ k, (S i).ownBlock = some k → base ≤ k) (hbase : base ≤ w.heap.size) : Below base w w' where
  os := h.os
  tape := h.tape
  output := h.output
  size := h.size
  block := fun k hk => h.block k (by omega) (by omega) (by omega) (fun i hi e => by have := hS i hi k e; omega)
theorem WSt.low {w : World} {base b m : Nat} {S : Nat → Value} {N : Nat → List Due} {now : Int} (h : WSt w base b m S N now) : ∀ i, i < 49 → ∀ k, (S i).ownBlock = some k → base ≤ k := fun i hi k e => ((h.rows i hi).lt k e).1
end Go.Proofs.YtcjanieeepcddaaGreatDoor
