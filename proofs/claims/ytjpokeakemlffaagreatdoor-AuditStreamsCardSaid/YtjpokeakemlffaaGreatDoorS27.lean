/-
  Walks and laws, one behind the other (part 27).
-/
import Derived.Maps.OwnSet
import Derived.Maps.RangeWalk
import Derived.Test.YtjpokeakemlffaaGreatDoorProg
import Derived.Test.YtjpokeakemlffaaGreatDoorS2
set_option linter.unusedSimpArgs false
set_option linter.unusedVariables false
/-
  A map from tokens to entries.
-/
namespace Go.Proofs.YtjpokeakemlffaaGreatDoor
open Go.RowKit Go.Maps
structure En where
  o : Int
  l : Bool
  u : Int
def enV (t : Int) (x : En) : Value := .agg #[.int .u32 t, .int .i64 x.o, .bool x.l, .int .i64 x.u]
def enD (t : Int) (x : En) : DataW Unit := .agg [.lit (.int .u32 t), .lit (.int .i64 x.o), .lit (.bool x.l), .lit (.int .i64 x.u)]
def enR : Value → Option (DataW Unit × List MemPlace)
  | .agg ⟨[.int .u32 t, .int .i64 o, .bool l, .int .i64 u]⟩ => some (enD t ⟨o, l, u⟩, [])
  | _ => none
theorem enR_mk (t : Int) (x : En) : enR (enV t x) = some (enD t x, []) := rfl
theorem enR_inv {v : Value} {z : DataW Unit × List MemPlace} (h : enR v = some z) : ∃ t x, v = enV t x ∧ z = (enD t x, []) := by
  unfold enR at h
  split at h
  · rename_i t o l u
    exact ⟨t, ⟨o, l, u⟩, rfl, (Option.some.inj h).symm⟩
  · cases h
theorem enD_inj {t t' : Int} {x x' : En} (h : enD t x = enD t' x') : t = t' ∧ x = x' := by
  obtain ⟨o, l, u⟩ := x
  obtain ⟨o', l', u'⟩ := x'
  simp only [enD, DataW.agg.injEq, List.cons.injEq, DataW.lit.injEq, Lit.int.injEq, Lit.bool.injEq, true_and, and_true] at h
  obtain ⟨h1, h2, h3, h4⟩ := h
  subst h1 h2 h3 h4
  exact ⟨rfl, rfl⟩
abbrev wfU (h : Int) : Prop := (Lit.int .u32 h).wf = true
theorem wfU_of {h : Int} (h1 : 0 ≤ h) (h2 : h ≤ 4294967295) : wfU h := by
  simp only [wfU, Lit.wf, IntKind.min, IntKind.max, IntKind.signed, IntKind.bits, Bool.and_eq_true, decide_eq_true_eq, Bool.false_eq_true, if_false]
  omega
theorem key_u (h : Int) : WideAt.IsKeyLit (Lit.int .u32 h) := by constructor
theorem key_une {h h' : Int} (e : h' ≠ h) : Lit.int .u32 h' ≠ Lit.int .u32 h := fun x => e (by injection x)
theorem keyedU : Keyed Tryz.prog 48 := int_keyed Tryz.underlying48
def setT (M : Int → Option En) (h : Int) (v : Option En) : Int → Option En := fun x => if x = h then v else M x
theorem setT_same (M : Int → Option En) (h : Int) (v : Option En) : setT M h v h = v := if_pos rfl
theorem setT_other (M : Int → Option En) {h x : Int} (v : Option En) (e : x ≠ h) : setT M h v x = M x := if_neg e
def noEn : En := ⟨0, false, 0⟩
def seen (t : Int) : Option En → Value
  | some e => enV t e
  | none => enV 0 noEn
def Mt (w : World) (m nb : Nat) (M : Int → Option En) (k : Nat) : Prop :=
  ∃ D : DataW Unit, w.ownsMap Tryz.prog 48 enR m nb D ∧ (∀ h, Maps.has D (.int .u32 h) = (M h).isSome) ∧ (∀ h x, M h = some x → ∀ z, D.atKey (.int .u32 h) z = enD h x) ∧ Maps.size D = k
section
variable {w w' : World} {m nb k : Nat} {M : Int → Option En}
theorem Mt.lt (h : Mt w m nb M k) : m < w.heap.size := let ⟨_, h, _⟩ := h; h.lt
theorem Mt.same (h : Mt w m nb M k) (hb : w'.heap[m]? = w.heap[m]?) : Mt w' m nb M k := by
  obtain ⟨D, ⟨es, clock, h1, r1⟩, r⟩ := h
  exact ⟨D, ⟨es, clock, hb.trans h1, r1⟩, r⟩
theorem Mt.mono (h : Mt w m nb M k) {nb' : Nat} (hn : nb ≤ nb') : Mt w m nb' M k := by
  obtain ⟨D, h, r⟩ := h
  exact ⟨D, h.mono hn, r⟩
theorem Mt.look (h : Mt w m nb M k) {x : Int} (hx : wfU x) : (Instr.lookup 126 (.map (some m)) (.int .u32 x) true).run Tryz.prog w = .ok (.tuple #[seen x (M x), .bool (M x).isSome]) w := by
  obtain ⟨D, h, h1, h2, _⟩ := h
  obtain ⟨v, ps, hrun, hv⟩ := h.look_ok keyedU Tryz.underlying126 (z := enV 0 noEn) (Tryz.zeroValue50 w) (zd := enD 0 noEn) (zp := []) (enR_mk 0 noEn) (keyOf_int_mk Tryz.underlying48 hx)
  obtain ⟨t, e, rfl, hc⟩ := enR_inv hv
  rw [h1] at hrun
  rw [hrun]
  have e1 := congrArg Prod.fst hc
  simp only at e1
  cases hM : M x with
  | some e' =>
    rw [h2 x e' hM] at e1
    obtain ⟨rfl, rfl⟩ := enD_inj e1
    rfl
  | none =>
    rw [atKey_of_not_has (by rw [h1, hM]; rfl)] at e1
    obtain ⟨rfl, rfl⟩ := enD_inj e1
    rfl
theorem Mt.look1 (h : Mt w m nb M k) {x : Int} (hx : wfU x) : (Instr.lookup 126 (.map (some m)) (.int .u32 x) false).run Tryz.prog w = .ok (seen x (M x)) w := by
  obtain ⟨D, h, h1, h2, _⟩ := h
  obtain ⟨v, ps, hrun, hv⟩ := h.lookup keyedU Tryz.underlying126 (z := enV 0 noEn) (Tryz.zeroValue50 w) (zd := enD 0 noEn) (zp := []) (enR_mk 0 noEn) (keyOf_int_mk Tryz.underlying48 hx)
  obtain ⟨t, e, rfl, hc⟩ := enR_inv hv
  rw [hrun]
  have e1 := congrArg Prod.fst hc
  simp only at e1
  cases hM : M x with
  | some e' =>
    rw [h2 x e' hM] at e1
    obtain ⟨rfl, rfl⟩ := enD_inj e1
    rfl
  | none =>
    rw [atKey_of_not_has (by rw [h1, hM]; rfl)] at e1
    obtain ⟨rfl, rfl⟩ := enD_inj e1
    rfl
theorem Mt.put (h : Mt w m nb M k) (hn : nb < maxLen) {x : Int} (e : En) (hx : wfU x) : ∃ w', (Instr.mapUpdate 126 (.map (some m)) (.int .u32 x) (enV x e)).run Tryz.prog w = .ok () w' ∧ Mt w' m (nb + 1) (setT M x (some e)) (if (M x).isSome then k else k + 1) ∧ w.mapTurned w' m := by
  obtain ⟨D, h, h1, h2, h3⟩ := h
  obtain ⟨w', hrun, ho, htu⟩ := h.store keyedU Tryz.underlying126 hn (keyOf_int_mk Tryz.underlying48 hx) (enR_mk x e)
  refine ⟨w', hrun, ⟨_, ho, fun y => ?_, fun y s hy z => ?_, ?_⟩, htu⟩
  · by_cases e : y = x
    · subst e; rw [setT_same, has_put_same h.isMap (key_u y)]; rfl
    · rw [setT_other M _ e, has_put_other (key_une e)]; exact h1 y
  · by_cases e : y = x
    · subst e; rw [setT_same] at hy; cases hy; rw [atKey_put_same h.isMap (key_u y)]
    · rw [setT_other M _ e] at hy; rw [atKey_put_other (key_une e)]; exact h2 y s hy z
  · rw [size_put (h.tidy keyedU), h1, h3]
theorem Mt.made (w : World) : Mt (w.alloc (.map #[] 0)) w.heap.size 0 (fun _ => none) 0 :=
  ⟨.map [], World.ownsMap_made w _ _ _, fun _ => rfl, fun x t (h : (none : Option En) = some t) => (by cases h), rfl⟩
theorem Mt.len (h : Mt w m nb M k) (ty : TypeId) : (Builtin.len_ #[126] ty #[.map (some m)]).run Tryz.prog w = .ok (.int .i64 k) w := by
  obtain ⟨D, h, _, _, rfl⟩ := h
  exact h.len Tryz.underlying126 ty
end
end Go.Proofs.YtjpokeakemlffaaGreatDoor
