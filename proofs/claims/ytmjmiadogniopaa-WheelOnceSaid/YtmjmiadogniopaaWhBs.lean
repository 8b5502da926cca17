/-
  A map from integers to bool, as a set.
-/
import Derived.Test.YtmjmiadogniopaaWhTwo
namespace Go.Proofs.Ytmjmiadogniopaa
open Go.RowKit Go.Maps

theorem plainElem_bool_inv {H : Type} {P : Program} {e : TypeId} (he : P.underlying e = some .bool) {v : Value} {z : DataW H × List MemPlace} (h : plainElem P e v = some z) : ∃ x, v = .bool x ∧ z = (.lit (.bool x), []) := by
  unfold plainElem at h
  rw [he] at h
  cases v <;> simp at h
  exact ⟨_, rfl, h.symm⟩

def setB (M : Int → Bool) (h : Int) : Int → Bool := fun x => if x = h then true else M x
theorem setB_same (M : Int → Bool) (h : Int) : setB M h h = true := if_pos rfl
theorem setB_other (M : Int → Bool) {h x : Int} (e : x ≠ h) : setB M h x = M x := if_neg e
/-- Block m is the set M; k members. -/
def Bs (w : World) (m nb : Nat) (M : Int → Bool) (k : Nat) : Prop :=
  ∃ D : DataW Unit, w.ownsMap Try.prog 3 (plainElem Try.prog 4) m nb D ∧ (∀ h, Maps.has D (.int .i64 h) = M h) ∧ (∀ h, M h = true → ∀ z, D.atKey (.int .i64 h) z = .lit (.bool true)) ∧ Maps.size D = k
section
variable {w w' : World} {m nb k : Nat} {M : Int → Bool}
theorem Bs.lt (h : Bs w m nb M k) : m < w.heap.size := let ⟨_, h, _⟩ := h; h.lt
theorem Bs.same (h : Bs w m nb M k) (hb : w'.heap[m]? = w.heap[m]?) : Bs w' m nb M k := by
  obtain ⟨D, ⟨es, clock, h1, r1⟩, r⟩ := h
  exact ⟨D, ⟨es, clock, hb.trans h1, r1⟩, r⟩
theorem Bs.look (h : Bs w m nb M k) {x : Int} (hx : wfI x) : (Instr.lookup 28 (.map (some m)) (.int .i64 x) false).run Try.prog w = .ok (.bool (M x)) w := by
  obtain ⟨D, h, h1, h2, _⟩ := h
  obtain ⟨v, ps, hrun, hv⟩ := h.lookup keyed Try.underlying28 (z := .bool false) (Try.zeroValue4 w) (zd := .lit (.bool false)) (zp := []) (plainElem_bool Try.underlying4 false) (keyOf_int_mk Try.underlying3 hx)
  obtain ⟨c, rfl, hc⟩ := plainElem_bool_inv Try.underlying4 hv
  rw [hrun]
  have e := congrArg Prod.fst hc
  simp only at e
  cases hM : M x with
  | true =>
    rw [h2 x hM] at e
    injection e with e
    injection e with e
    rw [← e]
  | false =>
    rw [atKey_of_not_has (by rw [h1]; exact hM)] at e
    injection e with e
    injection e with e
    rw [← e]
theorem Bs.put (h : Bs w m nb M k) (hn : nb < maxLen) {x : Int} (hx : wfI x) : ∃ w', (Instr.mapUpdate 28 (.map (some m)) (.int .i64 x) (.bool true)).run Try.prog w = .ok () w' ∧ Bs w' m (nb + 1) (setB M x) (if M x then k else k + 1) ∧ w.mapTurned w' m := by
  obtain ⟨D, h, h1, h2, h3⟩ := h
  obtain ⟨w', hrun, ho, htu⟩ := h.store keyed Try.underlying28 hn (keyOf_int_mk Try.underlying3 hx) (plainElem_bool Try.underlying4 true)
  refine ⟨w', hrun, ⟨_, ho, fun y => ?_, fun y hy z => ?_, ?_⟩, htu⟩
  · by_cases e : y = x
    · subst e; rw [setB_same, has_put_same h.isMap (key_int y)]
    · rw [setB_other M e, has_put_other (key_ne e)]; exact h1 y
  · by_cases e : y = x
    · subst e; rw [atKey_put_same h.isMap (key_int y)]
    · rw [setB_other M e] at hy; rw [atKey_put_other (key_ne e)]; exact h2 y hy z
  · rw [size_put (h.tidy keyed), h1, h3]
theorem Bs.made (w : World) : Bs (w.alloc (.map #[] 0)) w.heap.size 0 (fun _ => false) 0 :=
  ⟨.map [], World.ownsMap_made w _ _ _, fun _ => rfl, fun _ (h : false = true) => (by cases h), rfl⟩
theorem Bs.len (h : Bs w m nb M k) (ty : TypeId) : (Builtin.len_ #[28] ty #[.map (some m)]).run Try.prog w = .ok (.int .i64 k) w := by
  obtain ⟨D, h, _, _, rfl⟩ := h
  exact h.len Try.underlying28 ty
end
end Go.Proofs.Ytmjmiadogniopaa
