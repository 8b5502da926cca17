/-
  A map from tokens to owners; the table beside it.
-/
import Derived.Test.YtdmmcgcglkblhaaDoorTkL
namespace Go.Proofs.YtdmmcgcglkblhaaDoor
open Go.RowKit Go.Maps

abbrev wfJ (h : Int) : Prop := (Lit.int .i64 h).wf = true
theorem wfJ_of {h : Int} (h1 : -9223372036854775808 ≤ h) (h2 : h ≤ 9223372036854775807) : wfJ h := by
  simp only [wfJ, Lit.wf, IntKind.min, IntKind.max, IntKind.signed, IntKind.bits, Bool.and_eq_true, decide_eq_true_eq, if_true]
  omega
def setO (M : Int → Option Int) (h : Int) (v : Option Int) : Int → Option Int := fun x => if x = h then v else M x
theorem setO_same (M : Int → Option Int) (h : Int) (v : Option Int) : setO M h v h = v := if_pos rfl
theorem setO_other (M : Int → Option Int) {h x : Int} (v : Option Int) (e : x ≠ h) : setO M h v x = M x := if_neg e
/-- Block m is the map M; k tokens. -/
def Ow (w : World) (m nb : Nat) (M : Int → Option Int) (k : Nat) : Prop :=
  ∃ D : DataW Unit, w.ownsMap Tryd.prog 30 (plainElem Tryd.prog 3) m nb D ∧ (∀ h, Maps.has D (.int .u32 h) = (M h).isSome) ∧ (∀ h t, M h = some t → ∀ z, D.atKey (.int .u32 h) z = .lit (.int .i64 t)) ∧ Maps.size D = k
section
variable {w w' : World} {m nb k : Nat} {M : Int → Option Int}
theorem Ow.lt (h : Ow w m nb M k) : m < w.heap.size := let ⟨_, h, _⟩ := h; h.lt
theorem Ow.same (h : Ow w m nb M k) (hb : w'.heap[m]? = w.heap[m]?) : Ow w' m nb M k := by
  obtain ⟨D, ⟨es, clock, h1, r1⟩, r⟩ := h
  exact ⟨D, ⟨es, clock, hb.trans h1, r1⟩, r⟩
theorem Ow.put (h : Ow w m nb M k) (hn : nb < maxLen) {x t : Int} (hx : wfU x) (ht : wfJ t) : ∃ w', (Instr.mapUpdate 38 (.map (some m)) (.int .u32 x) (.int .i64 t)).run Tryd.prog w = .ok () w' ∧ Ow w' m (nb + 1) (setO M x (some t)) (if (M x).isSome then k else k + 1) ∧ w.mapTurned w' m := by
  obtain ⟨D, h, h1, h2, h3⟩ := h
  obtain ⟨w', hrun, ho, htu⟩ := h.store keyedU Tryd.underlying38 hn (keyOf_int_mk Tryd.underlying30 hx) (plainElem_int Tryd.underlying3 ht)
  refine ⟨w', hrun, ⟨_, ho, fun y => ?_, fun y s hy z => ?_, ?_⟩, htu⟩
  · by_cases e : y = x
    · subst e; rw [setO_same, has_put_same h.isMap (key_u y)]; rfl
    · rw [setO_other M _ e, has_put_other (key_une e)]; exact h1 y
  · by_cases e : y = x
    · subst e; rw [setO_same] at hy; cases hy; rw [atKey_put_same h.isMap (key_u y)]
    · rw [setO_other M _ e] at hy; rw [atKey_put_other (key_une e)]; exact h2 y s hy z
  · rw [size_put (h.tidy keyedU), h1, h3]
theorem Ow.made (w : World) : Ow (w.alloc (.map #[] 0)) w.heap.size 0 (fun _ => none) 0 :=
  ⟨.map [], World.ownsMap_made w _ _ _, fun _ => rfl, fun x t (h : (none : Option Int) = some t) => (by cases h), rfl⟩
theorem Ow.len (h : Ow w m nb M k) (ty : TypeId) : (Builtin.len_ #[38] ty #[.map (some m)]).run Tryd.prog w = .ok (.int .i64 k) w := by
  obtain ⟨D, h, _, _, rfl⟩ := h
  exact h.len Tryd.underlying38 ty
end

/-- The table, and who took what, behind i keys. -/
structure Oz (w wr : World) (b m nb mo nbo : Nat) (M : Int → Option En) (OM : Int → Option Int) (k : Nat) (ks : List Int) (i : Nat) : Prop where
  tb : Tb wr m b m nb 64 M k
  ow : Ow wr mo nbo OM k
  nm : mo ≠ m
  nb : mo ≠ b
  low : m ≤ mo
  eq : ∀ t, OM t = (M t).map (·.o)
  live : ∀ t x, M t = some x → x.l = true
  done : ∀ key ∈ ks.take i, (M (tokN key)).isSome = true
  below : Below w.heap.size w wr
  hm : w.heap.size ≤ m
section
variable {w wr w' : World} {b m nb mo nbo k i : Nat} {M : Int → Option En} {OM : Int → Option Int} {ks : List Int}
theorem Oz.quiet (h : Oz w wr b m nb mo nbo M OM k ks i) (hB : Below wr.heap.size wr w') : Oz w w' b m nb mo nbo M OM k ks i :=
  ⟨h.tb.below hB, h.ow.same (hB.block mo h.ow.lt), h.nm, h.nb, h.low, h.eq, h.live, h.done, h.below.trans (hB.mono h.below.size), h.hm⟩
/-- A key that is there already. -/
theorem Oz.known (h : Oz w wr b m nb mo nbo M OM k ks i) (hT : Tb w' m b m nb 64 M k) (hF : Ft wr w' m) {key : Int} (hk : ks[i]? = some key) (hM : (M (tokN key)).isSome = true) : Oz w w' b m nb mo nbo M OM k ks (i + 1) where
  tb := hT
  ow := h.ow.same (hF.block mo h.ow.lt h.nm)
  nm := h.nm
  nb := h.nb
  low := h.low
  eq := h.eq
  live := h.live
  done := fun x hx => by
    rw [List.take_add_one, hk] at hx
    rcases List.mem_append.1 hx with h1 | h1
    · exact h.done x h1
    · obtain rfl : x = key := by simpa using h1
      exact hM
  below := h.below.trans (hF.below h.hm h.below.size)
  hm := h.hm
/-- A key that was taken: the table's part. -/
theorem Oz.took (h : Oz w wr b m nb mo nbo M OM k ks i) {o t : Int} (hM : M t = none) (hT : Tb w' m b m (nb + 1) 64 (setT M t (some ⟨o, true, 0⟩)) (k + 1)) (hF : Ft wr w' m) (hn : nbo < maxLen) (ht : wfU t) (ho : wfJ o) {key : Int} (hk : ks[i]? = some key) (hkt : tokN key = t) {w2 : World} (hB : Below w'.heap.size w' w2) :
    ∃ w3, (Instr.mapUpdate 38 (.map (some mo)) (.int .u32 t) (.int .i64 o)).run Tryd.prog w2 = .ok () w3 ∧ Oz w w3 b m (nb + 1) mo (nbo + 1) (setT M t (some ⟨o, true, 0⟩)) (setO OM t (some o)) (k + 1) ks (i + 1) := by
  have ho1 := h.ow.same (hF.block mo h.ow.lt h.nm)
  have ho2 := ho1.same (hB.block mo ho1.lt)
  obtain ⟨w3, hr, ho3, ht3⟩ := ho2.put hn ht ho
  rw [show OM t = none by rw [h.eq, hM]; rfl] at ho3
  have hg := ht3.grown
  have hT2 := hT.below hB
  have hb2 : Below w.heap.size w w2 := (h.below.trans (hF.below h.hm h.below.size)).trans (hB.mono (h.below.trans (hF.below h.hm h.below.size)).size)
  refine ⟨w3, hr, ⟨hT2.lowb, hT2.lowm, hT2.ne, (hg.block b hT2.lt (fun e => h.nb (by cases e; rfl))).trans hT2.blk, hT2.mp.same (hg.block m hT2.mp.lt (fun e => h.nm (by cases e; rfl)))⟩, ho3, h.nm, h.nb, h.low, fun y => ?_, fun y x hx => ?_, fun x hx => ?_,
    hb2.grown hg hb2.size (fun j e => by cases e; exact Nat.le_trans h.hm h.low), h.hm⟩
  · by_cases e : y = t
    · subst e; rw [setO_same, setT_same]; rfl
    · rw [setO_other _ _ e, setT_other _ _ e]; exact h.eq y
  · by_cases e : y = t
    · subst e; rw [setT_same] at hx; cases hx; rfl
    · rw [setT_other _ _ e] at hx; exact h.live y x hx
  · rw [List.take_add_one, hk] at hx
    rcases List.mem_append.1 hx with h1 | h1
    · by_cases e : tokN x = t
      · rw [e, setT_same]; rfl
      · rw [setT_other _ _ e]; exact h.done x h1
    · obtain rfl : x = key := by simpa using h1
      rw [hkt, setT_same]; rfl
end
end Go.Proofs.YtdmmcgcglkblhaaDoor
