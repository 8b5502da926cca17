/-
  Walks and laws, one behind the other (part 36).
-/
import Derived.DeepKeys4
import Derived.Maps.OwnSet
import Derived.Maps.RangeWalk
import Derived.Test.YtjpokeakemlffaaGreatDoorProg
import Derived.Test.YtjpokeakemlffaaGreatDoorS13
set_option linter.unusedSimpArgs false
set_option linter.unusedVariables false
/-
  A log's map: from a side and a handle to the block of a stream.
-/
namespace Go.Proofs.YtjpokeakemlffaaGreatDoor
open Go.RowKit Go.Maps
abbrev nmV (s h : Int) : Value := .agg #[.int .i64 s, .int .i64 h]
def nmL (s h : Int) : Lit := .string (keyBytes [.int .i64 s, .int .i64 h])
set_option maxRecDepth 100000 in
theorem nmLaid : laidOutB Tryz.prog = true := by kernel_rfl
set_option maxRecDepth 100000 in
theorem nmWide : (match (Tryz.prog).underlying 54 with | some (.array _ _) | some (.struct _) => true | _ => false) = true := by rw [Tryz.underlying54]
set_option maxRecDepth 100000 in
set_option maxHeartbeats 1600000 in
theorem nmLaw : WideMaps.KeyLaw Tryz.prog 54 := deep_law_laid nmLaid (m := 2) (by omega) (of_decide_eq_true (by kernel_rfl)) (by kernel_rfl) nmWide
theorem nmKeyed : Keyed Tryz.prog 54 := Keyed.of_law nmLaw
set_option maxRecDepth 100000 in
set_option maxHeartbeats 1600000 in
theorem nm_key {s h : Int} (h1 : wfI s) (h2 : wfI h) : keyOf Tryz.prog 54 (nmV s h) = some (nmL s h) := by
  have g1 : (Lit.int .i64 s).wf = true := h1
  have g2 : (Lit.int .i64 h).wf = true := h2
  have hkt : (Tryz.prog).keyType 54 = true := by kernel_rfl
  have hp : 0 < (Tryz.prog).types.size := of_decide_eq_true (by kernel_rfl)
  obtain ⟨m, hm⟩ : ∃ m, (Tryz.prog).types.size = m + 1 := ⟨_, (Nat.succ_pred_eq_of_pos hp).symm⟩
  have hc : (Tryz.prog).cellsOf 54 = 2 := by kernel_rfl
  have hi : (Tryz.prog).cellsOf 3 = 1 := by kernel_rfl
  unfold keyOf
  simp only [Tryz.underlying54]
  rw [if_pos (by simp [hkt, Value.formed, Tryz.underlying54, hc]), hm]
  unfold Program.keyLits
  simp only [Tryz.underlying54, Value.cells]
  rw [if_pos ⟨by rw [hc]; rfl, by kernel_rfl⟩]
  simp [Program.keyLits, hi, Tryz.underlying3, g1, g2, nmL]
theorem nm_inj {s h s' h' : Int} (h1 : wfI s) (h2 : wfI h) (h3 : wfI s') (h4 : wfI h') (e : nmL s h = nmL s' h') : s = s' ∧ h = h' := by
  have := nmKeyed.inj (nm_key h1 h2) (e ▸ nm_key h3 h4)
  simpa using this
abbrev ptV (b : Nat) : Value := .pointer (some ⟨b, 0, none⟩)
def ptR : Value → Option (DataW Unit × List MemPlace)
  | .pointer (some ⟨b, 0, none⟩) => some (.lit (.int .i64 b), [])
  | .pointer none => some (.nil, [])
  | _ => none
theorem ptR_mk (b : Nat) : ptR (ptV b) = some (.lit (.int .i64 b), []) := rfl
theorem ptR_inv {b : Nat} {v : Value} {ps : List MemPlace} (h : ptR v = some (.lit (.int .i64 b), ps)) : v = ptV b := by
  unfold ptR at h
  split at h
  · rename_i b'
    have := congrArg Prod.fst (Option.some.inj h)
    simp only [DataW.lit.injEq, Lit.int.injEq, true_and] at this
    have e2 : b' = b := Int.ofNat.inj this
    rw [e2]
  · cases h
  · cases h
theorem ptR_none {v : Value} {ps : List MemPlace} (h : ptR v = some (.nil, ps)) : v = .pointer none := by
  unfold ptR at h
  split at h
  · cases h
  · rfl
  · cases h
def setN (M : Int → Int → Option Nat) (s h : Int) (v : Nat) : Int → Int → Option Nat := fun x y => if x = s ∧ y = h then some v else M x y
def seenP : Option Nat → Value
  | some b => ptV b
  | none => .pointer none
def Ms (w : World) (m nb : Nat) (M : Int → Int → Option Nat) (k : Nat) : Prop :=
  ∃ D : DataW Unit, w.ownsMap Tryz.prog 54 ptR m nb D ∧ (∀ s h, wfI s → wfI h → Maps.has D (nmL s h) = (M s h).isSome) ∧ (∀ s h b, wfI s → wfI h → M s h = some b → ∀ z, D.atKey (nmL s h) z = .lit (.int .i64 b)) ∧
    (∀ kl, Maps.has D kl = true → ∃ s h, wfI s ∧ wfI h ∧ kl = nmL s h) ∧ Maps.size D = k
section
variable {w w' : World} {m nb k : Nat} {M : Int → Int → Option Nat}
theorem Ms.lt (h : Ms w m nb M k) : m < w.heap.size := let ⟨_, h, _⟩ := h; h.lt
theorem Ms.same (h : Ms w m nb M k) (hb : w'.heap[m]? = w.heap[m]?) : Ms w' m nb M k := by
  obtain ⟨D, ⟨es, clock, h1, r1⟩, r⟩ := h
  exact ⟨D, ⟨es, clock, hb.trans h1, r1⟩, r⟩
theorem Ms.made (w : World) : Ms (w.alloc (.map #[] 0)) w.heap.size 0 (fun _ _ => none) 0 :=
  ⟨.map [], World.ownsMap_made w _ _ _, fun _ _ _ _ => rfl, fun _ _ _ _ _ h => (by cases h), fun kl h => (by cases h), rfl⟩
theorem Ms.look1 (h : Ms w m nb M k) {s y : Int} (h1 : wfI s) (h2 : wfI y) : (Instr.lookup 52 (.map (some m)) (nmV s y) false).run Tryz.prog w = .ok (seenP (M s y)) w := by
  obtain ⟨D, h, r1, r2, _, _⟩ := h
  obtain ⟨v, ps, hrun, hv⟩ := h.lookup nmKeyed Tryz.underlying52 (z := .pointer none) (Tryz.zeroValue55 w) (zd := .nil) (zp := []) rfl (nm_key h1 h2)
  rw [hrun]
  cases hM : M s y with
  | some b =>
    rw [r2 s y b h1 h2 hM] at hv
    rw [ptR_inv hv]
    rfl
  | none =>
    rw [atKey_of_not_has (by rw [r1 s y h1 h2, hM]; rfl)] at hv
    rw [ptR_none hv]
    rfl
theorem nm_lit (s h : Int) : WideAt.IsKeyLit (nmL s h) := by unfold nmL; constructor
theorem Ms.put (h : Ms w m nb M k) (hn : nb < maxLen) {s y : Int} (b : Nat) (h1 : wfI s) (h2 : wfI y) : ∃ w', (Instr.mapUpdate 52 (.map (some m)) (nmV s y) (ptV b)).run Tryz.prog w = .ok () w' ∧ Ms w' m (nb + 1) (setN M s y b) (if (M s y).isSome then k else k + 1) ∧ w.mapTurned w' m := by
  obtain ⟨D, h, r1, r2, r3, r4⟩ := h
  obtain ⟨w', hrun, ho, htu⟩ := h.store nmKeyed Tryz.underlying52 hn (nm_key h1 h2) (ptR_mk b)
  refine ⟨w', hrun, ⟨_, ho, fun s' y' g1 g2 => ?_, fun s' y' b' g1 g2 hM z => ?_, fun kl hk => ?_, ?_⟩, htu⟩
  · by_cases e : s' = s ∧ y' = y
    · obtain ⟨rfl, rfl⟩ := e
      rw [setN, if_pos ⟨rfl, rfl⟩, has_put_same h.isMap (nm_lit _ _)]; rfl
    · rw [setN, if_neg e, has_put_other (fun x => e (nm_inj g1 g2 h1 h2 x))]; exact r1 s' y' g1 g2
  · by_cases e : s' = s ∧ y' = y
    · obtain ⟨rfl, rfl⟩ := e
      rw [setN, if_pos ⟨rfl, rfl⟩] at hM; cases hM; rw [atKey_put_same h.isMap (nm_lit _ _)]
    · rw [setN, if_neg e] at hM; rw [atKey_put_other (fun x => e (nm_inj g1 g2 h1 h2 x))]; exact r2 s' y' b' g1 g2 hM z
  · by_cases e : kl = nmL s y
    · exact ⟨s, y, h1, h2, e⟩
    · rw [has_put_other e] at hk
      exact r3 kl hk
  · rw [size_put (h.tidy nmKeyed), r1 s y h1 h2, r4]
end
end Go.Proofs.YtjpokeakemlffaaGreatDoor
