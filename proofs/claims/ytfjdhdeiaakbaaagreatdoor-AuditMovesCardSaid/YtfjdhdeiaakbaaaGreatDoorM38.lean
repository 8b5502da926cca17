/-
  Walks and laws, one behind the other (part 38).
-/
import Derived.Deep.Slices
import Derived.Lib.LaidTab
import Derived.Stop.LaidErr
import Derived.Test.YtfjdhdeiaakbaaaGreatDoorM8
import Derived.Test.YtfjdhdeiaakbaaaGreatDoorM36
set_option linter.unusedSimpArgs false
set_option linter.unusedVariables false
/-
  The moves that the program's text lays: their cells.
-/
namespace Go.Proofs.YtfjdhdeiaakbaaaGreatDoor
open Go.RowKit Go.ChangeShapes Go.WideShapes Go.ChangeAt Go.Deep

/-- An array of rows that reads as these data holds their cells. -/
theorem cells_of_rows {H α : Type} {enc : TypeId × Value → H} {P : Program} {w : World} {base : Nat} {sp : Nat → Bool} {held : Bool} {fuel : Nat} {t e : TypeId} {n sz : Nat} {cs : List Value} {zs : List α} {p : List MemPlace}
    (encα : α → List Value) (datα : α → DataW H) (hinj : ∀ x y, datα x = datα y → x = y) (hlen : ∀ x, (encα x).length = sz) (hsz : 0 < sz)
    (ht : P.underlying t = some (.array n e)) (hce : P.cellsOf e = sz) (hct : P.cellsOf t = n * sz)
    (hdec : ∀ fuel cs y, DataW.trod enc P w base sp held fuel e cs = some y → ∃ x, cs = encα x ∧ y.1 = datα x)
    (h : DataW.trod enc P w base sp held fuel t cs = some (.agg (zs.map datα), p)) : cs = zs.flatMap encα := by
  cases fuel with
  | zero => simp [DataW.trod] at h
  | succ fuel =>
    simp only [DataW.trod, ht, hce, hct] at h
    split at h
    · rename_i hl
      obtain ⟨xs, hm, hx⟩ := Option.map_eq_some_iff.1 h
      have hxs : xs.map (·.1) = zs.map datα := by
        have := congrArg Prod.fst hx
        simpa using this
      have hxl : xs.length = n := by simpa using Lib.mapM_length hm
      have hzl : zs.length = n := by
        have := congrArg List.length hxs
        simp at this
        omega
      apply List.ext_getElem?
      intro i
      by_cases hi : i < n * sz
      · have hq : i / sz < n := Nat.div_lt_of_lt_mul (by rw [Nat.mul_comm]; exact hi)
        have hr : i % sz < sz := Nat.mod_lt _ hsz
        obtain ⟨b, hb, hf⟩ := Lib.mapM_at hm (i / sz) (i / sz) (by simp [hq])
        obtain ⟨x, hc, hd⟩ := hdec _ _ _ hf
        have h2 : (xs.map (·.1))[i / sz]? = some (datα x) := by simp [hb, hd]
        rw [hxs] at h2
        simp only [List.getElem?_map, Option.map_eq_some_iff] at h2
        obtain ⟨z, hz, hzx⟩ := h2
        obtain rfl := hinj _ _ hzx
        have hv : (encα z)[i % sz]? = some ((encα z)[i % sz]'(by rw [hlen]; exact hr)) := List.getElem?_eq_getElem _
        have h3 := flat_at hlen zs (i / sz) z hz (i % sz) _ hv
        have e1 : i / sz * sz + i % sz = i := by rw [Nat.mul_comm]; exact Nat.div_add_mod i sz
        rw [e1] at h3
        have h4 := congrArg (·[i % sz]?) hc
        simp only [List.getElem?_take, List.getElem?_drop, if_pos hr] at h4
        rw [e1] at h4
        rw [h3, h4, hv]
      · rw [List.getElem?_eq_none (by omega), List.getElem?_eq_none (by rw [flat_length hlen, hzl]; omega)]
    · cases h
def mvC (m : Int × Int × Int) : List Value := [.int .i64 m.1, .int .i64 m.2.1, .int .i64 m.2.2]
theorem mvC_length (m : Int × Int × Int) : (mvC m).length = 3 := rfl
def mvD (m : Int × Int × Int) : DataW Unit := .agg [.agg [.lit (.int .i64 m.1), .lit (.int .i64 m.2.1)], .lit (.int .i64 m.2.2)]
theorem mvD_inj (x y : Int × Int × Int) (h : mvD x = mvD y) : x = y := by
  obtain ⟨a, b, c⟩ := x
  obtain ⟨a', b', c'⟩ := y
  simp only [mvD, DataW.agg.injEq, List.cons.injEq, DataW.lit.injEq, Lit.int.injEq, true_and, and_true] at h
  obtain ⟨⟨h1, h2⟩, h3⟩ := h
  rw [h1, h2, h3]
set_option maxRecDepth 100000 in
set_option maxHeartbeats 1600000 in
theorem dec_move {w : World} {enc : TypeId × Value → Unit} {base : Nat} {spare : Nat → Bool} {held : Bool} (n : Nat) (cs : List Value) (y : DataW Unit × List MemPlace)
    (h : DataW.trod enc Tryz.prog w base spare held n 122 cs = some y) : ∃ x : Int × Int × Int, cs = mvC x ∧ y.1 = mvD x := by
  obtain ⟨xs, k, _, e0, hl, hx, hf⟩ := DataW.trod_struct Tryz.underlying122 h
  have hc : (Tryz.prog).cellsOf 122 = 3 := by kernel_rfl
  have h2 : (Tryz.prog).cellsOf 120 = 2 := by kernel_rfl
  have h3 : (Tryz.prog).cellsOf 3 = 1 := by kernel_rfl
  rw [hc] at hl
  match cs, hl with
  | [c0, c1, c2], _ =>
    match xs, hx with
    | [y0, y1], _ =>
      have g0 := hf 0 _ rfl
      have g1 := hf 1 _ rfl
      simp [h2, h3] at g0 g1
      obtain ⟨xs', k', _, e0', _, hx', hf'⟩ := DataW.trod_struct Tryz.underlying120 g0
      match xs', hx' with
      | [z0, z1], _ =>
        have i0 := hf' 0 _ rfl
        have i1 := hf' 1 _ rfl
        simp [h3] at i0 i1
        obtain ⟨n0, q0, d0, _⟩ := DataW.trod_int Tryz.underlying3 i0
        obtain ⟨n1, q1, d1, _⟩ := DataW.trod_int Tryz.underlying3 i1
        obtain ⟨n2, q2, d2, _⟩ := DataW.trod_int Tryz.underlying3 g1
        simp at q0 q1 q2
        subst q0 q1 q2
        refine ⟨(n0, n1, n2), rfl, ?_⟩
        simp only [e0, e0', d0, d1, d2, List.map_cons, List.map_nil, mvD]
/-- The moves are laid. -/
def Gm (w : World) : Prop := 0 < w.heap.size ∧ ∀ i v, (mvL.flatMap mvC)[i]? = some v → w.cell? ⟨0, i, none⟩ = some v
theorem Gm.below {w w' : World} (h : Gm w) (hB : Below w.heap.size w w') : Gm w' := ⟨Nat.lt_of_lt_of_le h.1 hB.size, fun i v hv => (World.cell?_of_block (hB.block _ h.1)).trans (h.2 i v hv)⟩
theorem gm_of_laid {W : World} {rest : List (String × DataW Unit)} (h : laidMet Tryz.prog (("ferrybridge/close.moves", .agg (mvL.map mvD)) :: rest) W) : Gm W := by
  obtain ⟨ps, ⟨g', t', cs, fuel, p, q, hg', ht', hvar, hd, _, _⟩, _⟩ := h
  have hg : (Tryz.prog).globalNamed "ferrybridge/close.moves" = some 0 := by kernel_rfl
  have hty : ((Tryz.prog).globals[(0 : Nat)]?).map (·.type) = some 123 := by kernel_rfl
  obtain rfl := Option.some.inj (hg.symm.trans hg')
  obtain rfl := Option.some.inj (hty.symm.trans ht')
  have hcs : cs.toList = mvL.flatMap mvC := cells_of_rows mvC mvD mvD_inj mvC_length (by decide) Tryz.underlying123 (by kernel_rfl) (by kernel_rfl) dec_move hd
  have hc := fun i => World.var?_cell hg hvar i
  have hi : ∀ i v, (mvL.flatMap mvC)[i]? = some v → W.cell? ⟨0, i, none⟩ = some v := fun i v hv => by
    rw [hc i, ← hcs] at *
    simpa using hv
  exact ⟨World.block_lt_of_cell? _ _ (hi 0 _ rfl), hi⟩
end Go.Proofs.YtfjdhdeiaakbaaaGreatDoor
