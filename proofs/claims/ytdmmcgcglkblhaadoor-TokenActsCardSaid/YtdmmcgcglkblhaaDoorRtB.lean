/-
  The reference's Tick.
-/
import Derived.Test.YtdmmcgcglkblhaaDoorRtA
namespace Go.Proofs.YtdmmcgcglkblhaaDoor
open Go.RowKit Go.Maps

/-- What a call of the reference's leaves: all but its block. -/
structure Fr10 (w w' : World) (rb : Nat) (v v' : Value) : Prop where
  os : w'.os = w.os
  tape : w'.tape = w.tape
  output : w'.output = w.output
  size : w.heap.size ≤ w'.heap.size
  block : ∀ k, k < w.heap.size → k ≠ rb → w'.heap[k]? = w.heap[k]?
  new : ∀ k, v'.ownBlock = some k → v.ownBlock = some k ∨ w.heap.size ≤ k
theorem cellsT_set {w : World} {g : Nat} {t : TypeId} {arr : Array Value} (h : w.heap[g]? = some (.cells arr t (0, 0))) (i : Nat) (v : Value) :
    (w.setCell ⟨g, i, none⟩ v).heap[g]? = some (.cells (arr.setIfInBounds i v) t (0, 0)) := by
  have hlt := lt_of_block h
  have h' : w.heap[g] = .cells arr t (0, 0) := by simpa [Array.getElem?_eq_getElem hlt] using h
  show (w.heap.modify g _)[g]? = _
  rw [Array.getElem?_eq_getElem (by simpa using hlt), Array.getElem_modify_self, h']
  rfl
section
variable {w w' : World} {base rb : Nat} {v v' : Value} {most : Int} {L : List Te}
theorem Rt.setList (h : Rt w base rb v most L) {L' : List Te} (hv : w.ownsRow base 58 4 v' L'.length (L'.flatMap teC)) (hne : v'.ownBlock ≠ some rb) : Rt (w.setCell ⟨rb, 1, none⟩ v') base rb v' most L' where
  low := h.low
  blk := by rw [cellsT_set h.blk 1 v']; rfl
  own := ownsRow_setCell_other hv hne v'
  ne := hne
theorem Fr10.set (hB : Below w.heap.size w w') (rb i : Nat) (u : Value) {v v' : Value} (hn : ∀ k, v'.ownBlock = some k → v.ownBlock = some k ∨ w.heap.size ≤ k) : Fr10 w (w'.setCell ⟨rb, i, none⟩ u) rb v v' where
  os := hB.os
  tape := hB.tape
  output := hB.output
  size := by simpa using hB.size
  block := fun k hk hb => by
    refine Eq.trans ?_ (hB.block k hk)
    show (w'.heap.modify rb _)[k]? = _
    rw [Array.getElem?_modify, if_neg (Ne.symm hb)]
  new := hn
end
theorem infoE10 : (Tryd.prog.info? 58).map (fun i => (i.zero, i.size, i.bytes)) = some (some (.agg #[.int .u32 0, .int .i64 0, .bool false, .int .i64 0]), 4, 32) := by kernel_rfl
theorem wpList_append_te {w : World} {ops : Array Oper} {rest : List Oper} {o : Oper} {a : Act} {Q : Exit → Act → World → Prop} (hgd : o.guard = none) (s x : Operand) (t : TypeId)
    (ho : o.op = .call { callee := .builtin .append, args := #[s, x], argTypes := #[t, t] }) (ht : Tryd.prog.underlying t = some (.slice 58))
    (base : Nat) (v : Value) (n : Nat) (xs : List Te) (hs : a.eval s = v) (hown : w.ownsRow base 58 4 v n (xs.flatMap teC))
    (g : Nat) (d : Te) (hx : a.eval x = .slice (some ⟨g, 0, none⟩) 1 1) (tt : TypeId) (hg : w.heap[g]? = some (.cells #[.int .u32 d.1, .int .i64 d.2.o, .bool d.2.l, .int .i64 d.2.u] tt (0, 0)))
    (hn : n ≤ 1000000) (hbase : base ≤ w.heap.size)
    (h : ∀ v' w', w'.ownsRow base 58 4 v' (n + 1) ((xs ++ [d]).flatMap teC) → w.grownBy w' v.ownBlock → (v'.ownBlock = v.ownBlock ∨ v'.ownBlock = some w.heap.size) → wpList Tryd.prog ops Q rest (a.put o.dst v') w') :
    wpList Tryd.prog ops Q (o :: rest) a w := by
  obtain ⟨i0, hi, hz0, hz1, hz2⟩ := info_parts infoE10
  have hr : Rd w w.heap.size 4 teC (some ⟨g, 0, none⟩) [d] := fun _ => ⟨g, 0, rfl, lt_of_block hg, fun i y hy j u hu => by
    cases i with
    | zero =>
      have : d = y := by simpa using hy
      subst this
      rw [cell_of_row w g _ _ tt (0, 0) hg]
      simpa [teC] using hu
    | succ i => simp at hy⟩
  refine wpList_append_rd hgd s x t ho base 58 i0 _ 4 32 ht hi hz0 hz1 hz2 rfl (by decide) v n _ hs hown _ 1 1 _ teC [d] hx (by intro e; cases e) rfl teC_length hr teOne (by unfold maxLen; omega) (by omega) hbase ?_
  intro v' w' h1 h2 h3
  exact h v' w' (by rw [List.flatMap_append]; exact h1) h2 h3

/-- What a tick leaves of the list. -/
def stays (tick : Int) (x : Te) : Bool := x.2.l || decide (tick < x.2.u)
theorem stays_take_hit {tick : Int} {L : List Te} {k : Nat} {d : Te} (hd : L[k]? = some d) (e : stays tick d = false) : (L.take (k + 1)).filter (stays tick) = (L.take k).filter (stays tick) := by
  rw [List.take_add_one, hd, List.filter_append]
  simp [e]
theorem stays_take_keep {tick : Int} {L : List Te} {k : Nat} {d : Te} (hd : L[k]? = some d) (e : stays tick d = true) : (L.take (k + 1)).filter (stays tick) = (L.take k).filter (stays tick) ++ [d] := by
  rw [List.take_add_one, hd, List.filter_append]
  simp [e]
theorem belowT_grown {B : Nat} {a w w' : World} {v : Value} (h : Below B a w) (hs : B ≤ w.heap.size) (hg : w.grownBy w' v.ownBlock) (hv : ∀ k, v.ownBlock = some k → B ≤ k) : Below B a w' :=
  h.trans ⟨hg.os, hg.tape, hg.output, hg.size, fun k hk => hg.block k (by omega) (fun e => by have := hv k e.symm; omega)⟩

set_option maxRecDepth 100000 in
set_option maxHeartbeats 1600000 in
theorem rttick_any (base rb : Nat) (v : Value) (most : Int) (L : List Te) (tick : Int) (w : World) (hR : Rt w base rb v most L) (hbase : base ≤ w.heap.size) (hL : L.length ≤ 100000) :
    Calls Tryd.prog 19 #[.pointer (some ⟨rb, 0, none⟩), .int .i64 tick] w fun e w' => e = .returned (.int .i64 ((L.length : Int) - ((L.filter (stays tick)).length : Int))) ∧
      ∃ v', Rt w' base rb v' most (L.filter (stays tick)) ∧ Fr10 w w' rb v v' ∧ ∀ k, v'.ownBlock = some k → w.heap.size ≤ k := by
  obtain ⟨A, c, rfl, -⟩ := own_slice hR.own
  have HR := Lib.hid hR
  have hlt := hR.lt
  clear hR
  go_enter Tryd.func19, Tryd.ntmps19
  go_wp2
  go_loopw [5, 6] (fun out i wr => ∃ k : Nat, k ≤ L.length ∧ i = .int .i64 k ∧ Keep (Below w.heap.size w wr) ∧ Keep (wr.ownsRow w.heap.size 58 4 out ((L.take k).filter (stays tick)).length (((L.take k).filter (stays tick)).flatMap teC))) (fun _ i _ => L.length - (intOf i).toNat)
  case atStart => exact ⟨0, by omega, rfl, ⟨Below.refl _ _⟩, ⟨World.ownsRow_nil _ _ _ _⟩⟩
  case round =>
    obtain ⟨k, hk, rfl, HB, HO⟩ := hrel
    have c1 : wr.cell? ⟨rb, 1, none⟩ = some (.slice A L.length c) := (HB.out.cell (p := ⟨rb, 1, none⟩) hlt).trans HR.out.listC
    by_cases hlt2 : k < L.length
    · obtain ⟨⟨t, ⟨xo, xl, xu⟩⟩, hd⟩ : ∃ d, L[k] = d := ⟨_, rfl⟩
      have hLd : L[k]? = some (t, ⟨xo, xl, xu⟩) := by rw [List.getElem?_eq_getElem hlt2, hd]
      obtain ⟨g, off, hA, hg, hc⟩ := Rd.of_own teC_length (by decide) HR.out.own (List.ne_nil_of_length_pos (by omega))
      have p0 : wr.cell? ⟨g, off + k * 4, none⟩ = some (.int .u32 t) := (HB.out.cell (p := ⟨g, _, none⟩) hg).trans (hc k _ hLd 0 _ rfl)
      have p1 : wr.cell? ⟨g, off + k * 4 + 1, none⟩ = some (.int .i64 xo) := (HB.out.cell (p := ⟨g, _, none⟩) hg).trans (hc k _ hLd 1 _ rfl)
      have p2 : wr.cell? ⟨g, off + k * 4 + 2, none⟩ = some (.bool xl) := (HB.out.cell (p := ⟨g, _, none⟩) hg).trans (hc k _ hLd 2 _ rfl)
      have p3 : wr.cell? ⟨g, off + k * 4 + 3, none⟩ = some (.int .i64 xu) := (HB.out.cell (p := ⟨g, _, none⟩) hg).trans (hc k _ hLd 3 _ rfl)
      subst hA
      have hki : ((k : Nat) : Int) < (L.length : Int) := by omega
      have HK : Keep (((L.take k).filter (stays tick)).length ≤ 1000000) := ⟨by have := List.length_filter_le (stays tick) (L.take k); rw [List.length_take] at this; omega⟩
      have HLD := Keep.mk hLd
      clear hc hg hd hLd
      have main : ∀ (b : Bool), stays tick (t, ⟨xo, xl, xu⟩) = b → True := fun _ _ => trivial
      clear main
      cases xl with
      | true =>
        have HE := Keep.mk (stays_take_keep (tick := tick) HLD.out rfl)
        go_wp2_with (first
          | (refine wpList_append_te rfl (.tmp 37) (.tmp 45) 54 rfl Tryd.underlying54 w.heap.size u5 _ _ rfl (HO.out.alloc (.cells #[.int .u32 t, .int .i64 xo, .bool true, .int .i64 xu] 58)) wr.heap.size (t, ⟨xo, true, xu⟩) rfl _ (heap_alloc_new _ _) HK.out ?_ ?_
             · have := HB.out.size; simp; omega
             intro v4 w4 hown4 hg4 hat4
             have HO4 := Keep.mk hown4
             have HB4 : Keep (Below w.heap.size w w4) := ⟨belowT_grown (HB.out.alloc HB.out.size _) (by have := HB.out.size; simp; omega) hg4 fun k e => (HO.out.lt k e).1⟩
             clear hown4 hg4 hat4)
          | fail)
        go_roundw
        case rel => exact ⟨k + 1, by omega, by go_num, HB4, ⟨by rw [HE.out]; rw [List.length_append]; exact HO4.out⟩⟩
        case measure => simp [intOf] <;> omega
      | false =>
        by_cases hu : tick < xu
        · have HE := Keep.mk (stays_take_keep (tick := tick) HLD.out (by unfold stays; simp [hu]))
          go_wp2_with (first
            | (refine wpList_append_te rfl (.tmp 37) (.tmp 45) 54 rfl Tryd.underlying54 w.heap.size u5 _ _ rfl (HO.out.alloc (.cells #[.int .u32 t, .int .i64 xo, .bool false, .int .i64 xu] 58)) wr.heap.size (t, ⟨xo, false, xu⟩) rfl _ (heap_alloc_new _ _) HK.out ?_ ?_
               · have := HB.out.size; simp; omega
               intro v4 w4 hown4 hg4 hat4
               have HO4 := Keep.mk hown4
               have HB4 : Keep (Below w.heap.size w w4) := ⟨belowT_grown (HB.out.alloc HB.out.size _) (by have := HB.out.size; simp; omega) hg4 fun k e => (HO.out.lt k e).1⟩
               clear hown4 hg4 hat4)
            | fail)
          go_roundw
          case rel => exact ⟨k + 1, by omega, by go_num, HB4, ⟨by rw [HE.out]; rw [List.length_append]; exact HO4.out⟩⟩
          case measure => simp [intOf] <;> omega
        · have HE := Keep.mk (stays_take_hit (tick := tick) HLD.out (by unfold stays; simp; omega))
          go_wp2_with fail
          go_roundw
          case rel => exact ⟨k + 1, by omega, by go_num, HB, ⟨by rw [HE.out]; exact HO.out⟩⟩
          case measure => simp [intOf] <;> omega
    · have hke : k = L.length := by omega
      subst hke
      rw [List.take_length] at HO
      have hRw := HR.out.below HB.out
      have hfz := hRw.free 1
      obtain ⟨A2, c2, hv2, -⟩ := own_slice HO.out
      subst hv2
      have hle : (L.filter (stays tick)).length ≤ L.length := List.length_filter_le _ _
      have qs : IntKind.i64.wrap ((L.length : Int) - ((L.filter (stays tick)).length : Int)) = (L.length : Int) - ((L.filter (stays tick)).length : Int) := IntWalk.i64_in _ (by omega)
      have HRw := Keep.mk hRw
      clear hRw hle
      go_wp2
      go_ret
      have hnew : ∀ k, (Value.slice A2 (L.filter (stays tick)).length c2).ownBlock = some k → w.heap.size ≤ k := fun k e => (HO.out.lt k e).1
      exact ⟨rfl, _, HRw.out.setList (own_lowT HO.out hbase) (fun e => by have := hnew rb e; omega), Fr10.set HB.out rb 1 _ fun k e => .inr (hnew k e), hnew⟩
end Go.Proofs.YtdmmcgcglkblhaaDoor
