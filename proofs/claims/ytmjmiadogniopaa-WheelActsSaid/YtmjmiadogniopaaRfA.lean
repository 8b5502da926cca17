/-
  The reference's wheel in memory: its block, its list. New, Cancel.
-/
import Derived.OneCell
import Derived.Test.YtmjmiadogniopaaWhR
namespace Go.Proofs.Ytmjmiadogniopaa
open Go.RowKit

/-- The block rb: the tick n, the list L in the row v. -/
structure Rf (w : World) (base rb : Nat) (v : Value) (n : Int) (L : List Due) : Prop where
  low : base ≤ rb
  blk : w.heap[rb]? = some (.cells #[.int .i64 n, v] 49 (0, 0))
  own : w.ownsRow base 55 2 v L.length (L.flatMap dueC)
  ne : v.ownBlock ≠ some rb
/-- What a call of the reference's leaves: all but its block. -/
structure Fg (w w' : World) (rb : Nat) (v v' : Value) : Prop where
  os : w'.os = w.os
  tape : w'.tape = w.tape
  output : w'.output = w.output
  size : w.heap.size ≤ w'.heap.size
  block : ∀ k, k < w.heap.size → k ≠ rb → w'.heap[k]? = w.heap[k]?
  new : ∀ k, v'.ownBlock = some k → v.ownBlock = some k ∨ w.heap.size ≤ k
theorem own_block2 {w w' : World} {base n : Nat} {e : TypeId} {sz : Nat} {v : Value} {xs : List Value} (h : w.ownsRow base e sz v n xs) (hb : ∀ k, v.ownBlock = some k → w'.heap[k]? = w.heap[k]?) : w'.ownsRow base e sz v n xs := by
  refine ⟨h.1, ?_⟩
  rcases h.2 with hn | ⟨g, cap, cur, hv, h1, h2, r⟩
  · exact .inl hn
  · exact .inr ⟨g, cap, cur, hv, h1, (hb g (by rw [hv]; rfl)).trans h2, r⟩
theorem own_low2 {w : World} {base base' n : Nat} {e : TypeId} {sz : Nat} {v : Value} {xs : List Value} (h : w.ownsRow base e sz v n xs) (hb : base' ≤ base) : w.ownsRow base' e sz v n xs := by
  refine ⟨h.1, ?_⟩
  rcases h.2 with hn | ⟨g, cap, cur, hv, h1, r⟩
  · exact .inl hn
  · exact .inr ⟨g, cap, cur, hv, Nat.le_trans hb h1, r⟩
section
variable {w w' w'' : World} {base rb : Nat} {v v' v'' : Value} {n : Int} {L : List Due}
theorem Rf.lt (h : Rf w base rb v n L) : rb < w.heap.size := lt_of_block h.blk
theorem Rf.tickC (h : Rf w base rb v n L) : w.cell? ⟨rb, 0, none⟩ = some (.int .i64 n) := by rw [cell_of_row w rb 0 _ _ (0, 0) h.blk]; rfl
theorem Rf.listC (h : Rf w base rb v n L) : w.cell? ⟨rb, 1, none⟩ = some v := by rw [cell_of_row w rb 1 _ _ (0, 0) h.blk]; rfl
theorem Rf.free (h : Rf w base rb v n L) (i : Nat) : w.frozen? ⟨rb, i, none⟩ = false := by simp [World.frozen?, h.blk]
/-- Its blocks stay. -/
theorem Rf.same (h : Rf w base rb v n L) (hb : ∀ k, (k = rb ∨ v.ownBlock = some k) → w'.heap[k]? = w.heap[k]?) : Rf w' base rb v n L :=
  ⟨h.low, (hb rb (.inl rfl)).trans h.blk, own_block2 h.own fun k e => hb k (.inr e), h.ne⟩
theorem Rf.below (h : Rf w base rb v n L) (hB : Below w.heap.size w w') : Rf w' base rb v n L :=
  h.same fun k hk => hB.block k (by
    rcases hk with rfl | e
    · exact h.lt
    · exact (h.own.lt k e).2)
theorem Rf.rebase {base' : Nat} (h : Rf w base rb v n L) (hb : base' ≤ base) : Rf w base' rb v n L := ⟨Nat.le_trans hb h.low, h.blk, own_low2 h.own hb, h.ne⟩
theorem Fg.trans (h : Fg w w' rb v v') (h' : Fg w' w'' rb v' v'') : Fg w w'' rb v v'' where
  os := h'.os.trans h.os
  tape := h'.tape.trans h.tape
  output := h'.output.trans h.output
  size := Nat.le_trans h.size h'.size
  block := fun k hk hb => (h'.block k (Nat.lt_of_lt_of_le hk h.size) hb).trans (h.block k hk hb)
  new := fun k e => by
    rcases h'.new k e with h1 | h1
    · exact h.new k h1
    · exact .inr (Nat.le_trans h.size h1)
theorem Fg.quiet (hB : Below w.heap.size w w') (rb : Nat) (v : Value) : Fg w w' rb v v :=
  ⟨hB.os, hB.tape, hB.output, hB.size, fun k hk _ => hB.block k hk, fun _ e => .inl e⟩
theorem Fg.below (h : Fg w w' rb v v') {B : Nat} (hB : B ≤ rb) (hs : B ≤ w.heap.size) : Below B w w' :=
  ⟨h.os, h.tape, h.output, h.size, fun k hk => h.block k (by omega) (by omega)⟩
/-- Another list is set. -/
theorem Rf.setList (h : Rf w base rb v n L) {L' : List Due} (hv : w.ownsRow base 55 2 v' L'.length (L'.flatMap dueC)) (hne : v'.ownBlock ≠ some rb) : Rf (w.setCell ⟨rb, 1, none⟩ v') base rb v' n L' where
  low := h.low
  blk := by rw [cells_set h.blk 1 v']; rfl
  own := ownsRow_setCell_other hv hne v'
  ne := hne
theorem Rf.setTick (h : Rf w base rb v n L) (n' : Int) : Rf (w.setCell ⟨rb, 0, none⟩ (.int .i64 n')) base rb v n' L where
  low := h.low
  blk := by rw [cells_set h.blk 0 _]; rfl
  own := ownsRow_setCell_other h.own h.ne _
  ne := h.ne
theorem Fg.set (hB : Below w.heap.size w w') (rb i : Nat) (u : Value) {v v' : Value} (hn : ∀ k, v'.ownBlock = some k → v.ownBlock = some k ∨ w.heap.size ≤ k) : Fg w (w'.setCell ⟨rb, i, none⟩ u) rb v v' where
  os := hB.os
  tape := hB.tape
  output := hB.output
  size := by simpa using hB.size
  block := fun k hk hb => by
    refine Eq.trans ?_ (hB.block k hk)
    show (w'.heap.modify rb _)[k]? = _
    rw [Array.getElem?_modify, if_neg (Ne.symm hb)]
  new := hn
/-- The block alone: enough for a new list. -/
theorem rf_blk {u : Value} (hb : w.heap[rb]? = some (.cells #[.int .i64 n, u] 49 (0, 0))) (low : base ≤ rb) {L' : List Due} (hv : w.ownsRow base 55 2 v' L'.length (L'.flatMap dueC)) (hne : v'.ownBlock ≠ some rb) : Rf (w.setCell ⟨rb, 1, none⟩ v') base rb v' n L' where
  low := low
  blk := by rw [cells_set hb 1 v']; rfl
  own := ownsRow_setCell_other hv hne v'
  ne := hne
end

theorem infoR : (Try.prog.info? 55).map (fun i => (i.zero, i.size, i.bytes)) = some (some (.agg #[.int .i64 0, .int .i64 0]), 2, 16) := by kernel_rfl
theorem wpList_append_ref {w : World} {ops : Array Oper} {rest : List Oper} {o : Oper} {a : Act} {Q : Exit → Act → World → Prop} (hgd : o.guard = none) (s x : Operand) (t : TypeId)
    (ho : o.op = .call { callee := .builtin .append, args := #[s, x], argTypes := #[t, t] }) (ht : Try.prog.underlying t = some (.slice 55))
    (base : Nat) (v : Value) (n : Nat) (xs : List Due) (hs : a.eval s = v) (hown : w.ownsRow base 55 2 v n (xs.flatMap dueC))
    (g : Nat) (d : Due) (hx : a.eval x = .slice (some ⟨g, 0, none⟩) 1 1) (tt : TypeId) (hg : w.heap[g]? = some (.cells #[.int .i64 d.1, .int .i64 d.2] tt (0, 0)))
    (hn : n ≤ 1000000) (hbase : base ≤ w.heap.size)
    (h : ∀ v' w', w'.ownsRow base 55 2 v' (n + 1) ((xs ++ [d]).flatMap dueC) → w.grownBy w' v.ownBlock → (v'.ownBlock = v.ownBlock ∨ v'.ownBlock = some w.heap.size) → wpList Try.prog ops Q rest (a.put o.dst v') w') :
    wpList Try.prog ops Q (o :: rest) a w := by
  obtain ⟨i0, hi, hz0, hz1, hz2⟩ := info_parts infoR
  have hr : Rd w w.heap.size 2 dueC (some ⟨g, 0, none⟩) [d] := fun _ => ⟨g, 0, rfl, lt_of_block hg, fun i y hy j u hu => by
    cases i with
    | zero =>
      have : d = y := by simpa using hy
      subst this
      rw [cell_of_row w g _ _ tt (0, 0) hg]
      simpa [dueC] using hu
    | succ i => simp at hy⟩
  refine wpList_append_rd hgd s x t ho base 55 i0 _ 2 16 ht hi hz0 hz1 hz2 rfl (by decide) v n _ hs hown _ 1 1 _ dueC [d] hx (by intro e; cases e) rfl dueC_length hr dueOne (by unfold maxLen; omega) (by omega) hbase ?_
  intro v' w' h1 h2 h3
  exact h v' w' (by rw [List.flatMap_append]; exact h1) h2 h3

theorem below_grown {B : Nat} {a w w' : World} {v : Value} (h : Below B a w) (hs : B ≤ w.heap.size) (hg : w.grownBy w' v.ownBlock) (hv : ∀ k, v.ownBlock = some k → B ≤ k) : Below B a w' :=
  h.trans ⟨hg.os, hg.tape, hg.output, hg.size, fun k hk => hg.block k (by omega) (fun e => by have := hv k e.symm; omega)⟩
theorem drop_some {L : List Due} {h : Int} : decide ((dropH h L).length < L.length) = (tk L h).isSome := by
  cases ht : tk L h with
  | none => rw [dropH_all (tk_none.1 ht)]; simp
  | some t =>
    have h1 : (dropH h L).length < L.length := by
      unfold dropH
      exact List.length_filter_lt_length_iff_exists.2 ⟨_, tk_some ht, by simp⟩
    simp; omega
theorem drop_take_hit {L : List Due} {h : Int} {k : Nat} {d : Due} (hd : L[k]? = some d) (e : d.1 = h) : dropH h (L.take (k + 1)) = dropH h (L.take k) := by
  rw [List.take_add_one, hd]
  exact dropH_snoc_drop h _ d e
theorem drop_take_keep {L : List Due} {h : Int} {k : Nat} {d : Due} (hd : L[k]? = some d) (e : d.1 ≠ h) : dropH h (L.take (k + 1)) = dropH h (L.take k) ++ [d] := by
  rw [List.take_add_one, hd]
  exact dropH_snoc_keep h _ d e

set_option maxRecDepth 100000 in
set_option maxHeartbeats 1600000 in
theorem rcancel_any (base rb : Nat) (v : Value) (n : Int) (L : List Due) (h : Int) (w : World) (hR : Rf w base rb v n L) (hbase : base ≤ w.heap.size) (hL : L.length ≤ 100000) :
    Calls Try.prog 18 #[.pointer (some ⟨rb, 0, none⟩), .int .i64 h] w fun e w' => e = .returned (.bool (tk L h).isSome) ∧ ∃ v', Rf w' base rb v' n (dropH h L) ∧ Fg w w' rb v v' ∧ ∀ k, v'.ownBlock = some k → w.heap.size ≤ k := by
  obtain ⟨A, c, rfl, -⟩ := own_slice hR.own
  have HR := Lib.hid hR
  have hlt := hR.lt
  clear hR
  go_enter Try.func18, Try.ntmps18
  go_wp2
  go_loopw [5, 6] (fun out i wr => ∃ k : Nat, k ≤ L.length ∧ i = .int .i64 k ∧ Keep (Below w.heap.size w wr) ∧ Keep (wr.ownsRow w.heap.size 55 2 out (dropH h (L.take k)).length ((dropH h (L.take k)).flatMap dueC))) (fun _ i _ => L.length - (intOf i).toNat)
  case atStart => exact ⟨0, by omega, rfl, ⟨Below.refl _ _⟩, ⟨World.ownsRow_nil _ _ _ _⟩⟩
  case round =>
    obtain ⟨k, hk, rfl, HB, HO⟩ := hrel
    have c1 : wr.cell? ⟨rb, 1, none⟩ = some (.slice A L.length c) := (HB.out.cell (p := ⟨rb, 1, none⟩) hlt).trans HR.out.listC
    by_cases hlt2 : k < L.length
    · obtain ⟨d, hd⟩ : ∃ d, L[k] = d := ⟨_, rfl⟩
      have hLd : L[k]? = some d := by rw [List.getElem?_eq_getElem hlt2, hd]
      obtain ⟨g, off, hA, hg, hc⟩ := Rd.of_own dueC_length (by decide) HR.out.own (List.ne_nil_of_length_pos (by omega))
      have p0 : wr.cell? ⟨g, off + k * 2, none⟩ = some (.int .i64 d.1) := (HB.out.cell (p := ⟨g, _, none⟩) hg).trans (hc k d hLd 0 _ rfl)
      have p1 : wr.cell? ⟨g, off + k * 2 + 1, none⟩ = some (.int .i64 d.2) := (HB.out.cell (p := ⟨g, _, none⟩) hg).trans (hc k d hLd 1 _ rfl)
      subst hA
      have hki : ((k : Nat) : Int) < (L.length : Int) := by omega
      by_cases hdh : d.1 = h
      · have HE := Keep.mk (drop_take_hit hLd hdh)
        clear hc hg hd hLd
        go_wp2
        go_roundw
        case rel => exact ⟨k + 1, by omega, by go_num, HB, ⟨by rw [HE.out]; exact HO.out⟩⟩
        case measure => simp [intOf] <;> omega
      · have HE := Keep.mk (drop_take_keep hLd hdh)
        have HK : Keep ((dropH h (L.take k)).length ≤ 1000000) := ⟨by have := List.length_filter_le (fun d : Due => decide (d.1 ≠ h)) (L.take k); rw [List.length_take] at this; unfold dropH; omega⟩
        clear hc hg hd hLd
        go_wp2_with (first
          | (refine wpList_append_ref rfl (.tmp 27) (.tmp 35) 47 rfl Try.underlying47 w.heap.size _ _ _ rfl (HO.out.alloc (.cells #[.int .i64 d.1, .int .i64 d.2] 55)) wr.heap.size d rfl _ (heap_alloc_new _ _) HK.out ?_ ?_
             · have := HB.out.size; simp; omega
             intro v4 w4 hown4 hg4 hat4
             have HO4 := Keep.mk hown4
             have HB4 : Keep (Below w.heap.size w w4) := ⟨below_grown (HB.out.alloc HB.out.size _) (by have := HB.out.size; simp; omega) hg4 fun k e => (HO.out.lt k e).1⟩
             clear hown4 hg4 hat4)
          | fail)
        go_roundw
        case rel => exact ⟨k + 1, by omega, by go_num, HB4, ⟨by rw [HE.out]; rw [List.length_append]; exact HO4.out⟩⟩
        case measure => simp [intOf] <;> omega
    · have hke : k = L.length := by omega
      subst hke
      rw [List.take_length] at HO
      have hRw := HR.out.below HB.out
      have hfz := hRw.free 1
      obtain ⟨A2, c2, hv2, -⟩ := own_slice HO.out
      subst hv2
      have DS := Keep.mk (drop_some (L := L) (h := h))
      have HRw := Keep.mk hRw
      clear hRw
      go_wp2
      go_ret
      have hnew : ∀ k, (Value.slice A2 (dropH h L).length c2).ownBlock = some k → w.heap.size ≤ k := fun k e => (HO.out.lt k e).1
      refine ⟨by rw [← DS.out]; rfl, _, HRw.out.setList (own_low2 HO.out hbase) (fun e => by have := hnew rb e; omega), Fg.set HB.out rb 1 _ fun k e => .inr (hnew k e), hnew⟩
end Go.Proofs.Ytmjmiadogniopaa
