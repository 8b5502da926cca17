/-
  Walks and laws, one behind the other (part 8).
-/
import Derived.BigQuiet
import Derived.Deep.CutBlock
import Derived.Deep.QuietTactic
import Derived.Deep.RegionHeld3
import Derived.Deep.WholeRow
import Derived.Laws.CopyRow
import Derived.Laws.MakeOwn
import Derived.Laws.Rows
import Derived.Lib.MinMax
import Derived.LoopTactic
import Derived.OneCell
import Derived.Outline
import Derived.StillTailTactics
import Derived.Test.YtjpokeakemlffaaGreatDoorProg
import Derived.WalkKit
import Derived.Test.YtjpokeakemlffaaGreatDoorS2
import Derived.Test.YtjpokeakemlffaaGreatDoorS7
set_option linter.unusedSimpArgs false
set_option linter.unusedVariables false
/-
  Blocks and frames; pieces of one: outq's Long, own.
-/
namespace Go.Proofs.YtjpokeakemlffaaGreatDoor
open Go.RowKit
structure Bk (w : World) (b : Nat) (arr : Array Value) (ty : TypeId) : Prop where
  eq : w.heap[b]? = some (.cells arr ty (0, 0))
structure Fz (w w' : World) (cs : List Nat) : Prop where
  os : w'.os = w.os
  tape : w'.tape = w.tape
  output : w'.output = w.output
  size : w.heap.size ≤ w'.heap.size
  block : ∀ k, k < w.heap.size → k ∉ cs → w'.heap[k]? = w.heap[k]?
section
variable {w w' w'' : World} {b : Nat} {arr : Array Value} {ty : TypeId} {cs cs' : List Nat}
theorem Bk.lt (h : Bk w b arr ty) : b < w.heap.size := lt_of_block h.eq
theorem Bk.c (h : Bk w b arr ty) (i : Nat) : w.cell? ⟨b, i, none⟩ = arr[i]? := cell_of_row w b i arr ty (0, 0) h.eq
theorem Bk.free (h : Bk w b arr ty) (i : Nat) : w.frozen? ⟨b, i, none⟩ = false := by simp [World.frozen?, h.eq]
theorem Bk.set (h : Bk w b arr ty) (i : Nat) (v : Value) : Bk (w.setCell ⟨b, i, none⟩ v) b (arr.setIfInBounds i v) ty := by
  have hlt := h.lt
  have h' : w.heap[b] = .cells arr ty (0, 0) := by simpa [Array.getElem?_eq_getElem hlt] using h.eq
  refine ⟨?_⟩
  show (w.heap.modify b _)[b]? = _
  rw [Array.getElem?_eq_getElem (by simpa using hlt), Array.getElem_modify_self, h']
  rfl
theorem Bk.self (h : Bk w b arr ty) {i : Nat} {v : Value} (hv : arr[i]? = some v) : w.setCell ⟨b, i, none⟩ v = w := by
  have hlt := h.lt
  have h' : w.heap[b] = .cells arr ty (0, 0) := (Array.getElem?_eq_some_iff.1 h.eq).2
  have hset : arr.setIfInBounds i v = arr := by
    obtain ⟨hi, he⟩ := Array.getElem?_eq_some_iff.1 hv
    apply Array.ext
    · simp
    · intro k h1 h2
      simp only [Array.getElem_setIfInBounds h2]
      split
      · rename_i e; subst e; exact he.symm
      · rfl
  unfold World.setCell
  cases w with
  | mk heap tape drawn os output =>
    congr 1
    apply Array.ext
    · simp
    · intro k h1 h2
      simp only [Array.getElem_modify]
      split
      · rename_i hk; subst hk; simp at h'; simp [h', hset]
      · rfl
theorem Fz.refl (w : World) : Fz w w [] := ⟨rfl, rfl, rfl, Nat.le_refl _, fun _ _ _ => rfl⟩
theorem Fz.alloc (w : World) (o : Obj) : Fz w (w.alloc o) [] := ⟨rfl, rfl, rfl, by simp, fun k hk _ => Below.heap_alloc _ _ _ hk⟩
theorem Fz.set (w : World) (b i : Nat) (v : Value) : Fz w (w.setCell ⟨b, i, none⟩ v) [b] :=
  ⟨rfl, rfl, rfl, by simp, fun k _ hk => heap_setCell_other w ⟨b, i, none⟩ k v (fun e => hk (by simp [e]))⟩
theorem Fz.below {B : Nat} (h : Below B w w') (hB : w.heap.size ≤ B) : Fz w w' [] := ⟨h.os, h.tape, h.output, h.size, fun k hk _ => h.block k (by omega)⟩
theorem Fz.trans (h : Fz w w' cs) (h' : Fz w' w'' cs') : Fz w w'' (cs ++ cs') :=
  ⟨h'.os.trans h.os, h'.tape.trans h.tape, h'.output.trans h.output, Nat.le_trans h.size h'.size, fun k hk hn => (h'.block k (Nat.lt_of_lt_of_le hk h.size) (fun e => hn (by simp [e]))).trans (h.block k hk (fun e => hn (by simp [e])))⟩
theorem Fz.mono (h : Fz w w' cs) (hs : ∀ k, k < w.heap.size → k ∈ cs → k ∈ cs') : Fz w w' cs' := ⟨h.os, h.tape, h.output, h.size, fun k hk hn => h.block k hk fun e => hn (hs k hk e)⟩
theorem Fz.toBelow (h : Fz w w' cs) {B : Nat} (hB : B ≤ w.heap.size) (hs : ∀ k ∈ cs, B ≤ k) : Below B w w' :=
  ⟨h.os, h.tape, h.output, h.size, fun k hk => h.block k (by omega) fun e => by have := hs k e; omega⟩
theorem Bk.fz (h : Bk w b arr ty) (F : Fz w w' cs) (hn : b ∉ cs) : Bk w' b arr ty := ⟨(F.block b h.lt hn).trans h.eq⟩
theorem Bk.new (w : World) (arr : Array Value) (ty : TypeId) : Bk (w.alloc (.cells arr ty)) w.heap.size arr ty := ⟨heap_alloc_new _ _⟩
theorem Fz.grown {o : Option Nat} (h : w.grownBy w' o) : Fz w w' o.toList := ⟨h.os, h.tape, h.output, h.size, fun k hk hn => h.block k hk (fun e => hn (by rw [← e]; simp))⟩
theorem Fz.drew (w : World) (n : Nat) : Fz w (w.drewN n) [] := ⟨rfl, rfl, rfl, Nat.le_refl _, fun _ _ _ => rfl⟩
theorem Bk.ne_ty {a : Nat} {x : Array Value} {ty' : TypeId} (h : Bk w a x ty) (h' : Bk w b arr ty') (hn : ty ≠ ty') : a ≠ b := by
  rintro rfl
  have e := h.eq.symm.trans h'.eq
  simp only [Option.some.injEq, Obj.cells.injEq] at e
  exact hn e.2.1
theorem own_ty {B k n g : Nat} {v : Value} {xs : List Value} (h : w.ownsRow B ty k v n xs) (e : v.ownBlock = some g) : B ≤ g ∧ ∃ cur, Bk w g cur ty := by
  rcases h.2 with ⟨rfl, _⟩ | ⟨g', cap, cur, rfl, hb, hg, _⟩
  · cases e
  · obtain rfl : g' = g := by simpa [Value.ownBlock] using e
    exact ⟨hb, cur, ⟨hg⟩⟩
end
theorem run_copy_rowK {P : Program} (w : World) (dT sT ty elem : TypeId) (g o dLen dCap : Nat) (a : Addr) (sLen sCap : Nat) (cur : Array Value) (t : TypeId) (cs : List Value) (sz : Nat)
    (hu : P.underlying dT = some (.slice elem)) (hs : (P.info? elem).map (·.size) = some sz)
    (hg : w.heap[g]? = some (.cells cur t (0, 0))) (hn : cs.length = Nat.min sLen dLen * sz)
    (hsrc : ∀ j v, cs[j]? = some v → w.cell? (a.add j) = some v) (hfit : o + cs.length ≤ cur.size) (h1 : ∀ v ∈ cs, v.oneCell' = true) :
    (Builtin.copy_ #[dT, sT] ty #[.slice (some ⟨g, o, none⟩) dLen dCap, .slice (some a) sLen sCap]).run P w =
      .ok (goInt (Nat.min sLen dLen)) (w.setRow g (cur.toList.take o ++ cs ++ cur.toList.drop (o + cs.length)).toArray) := by
  have hl := run_loadCells_list (P := P) w a cs hsrc
  have hst := run_storeCells_at P g o t cs 0 cur w hg (by simpa using hfit) h1
  cases hq : P.info? elem with
  | none => simp [hq] at hs
  | some i =>
    have hi : i.size = sz := by simpa [hq] using hs
    simp [Builtin.copy_, run_underlying hu, Builtin.lenOf, Builtin.firstCells, sizeOf, typeInfo, hq, hi, ← hn, hl, hst]
theorem infoPiece : (Tryz.prog.info? 286).map (fun i => (i.zero, i.size, i.bytes)) = some (some (.agg #[.int .u32 0, .bool false, .bool false, .slice none 0 0, .int .i64 0, .bool false]), 6, 48) := by kernel_rfl
abbrev synP (s : Int) : Array Value := #[.int .u32 s, .bool true, .bool false, .slice none 0 0, .int .i64 0, .bool false]
set_option maxRecDepth 100000 in
theorem long_syn (s : Int) (w : World) : Calls Tryz.prog 290 #[.agg (synP s)] w fun e w' => e = .returned (.int .i64 1) ∧ Below w.heap.size w w' := by
  have HB : Keep (Below w.heap.size w (w.alloc (.cells (synP s) 286))) := ⟨(Below.refl _ w).alloc (Nat.le_refl _) _⟩
  go_enter Tryz.func290, Tryz.ntmps290
  go_wp2_with fail
  go_ret
  exact ⟨rfl, HB.out⟩
set_option maxRecDepth 100000 in
theorem on_any (s : Int) (n : Int) (w : World) : Calls Tryz.prog 296 #[.int .u32 s, .int .i64 n] w fun e w' => e = .returned (.int .u32 (IntKind.u32.wrap (s + IntKind.u32.wrap n))) ∧ w' = w := by
  go_enter Tryz.func296, Tryz.ntmps296
  go_wp2_with fail
  go_ret
  exact ⟨rfl, rfl⟩
set_option maxRecDepth 100000 in
theorem qlen_any (q : Nat) (A : Option Addr) (n c : Nat) (s : Int) (w : World) (h : Bk w q #[.slice A n c, .int .u32 s] 342) : Calls Tryz.prog 278 #[.pointer (some ⟨q, 0, none⟩)] w fun e w' => e = .returned (.int .i64 n) ∧ w' = w := by
  have c0 : w.cell? ⟨q, 0, none⟩ = some (.slice A n c) := h.c 0
  clear h
  go_enter Tryz.func278, Tryz.ntmps278
  go_wp2_with fail
  go_ret
  exact ⟨rfl, rfl⟩
set_option maxRecDepth 100000 in
theorem qnew_any (s : Int) (w : World) : Calls Tryz.prog 221 #[.int .u32 s] w fun e w' => e = .returned (.pointer (some ⟨w.heap.size, 0, none⟩)) ∧ w' = w.alloc (.cells #[.slice none 0 0, .int .u32 s] 342) := by
  go_enter Tryz.func221, Tryz.ntmps221
  go_wp2_with fail
  go_ret
  exact ⟨rfl, rfl⟩
set_option maxRecDepth 100000 in
theorem own_one (g c : Nat) (s : Int) (w : World) (h : Bk w g (synP s) 286) :
    Calls Tryz.prog 291 #[.slice (some ⟨g, 0, none⟩) 1 1] w fun e w' => ∃ g', e = .returned (.slice (some ⟨g', 0, none⟩) 1 1) ∧ w.heap.size ≤ g' ∧ Bk w' g' (synP s) 286 ∧ Below w.heap.size w w' := by
  have c0 : w.cell? ⟨g, 0, none⟩ = some (.int .u32 s) := h.c 0
  have c1 : w.cell? ⟨g, 1, none⟩ = some (.bool true) := h.c 1
  have c2 : w.cell? ⟨g, 2, none⟩ = some (.bool false) := h.c 2
  have c3 : w.cell? ⟨g, 3, none⟩ = some (.slice none 0 0) := h.c 3
  have c4 : w.cell? ⟨g, 4, none⟩ = some (.int .i64 0) := h.c 4
  have c5 : w.cell? ⟨g, 5, none⟩ = some (.bool false) := h.c 5
  obtain ⟨i0, hi, hz0, hz1, hz2⟩ := info_parts infoPiece
  have hmk : (Instr.makeSlice 242 (.int .i64 1) (.int .i64 1)).run Tryz.prog w = .ok (.slice (some ⟨w.heap.size, 0, none⟩) 1 1) (w.alloc (.cells #[.int .u32 0, .bool false, .bool false, .slice none 0 0, .int .i64 0, .bool false] 286)) := by
    have := run_make (P := Tryz.prog) w 242 286 i0 _ Tryz.underlying242 hi hz0 .i64 .i64 1 1 (by omega) (by omega) (by rw [hz2]; decide) (by omega)
    rw [this, hz1]
    exact congrArg (fun z => Result.ok _ (w.alloc (.cells z 286))) (show madeCells _ _ = _ by kernel_rfl)
  have hcp : (Builtin.copy_ #[242, 242] 3 #[.slice (some ⟨w.heap.size, 0, none⟩) 1 1, .slice (some ⟨g, 0, none⟩) 1 1]).run Tryz.prog (w.alloc (.cells #[.int .u32 0, .bool false, .bool false, .slice none 0 0, .int .i64 0, .bool false] 286)) = .ok (.int .i64 1) (w.alloc (.cells (synP s) 286)) := by
    have := run_copy_rowK (P := Tryz.prog) (w.alloc (.cells #[.int .u32 0, .bool false, .bool false, .slice none 0 0, .int .i64 0, .bool false] 286)) 242 242 3 286 w.heap.size 0 1 1 ⟨g, 0, none⟩ 1 1 _ 286 (synP s).toList 6 Tryz.underlying242 (by rw [hi]; exact congrArg some hz1) (heap_alloc_new _ _) rfl (fun j v hv => by
      have hc := (h.fz (Fz.alloc w (.cells #[.int .u32 0, .bool false, .bool false, .slice none 0 0, .int .i64 0, .bool false] 286)) (by simp)).c j
      rw [show (⟨g, 0, none⟩ : Addr).add j = ⟨g, j, none⟩ by unfold Addr.add; split <;> simp_all, hc, ← Array.getElem?_toList]
      exact hv) (by simp) (by simp [Value.oneCell'])
    rw [this, World.setRow_alloc_new]
    rfl
  clear hi hz0 hz1 hz2
  have HB := Keep.mk h
  clear h
  go_enter Tryz.func291, Tryz.ntmps291
  go_wp2_with fail
  obtain ⟨W, hW⟩ : ∃ W, w.alloc (.cells (synP s) 286) = W := ⟨_, rfl⟩
  have HW : Keep (Bk W w.heap.size (synP s) 286 ∧ Below w.heap.size w W) := ⟨hW ▸ Bk.new _ _ _, hW ▸ (Below.refl _ w).alloc (Nat.le_refl _) _⟩
  rw [hW]
  clear hmk hcp c0 c1 c2 c3 c4 c5 hW
  go_loopw [13] (fun i wr => ∃ j : Nat, j ≤ 1 ∧ i = .int .i64 j ∧ wr = W) (fun i _ => 1 - (intOf i).toNat)
  case atStart => exact ⟨0, by omega, rfl, rfl⟩
  case round =>
    obtain ⟨j, hj, rfl, rfl⟩ := hrel
    have d3 : wr.cell? ⟨w.heap.size, 3, none⟩ = some (.slice none 0 0) := HW.out.1.c 3
    have f3 := HW.out.1.free 3
    rcases Nat.lt_or_ge j 1 with hlt | hge
    · obtain rfl : j = 0 := by omega
      have hset : wr.setCell ⟨w.heap.size, 3, none⟩ (.slice none 0 0) = wr := HW.out.1.self rfl
      go_wp2_with fail
      go_roundw
      case rel => exact ⟨1, by omega, rfl, by first | rfl | exact hset | trivial⟩
      case measure => simp [intOf]
    · obtain rfl : j = 1 := by omega
      go_wp2_with fail
      go_ret
      exact ⟨_, rfl, Nat.le_refl _, HW.out⟩
end Go.Proofs.YtjpokeakemlffaaGreatDoor
/-
  A row of one, appended to nothing; the queue's Push; the flow's send, Dial.
-/
namespace Go.Proofs.YtjpokeakemlffaaGreatDoor
open Go.RowKit
structure One (w w' : World) (ty : TypeId) (k g c : Nat) (cs : List Value) : Prop where
  low : w.heap.size ≤ g
  lt : g < w'.heap.size
  own : w'.ownsRow w.heap.size ty k (.slice (some ⟨g, 0, none⟩) 1 c) 1 cs
  cell : ∀ j u, cs[j]? = some u → w'.cell? ⟨g, j, none⟩ = some u
theorem one_of {w w' : World} {ty : TypeId} {k : Nat} {v : Value} {cs : List Value} (h : w'.ownsRow w.heap.size ty k v 1 cs) (hlen : cs.length = k) : ∃ g c, v = .slice (some ⟨g, 0, none⟩) 1 c ∧ One w w' ty k g c cs := by
  have h0 := h
  rcases h.2 with ⟨rfl, e⟩ | ⟨g, cap, cur, rfl, hb, hg, hnc, hcm, hcs, htake⟩
  · cases e
  · refine ⟨g, cap, rfl, hb, lt_of_block hg, h0, fun j u hu => ?_⟩
    have hj : j < k := by have := (List.getElem?_eq_some_iff.1 hu).1; omega
    rw [cell_of_row w' g j cur _ (0, 0) hg, ← Array.getElem?_toList]
    rw [← htake, List.getElem?_take_of_lt (by omega)] at hu
    exact hu
theorem One.fz {w w' w'' : World} {ty : TypeId} {k g c : Nat} {cs : List Value} {l : List Nat} (h : One w w' ty k g c cs) (F : Fz w' w'' l) (hn : g ∉ l) : One w w'' ty k g c cs := by
  have hb := F.block g h.lt hn
  refine ⟨h.low, Nat.lt_of_lt_of_le h.lt F.size, ⟨h.own.1, ?_⟩, fun j u hu => (World.cell?_of_block hb).trans (h.cell j u hu)⟩
  rcases h.own.2 with hn | ⟨g', cap', cur, hv, h1, h2, r⟩
  · exact .inl hn
  · have : g' = g := by injection hv with e _ _; injection e with e; injection e with e _ _; exact e.symm
    subst this
    exact .inr ⟨g', cap', cur, hv, h1, hb.trans h2, r⟩
theorem One.from {w w1 w2 : World} {ty : TypeId} {k g c : Nat} {cs : List Value} (h : One w1 w2 ty k g c cs) (F : w.heap.size ≤ w1.heap.size) : One w w2 ty k g c cs := by
  refine ⟨Nat.le_trans F h.low, h.lt, ⟨h.own.1, ?_⟩, h.cell⟩
  rcases h.own.2 with hn | ⟨g', cap', cur, hv, h1, r⟩
  · exact .inl hn
  · exact .inr ⟨g', cap', cur, hv, Nat.le_trans F h1, r⟩
section
variable {w : World}
theorem append_one {ops : Array Oper} {rest : List Oper} {o : Oper} {a : Act} {Q : Exit → Act → World → Prop} (hgd : o.guard = none) (s x : Operand) (t ty : TypeId)
    (ho : o.op = .call { callee := .builtin .append, args := #[s, x], argTypes := #[t, t] }) (ht : Tryz.prog.underlying t = some (.slice ty)) {z : Value} {k by' : Nat} (hinf : (Tryz.prog.info? ty).map (fun i => (i.zero, i.size, i.bytes)) = some (some z, k, by'))
    (hzs : z.cells.size = k) (hk : 0 < k) (hb : by' ≤ 1000) (hs : a.eval s = .slice none 0 0) (g : Nat) (cs : List Value) (hlen : cs.length = k) (hx : a.eval x = .slice (some ⟨g, 0, none⟩) 1 1) (hc : ∀ j u, cs[j]? = some u → w.cell? ⟨g, j, none⟩ = some u) (hgl : g < w.heap.size)
    (h1 : ∀ u ∈ cs, u.oneCell' = true)
    (h : ∀ g' c' w', One w w' ty k g' c' cs → Below w.heap.size w w' → wpList Tryz.prog ops Q rest (a.put o.dst (.slice (some ⟨g', 0, none⟩) 1 c')) w') :
    wpList Tryz.prog ops Q (o :: rest) a w := by
  obtain ⟨i0, hi, hz0, hz1, hz2⟩ := info_parts hinf
  refine wpList_append_rd (α := Unit) hgd s x t ho w.heap.size ty i0 z k by' ht hi hz0 hz1 hz2 hzs hk (.slice none 0 0) 0 [] hs (World.ownsRow_nil _ _ _ _) _ 1 1 w.heap.size (fun _ => cs) [()] hx (by intro e; cases e) rfl (fun _ => hlen) (fun _ => ⟨g, 0, rfl, hgl, fun i y hy j u hu => ?_⟩) (fun _ => h1) (by unfold maxLen; omega) (by omega) (Nat.le_refl _) ?_
  · cases i with
    | zero => simpa using hc j u hu
    | succ i => simp at hy
  · intro v' w' h1 h2 h3
    obtain ⟨g', c', rfl, ho⟩ := one_of (w := w) (by simpa using h1) hlen
    exact h g' c' w' ho ⟨h2.os, h2.tape, h2.output, h2.size, fun j hj => h2.block j hj (by simp [Value.ownBlock])⟩
theorem step_one {ops : Array Oper} {o : Oper} {a : Act} {K : Act → World → Prop} {Q : Exit → Act → World → Prop} {E : Prop} (hw : Region.wanted o (yielded ops a.tmps) = true) (s x : Operand) (t ty : TypeId)
    (ho : o.op = .call { callee := .builtin .append, args := #[s, x], argTypes := #[t, t] }) (ht : Tryz.prog.underlying t = some (.slice ty)) {z : Value} {k by' : Nat} (hinf : (Tryz.prog.info? ty).map (fun i => (i.zero, i.size, i.bytes)) = some (some z, k, by'))
    (hzs : z.cells.size = k) (hk : 0 < k) (hb : by' ≤ 1000) (hs : a.eval s = .slice none 0 0) (g : Nat) (cs : List Value) (hlen : cs.length = k) (hx : a.eval x = .slice (some ⟨g, 0, none⟩) 1 1) (hc : ∀ j u, cs[j]? = some u → w.cell? ⟨g, j, none⟩ = some u) (hgl : g < w.heap.size)
    (h1 : ∀ u ∈ cs, u.oneCell' = true)
    (h : ∀ g' c' w', One w w' ty k g' c' cs → Below w.heap.size w w' → K (a.put o.dst (.slice (some ⟨g', 0, none⟩) 1 c')) w') :
    if Region.wanted o (yielded ops a.tmps) = true then Oper.wp Tryz.prog o a w K Q else E := by
  obtain ⟨i0, hi, hz0, hz1, hz2⟩ := info_parts hinf
  refine step_append_rd (α := Unit) hw s x t ho w.heap.size ty i0 z k by' ht hi hz0 hz1 hz2 hzs hk (.slice none 0 0) 0 [] hs (World.ownsRow_nil _ _ _ _) _ 1 1 w.heap.size (fun _ => cs) [()] hx (by intro e; cases e) rfl (fun _ => hlen) (fun _ => ⟨g, 0, rfl, hgl, fun i y hy j u hu => ?_⟩) (fun _ => h1) (by unfold maxLen; omega) (by omega) (Nat.le_refl _) ?_
  · cases i with
    | zero => simpa using hc j u hu
    | succ i => simp at hy
  · intro v' w' h1 h2 h3
    obtain ⟨g', c', rfl, ho⟩ := one_of (w := w) (by simpa using h1) hlen
    exact h g' c' w' ho ⟨h2.os, h2.tape, h2.output, h2.size, fun j hj => h2.block j hj (by simp [Value.ownBlock])⟩
theorem step_more {ops : Array Oper} {o : Oper} {a : Act} {K : Act → World → Prop} {Q : Exit → Act → World → Prop} {E : Prop} (hw : Region.wanted o (yielded ops a.tmps) = true) (s x : Operand) (t ty : TypeId)
    (ho : o.op = .call { callee := .builtin .append, args := #[s, x], argTypes := #[t, t] }) (ht : Tryz.prog.underlying t = some (.slice ty)) {z : Value} {k by' : Nat} (hinf : (Tryz.prog.info? ty).map (fun i => (i.zero, i.size, i.bytes)) = some (some z, k, by'))
    (hzs : z.cells.size = k) (hk : 0 < k) (hb : by' ≤ 1000) (v : Value) (hs : a.eval s = v) (g : Nat) (cs : List Value) (hlen : cs.length = k) (hx : a.eval x = .slice (some ⟨g, 0, none⟩) 1 1) (hc : ∀ j u, cs[j]? = some u → w.cell? ⟨g, j, none⟩ = some u) (hgl : g < w.heap.size)
    (h1 : ∀ u ∈ cs, u.oneCell' = true) (base n : Nat) (xs : List Value) (hown : w.ownsRow base ty k v n xs) (hbase : base ≤ w.heap.size) (hn : n ≤ 1000000)
    (h : ∀ v' w', w'.ownsRow base ty k v' (n + 1) (xs ++ cs) → w.grownBy w' v.ownBlock → (v'.ownBlock = v.ownBlock ∨ v'.ownBlock = some w.heap.size) → K (a.put o.dst v') w') :
    if Region.wanted o (yielded ops a.tmps) = true then Oper.wp Tryz.prog o a w K Q else E := by
  obtain ⟨i0, hi, hz0, hz1, hz2⟩ := info_parts hinf
  have hby : (n + 1) * by' ≤ 140737488355328 := Nat.le_trans (Nat.mul_le_mul (by omega : n + 1 ≤ 1000001) hb) (by decide)
  refine step_append_rd (α := Unit) hw s x t ho base ty i0 z k by' ht hi hz0 hz1 hz2 hzs hk v n xs hs hown _ 1 1 w.heap.size (fun _ => cs) [()] hx (by intro e; cases e) rfl (fun _ => hlen) (fun _ => ⟨g, 0, rfl, hgl, fun i y hy j u hu => ?_⟩) (fun _ => h1) (by unfold maxLen; omega) hby hbase ?_
  · cases i with
    | zero => simpa using hc j u hu
    | succ i => simp at hy
  · intro v' w' h1 h2 h3
    exact h v' w' (by simpa using h1) h2 h3
end
abbrev flC (q : Nat) (times state rcv tries at_ : Int) (has : Bool) (since : Int) (twice : Bool) (out : Value) : Array Value :=
  #[.pointer (some ⟨q, 0, none⟩), .bool false, .int .i64 0, .int .i64 0, .int .i64 times, .int .i64 state, .int .u32 rcv, .int .i64 tries, .int .i64 at_, .bool has, .int .i64 since, .bool twice, out]
section
variable {w : World} {f q : Nat} {times rcv tries at_ since : Int} {has twice : Bool} {out : Value}
set_option maxRecDepth 100000 in
theorem wait_zero (w : World) (h : Bk w f (flC q 0 1 rcv tries at_ has since twice out) 283) :
    Calls Tryz.prog 327 #[.pointer (some ⟨f, 1, none⟩)] w fun e w' => e = .returned (.int .i64 4) ∧ w' = w := by
  have c1 : w.cell? ⟨f, 1, none⟩ = some (.bool false) := h.c 1
  have c4 : w.cell? ⟨f, 4, none⟩ = some (.int .i64 0) := h.c 4
  have hm : min (4 : Int) 16 = 4 := by decide
  clear h
  go_enter Tryz.func327, Tryz.ntmps327
  go_wp2_with fail
  go_ret
  exact ⟨by first | rfl | simp, rfl⟩
set_option maxRecDepth 100000 in
theorem told_zero (w : World) (h : Bk w f (flC q times 1 rcv tries at_ has since twice out) 283) :
    Calls Tryz.prog 326 #[.pointer (some ⟨f, 0, none⟩)] w fun e w' => e = .returned (.int .u32 0) ∧ w' = w := by
  have c5 : w.cell? ⟨f, 5, none⟩ = some (.int .i64 1) := h.c 5
  clear h
  go_enter Tryz.func326, Tryz.ntmps326
  go_wp2_with fail
  go_ret
  exact ⟨by first | rfl | simp, rfl⟩
set_option maxRecDepth 100000 in
theorem farm_zero (tick : Int) (w : World) (h : Bk w f (flC q 0 1 rcv tries at_ has since twice out) 283) (h1 : -4611686018427387904 < tick) (h2 : tick < 4611686018427387904) :
    Calls Tryz.prog 281 #[.pointer (some ⟨f, 0, none⟩), .int .i64 tick] w fun e w' => e = .returned (.tuple #[]) ∧ Bk w' f (flC q 0 1 rcv tries (tick + 4) true since twice out) 283 ∧ Fz w w' [f] := by
  have WT := Keep.mk (wait_zero w h)
  have q1 : IntKind.i64.wrap (tick + 4) = tick + 4 := IntWalk.i64_in _ (by omega)
  have c8 : w.cell? ⟨f, 8, none⟩ = some (.int .i64 at_) := h.c 8
  have c9 : w.cell? ⟨f, 9, none⟩ = some (.bool has) := h.c 9
  have f8 := h.free 8
  have f9 := h.free 9
  have HB := Keep.mk h
  clear h h1 h2
  go_enter Tryz.func281, Tryz.ntmps281
  go_wp2_with (first
    | (go_at_call 327
       go_loud (refine WT.out.mono ?_; rintro e X ⟨rfl, hX⟩)
       rw [hX]
       clear hX)
    | fail)
  go_end0
  exact ⟨rfl, (HB.out.set 8 (.int .i64 (tick + 4))).set 9 (.bool true), ((Fz.set w f 8 _).trans (Fz.set _ f 9 _)).mono (by simp)⟩
theorem infoOut : (Tryz.prog.info? 334).map (fun i => (i.zero, i.size, i.bytes)) = some (some (.agg #[.int .u32 0, .bool false, .bool false, .slice none 0 0, .int .i64 0, .bool false, .int .u32 0, .bool false, .bool false]), 9, 56) := by kernel_rfl
abbrev synO (s : Int) : List Value := [.int .u32 s, .bool true, .bool false, .slice none 0 0, .int .i64 0, .bool false, .int .u32 0, .bool false, .bool false]
set_option maxRecDepth 100000 in
set_option maxHeartbeats 1600000 in
theorem fput_syn (s : Int) (w : World) (h : Bk w f (flC q times 1 rcv tries at_ has since twice (.slice none 0 0)) 283) :
    Calls Tryz.prog 279 #[.pointer (some ⟨f, 0, none⟩), .agg (synP s)] w fun e w' => e = .returned (.tuple #[]) ∧ ∃ g c, One w w' 334 9 g c (synO s) ∧ Bk w' f (flC q times 1 rcv tries at_ has since twice (.slice (some ⟨g, 0, none⟩) 1 c)) 283 ∧ Fz w w' [f] := by
  obtain ⟨W, hW⟩ : ∃ W, (w.alloc (.cells (synP s) 286)) = W := ⟨_, rfl⟩
  have N0 : Bk W w.heap.size (synP s) 286 := hW ▸ Bk.new w _ _
  have F0 : Fz w W [] := hW ▸ Fz.alloc w _
  have W1 := h.fz F0 (by simp)
  have WT := Keep.mk (told_zero W W1)
  have WT2 := Keep.mk (told_zero W.drew (W1.fz (Fz.drew _ 1) (by simp)))
  have N4 := Keep.mk (N0.fz (Fz.drew _ 1) (by simp))
  have N4b := Keep.mk ((N0.fz (Fz.alloc _ (.cells (synO s).toArray 334)) (by simp)).fz (Fz.drew _ 1) (by simp))
  have W4b := (W1.fz (Fz.alloc _ (.cells (synO s).toArray 334)) (by simp)).fz (Fz.drew _ 1) (by simp)
  have B4 := Keep.mk W4b
  have F4 : Keep (Fz w (W.alloc (.cells (synO s).toArray 334)).drew []) := ⟨((F0.trans (Fz.alloc _ (.cells (synO s).toArray 334))).trans (Fz.drew _ 1)).mono (by simp)⟩
  have c12b : (W.alloc (.cells #[.int .u32 s, .bool true, .bool false, .slice none 0 0, .int .i64 0, .bool false, .int .u32 0, .bool false, .bool false] 334)).drew.cell? ⟨f, 12, none⟩ = some (.slice none 0 0) := W4b.c 12
  have c12a : W.drew.cell? ⟨f, 12, none⟩ = some (.slice none 0 0) := W1.c 12
  have c5b : W.drew.cell? ⟨f, 5, none⟩ = some (.int .i64 1) := W1.c 5
  have B5a := Keep.mk (W4b.c 5)
  have HFL : Keep (f < w.heap.size) := ⟨h.lt⟩
  have HNF : Keep (w.heap.size ≠ f) := ⟨by have := h.lt; omega⟩
  have c12 : W.cell? ⟨f, 12, none⟩ = some (.slice none 0 0) := W1.c 12
  have c5 : W.cell? ⟨f, 5, none⟩ = some (.int .i64 1) := W1.c 5
  have p0 : W.cell? ⟨w.heap.size, 0, none⟩ = some (.int .u32 s) := N0.c 0
  have p1 : W.cell? ⟨w.heap.size, 1, none⟩ = some (.bool true) := N0.c 1
  have p2 : W.cell? ⟨w.heap.size, 2, none⟩ = some (.bool false) := N0.c 2
  have p3 : W.cell? ⟨w.heap.size, 3, none⟩ = some (.slice none 0 0) := N0.c 3
  have p4 : W.cell? ⟨w.heap.size, 4, none⟩ = some (.int .i64 0) := N0.c 4
  have p5 : W.cell? ⟨w.heap.size, 5, none⟩ = some (.bool false) := N0.c 5
  clear h W1 N0 F0 W4b
  go_enter Tryz.func279, Tryz.ntmps279
  go_wp2_with fail
  try rw [hW]
  clear hW
  -- reg fput
  refine wp_region_noPanic ?_
  refine wp_region_held_drew (S := fun X => X.cell? ⟨f, 5, none⟩ = some (.int .i64 1) ∧ X.cell? ⟨w.heap.size, 0, none⟩ = some (.int .u32 s) ∧ X.cell? ⟨w.heap.size, 1, none⟩ = some (.bool true) ∧ X.cell? ⟨w.heap.size, 2, none⟩ = some (.bool false) ∧ X.cell? ⟨w.heap.size, 3, none⟩ = some (.slice none 0 0) ∧ X.cell? ⟨w.heap.size, 4, none⟩ = some (.int .i64 0) ∧ X.cell? ⟨w.heap.size, 5, none⟩ = some (.bool false)) (by kernel_rfl) ⟨c5b, N4.out.c 0, N4.out.c 1, N4.out.c 2, N4.out.c 3, N4.out.c 4, N4.out.c 5⟩ (fun hHeld => ?_)
  refine wpAnyH_take (i := 0) (v := ?_) rfl (by kernel_rfl) (by kernel_rfl) (by kernel_rfl) (fun _ _ _ h => h) (Or.inl ⟨by rfl, ?_⟩) (by assumption) ?_
  rotate_left
  · intro w hSw; go_simp; (try with_reducible rfl)
  try simp only [Act.put, List.setIfInBounds_toArray, List.set_cons_zero, List.set_cons_succ, List.getElem_toArray, List.getElem_cons_zero, List.getElem_cons_succ]
  refine wpAnyH_take (i := 1) (v := ?_) rfl (by kernel_rfl) (by kernel_rfl) (by kernel_rfl) (fun _ _ _ h => h) (Or.inl ⟨by rfl, ?_⟩) (by assumption) ?_
  rotate_left
  · intro w hSw; go_simp; (try with_reducible rfl)
  try simp only [Act.put, List.setIfInBounds_toArray, List.set_cons_zero, List.set_cons_succ, List.getElem_toArray, List.getElem_cons_zero, List.getElem_cons_succ]
  refine wpAnyH_take (i := 2) (v := ?_) rfl (by kernel_rfl) (by kernel_rfl) (by kernel_rfl) (fun _ _ _ h => h) (Or.inl ⟨by rfl, ?_⟩) (by assumption) ?_
  rotate_left
  · intro w hSw; go_simp; (try with_reducible rfl)
  try simp only [Act.put, List.setIfInBounds_toArray, List.set_cons_zero, List.set_cons_succ, List.getElem_toArray, List.getElem_cons_zero, List.getElem_cons_succ]
  refine wpAnyH_take (i := 3) (v := ?_) rfl (by kernel_rfl) (by kernel_rfl) (by kernel_rfl) (fun _ _ _ h => h) (Or.inl ⟨by rfl, ?_⟩) (by assumption) ?_
  rotate_left
  · intro w hSw; go_simp; (try with_reducible rfl)
  try simp only [Act.put, List.setIfInBounds_toArray, List.set_cons_zero, List.set_cons_succ, List.getElem_toArray, List.getElem_cons_zero, List.getElem_cons_succ]
  refine wpAnyH_take (i := 5) (v := ?_) rfl (by kernel_rfl) (by kernel_rfl) (by kernel_rfl) (fun _ _ _ h => h) (Or.inl ⟨by rfl, ?_⟩) (by assumption) ?_
  rotate_left
  · intro w hSw; go_simp; (try with_reducible rfl)
  try simp only [Act.put, List.setIfInBounds_toArray, List.set_cons_zero, List.set_cons_succ, List.getElem_toArray, List.getElem_cons_zero, List.getElem_cons_succ]
  refine wpAnyH_take (i := 6) (v := ?_) rfl (by kernel_rfl) (by kernel_rfl) (by kernel_rfl) (fun _ _ _ h => h) (Or.inl ⟨by rfl, ?_⟩) (by assumption) ?_
  rotate_left
  · intro w hSw; go_simp; (try with_reducible rfl)
  try simp only [Act.put, List.setIfInBounds_toArray, List.set_cons_zero, List.set_cons_succ, List.getElem_toArray, List.getElem_cons_zero, List.getElem_cons_succ]
  refine wpAnyH_take (i := 8) (v := ?_) rfl (by kernel_rfl) (by kernel_rfl) (by kernel_rfl) (fun _ _ _ h => h) (Or.inl ⟨by rfl, ?_⟩) (by assumption) ?_
  rotate_left
  · intro w hSw; go_simp; (try with_reducible rfl)
  try simp only [Act.put, List.setIfInBounds_toArray, List.set_cons_zero, List.set_cons_succ, List.getElem_toArray, List.getElem_cons_zero, List.getElem_cons_succ]
  refine wpAnyH_take (i := 9) (v := ?_) rfl (by kernel_rfl) (by kernel_rfl) (by kernel_rfl) (fun _ _ _ h => h) (Or.inl ⟨by rfl, ?_⟩) (by assumption) ?_
  rotate_left
  · intro w hSw; go_simp; (try with_reducible rfl)
  try simp only [Act.put, List.setIfInBounds_toArray, List.set_cons_zero, List.set_cons_succ, List.getElem_toArray, List.getElem_cons_zero, List.getElem_cons_succ]
  refine wpAnyH_take (i := 10) (v := ?_) rfl (by kernel_rfl) (by kernel_rfl) (by kernel_rfl) (fun _ _ _ h => h) (Or.inl ⟨by rfl, ?_⟩) (by assumption) ?_
  rotate_left
  · intro w hSw; go_simp; (try with_reducible rfl)
  try simp only [Act.put, List.setIfInBounds_toArray, List.set_cons_zero, List.set_cons_succ, List.getElem_toArray, List.getElem_cons_zero, List.getElem_cons_succ]
  refine wpAnyH_take (i := 11) (v := ?_) rfl (by kernel_rfl) (by kernel_rfl) (by kernel_rfl) (fun _ _ _ h => h) (Or.inl ⟨by rfl, ?_⟩) (by assumption) ?_
  rotate_left
  · intro w hSw; go_simp; (try with_reducible rfl)
  try simp only [Act.put, List.setIfInBounds_toArray, List.set_cons_zero, List.set_cons_succ, List.getElem_toArray, List.getElem_cons_zero, List.getElem_cons_succ]
  refine wpAnyH_take (i := 12) (v := ?_) rfl (by kernel_rfl) (by kernel_rfl) (by kernel_rfl) (fun _ _ _ h => h) (Or.inl ⟨by rfl, ?_⟩) (by assumption) ?_
  rotate_left
  · intro w hSw; go_simp; (try with_reducible rfl)
  try simp only [Act.put, List.setIfInBounds_toArray, List.set_cons_zero, List.set_cons_succ, List.getElem_toArray, List.getElem_cons_zero, List.getElem_cons_succ]
  refine wpAnyH_ready (rs := [4, 7]) (by kernel_rfl) (by simp) ?_
  refine AllReadyH.cons rfl (fun K hK => ?_) (AllReadyH.cons rfl (fun K hK => ?_) AllReadyH.nil)
  · go_simp
    refine hK.out _ _ ?_ (fun hHeld => ?_)
    · first | exact ⟨c5b, N4.out.c 0, N4.out.c 1, N4.out.c 2, N4.out.c 3, N4.out.c 4, N4.out.c 5⟩ | exact ⟨B4.out.c 5, N4b.out.c 0, N4b.out.c 1, N4b.out.c 2, N4b.out.c 3, N4b.out.c 4, N4b.out.c 5⟩ | exact ⟨BK5.out.c 5, NK5.out.c 0, NK5.out.c 1, NK5.out.c 2, NK5.out.c 3, NK5.out.c 4, NK5.out.c 5⟩ | exact ⟨(BK5.out.set 12 (.slice (some ⟨g', 0, none⟩) 1 c')).c 5, (NK5.out.fz (Fz.set w5 f 12 (.slice (some ⟨g', 0, none⟩) 1 c')) (by simp; exact HNF.out)).c 0, (NK5.out.fz (Fz.set w5 f 12 (.slice (some ⟨g', 0, none⟩) 1 c')) (by simp; exact HNF.out)).c 1, (NK5.out.fz (Fz.set w5 f 12 (.slice (some ⟨g', 0, none⟩) 1 c')) (by simp; exact HNF.out)).c 2, (NK5.out.fz (Fz.set w5 f 12 (.slice (some ⟨g', 0, none⟩) 1 c')) (by simp; exact HNF.out)).c 3, (NK5.out.fz (Fz.set w5 f 12 (.slice (some ⟨g', 0, none⟩) 1 c')) (by simp; exact HNF.out)).c 4, (NK5.out.fz (Fz.set w5 f 12 (.slice (some ⟨g', 0, none⟩) 1 c')) (by simp; exact HNF.out)).c 5⟩
    clear hK K
    try simp only [Act.put, List.setIfInBounds_toArray, List.set_cons_zero, List.set_cons_succ, List.getElem_toArray, List.getElem_cons_zero, List.getElem_cons_succ]
    refine wpAnyH_ready (rs := [7]) (by kernel_rfl) (by simp) ?_
    refine AllReadyH.cons rfl (fun K hK => ?_) AllReadyH.nil
    go_simp
    refine WT2.out.mono ?_
    rintro e X ⟨rfl, hX⟩
    rw [hX]
    clear hX X
    refine hK.out _ _ ?_ (fun hHeld => ?_)
    · first | exact ⟨c5b, N4.out.c 0, N4.out.c 1, N4.out.c 2, N4.out.c 3, N4.out.c 4, N4.out.c 5⟩ | exact ⟨B4.out.c 5, N4b.out.c 0, N4b.out.c 1, N4b.out.c 2, N4b.out.c 3, N4b.out.c 4, N4b.out.c 5⟩ | exact ⟨BK5.out.c 5, NK5.out.c 0, NK5.out.c 1, NK5.out.c 2, NK5.out.c 3, NK5.out.c 4, NK5.out.c 5⟩ | exact ⟨(BK5.out.set 12 (.slice (some ⟨g', 0, none⟩) 1 c')).c 5, (NK5.out.fz (Fz.set w5 f 12 (.slice (some ⟨g', 0, none⟩) 1 c')) (by simp; exact HNF.out)).c 0, (NK5.out.fz (Fz.set w5 f 12 (.slice (some ⟨g', 0, none⟩) 1 c')) (by simp; exact HNF.out)).c 1, (NK5.out.fz (Fz.set w5 f 12 (.slice (some ⟨g', 0, none⟩) 1 c')) (by simp; exact HNF.out)).c 2, (NK5.out.fz (Fz.set w5 f 12 (.slice (some ⟨g', 0, none⟩) 1 c')) (by simp; exact HNF.out)).c 3, (NK5.out.fz (Fz.set w5 f 12 (.slice (some ⟨g', 0, none⟩) 1 c')) (by simp; exact HNF.out)).c 4, (NK5.out.fz (Fz.set w5 f 12 (.slice (some ⟨g', 0, none⟩) 1 c')) (by simp; exact HNF.out)).c 5⟩
    clear hK K
    try simp only [Act.put, List.setIfInBounds_toArray, List.set_cons_zero, List.set_cons_succ, List.getElem_toArray, List.getElem_cons_zero, List.getElem_cons_succ]
    refine wpAnyH_take (i := 13) (v := ?_) rfl (by kernel_rfl) (by kernel_rfl) (by kernel_rfl) (fun _ _ _ h => h) (Or.inl ⟨by rfl, ?_⟩) (by assumption) ?_
    rotate_left
    · intro w hSw; go_simp; (try with_reducible rfl)
    try simp only [Act.put, List.setIfInBounds_toArray, List.set_cons_zero, List.set_cons_succ, List.getElem_toArray, List.getElem_cons_zero, List.getElem_cons_succ]
    refine wpAnyH_ready (rs := [14]) (by kernel_rfl) (by simp) ?_
    refine AllReadyH.cons rfl (fun K hK => ?_) AllReadyH.nil
    go_simp
    refine hK.out _ _ ?_ (fun hHeld => ?_)
    · first | exact ⟨c5b, N4.out.c 0, N4.out.c 1, N4.out.c 2, N4.out.c 3, N4.out.c 4, N4.out.c 5⟩ | exact ⟨B4.out.c 5, N4b.out.c 0, N4b.out.c 1, N4b.out.c 2, N4b.out.c 3, N4b.out.c 4, N4b.out.c 5⟩ | exact ⟨BK5.out.c 5, NK5.out.c 0, NK5.out.c 1, NK5.out.c 2, NK5.out.c 3, NK5.out.c 4, NK5.out.c 5⟩ | exact ⟨(BK5.out.set 12 (.slice (some ⟨g', 0, none⟩) 1 c')).c 5, (NK5.out.fz (Fz.set w5 f 12 (.slice (some ⟨g', 0, none⟩) 1 c')) (by simp; exact HNF.out)).c 0, (NK5.out.fz (Fz.set w5 f 12 (.slice (some ⟨g', 0, none⟩) 1 c')) (by simp; exact HNF.out)).c 1, (NK5.out.fz (Fz.set w5 f 12 (.slice (some ⟨g', 0, none⟩) 1 c')) (by simp; exact HNF.out)).c 2, (NK5.out.fz (Fz.set w5 f 12 (.slice (some ⟨g', 0, none⟩) 1 c')) (by simp; exact HNF.out)).c 3, (NK5.out.fz (Fz.set w5 f 12 (.slice (some ⟨g', 0, none⟩) 1 c')) (by simp; exact HNF.out)).c 4, (NK5.out.fz (Fz.set w5 f 12 (.slice (some ⟨g', 0, none⟩) 1 c')) (by simp; exact HNF.out)).c 5⟩
    clear hK K
    try simp only [Act.put, List.setIfInBounds_toArray, List.set_cons_zero, List.set_cons_succ, List.getElem_toArray, List.getElem_cons_zero, List.getElem_cons_succ]
    refine wpAnyH_ready (rs := [15]) (by kernel_rfl) (by simp) ?_
    refine AllReadyH.cons rfl (fun K hK => ?_) AllReadyH.nil
    refine step_one rfl (.tmp 8) (.tmp 18) 281 334 rfl Tryz.underlying281 infoOut rfl (by omega) (by omega) rfl _ (synO s) rfl rfl (fun j u hu => ?_) ?_ (by simp [Value.oneCell']) ?_
    · refine Eq.trans ?_ hu
      have := (Bk.new W (synO s).toArray 334).c j
      exact this.trans Array.getElem?_toList.symm
    · show W.heap.size < (W.alloc (.cells (synO s).toArray 334)).heap.size
      simp
    intro g' c' w5 ho5 hb5
    have B5 := B4.out.fz (Fz.below hb5 (Nat.le_refl _)) (by simp)
    have N5 := N4b.out.fz (Fz.below hb5 (Nat.le_refl _)) (by simp)
    have F5 : Keep (Fz w w5 []) := ⟨(F4.out.trans (Fz.below hb5 (Nat.le_refl _))).mono (by simp)⟩
    have d12 : w5.cell? ⟨f, 12, none⟩ = some (.slice none 0 0) := B5.c 12
    have f5 := B5.free 12
    have BK5 := Keep.mk B5
    have NK5 := Keep.mk N5
    have HO5 := Keep.mk ho5
    clear ho5 hb5 B5 N5
    refine hK.out _ _ ?_ (fun hHeld => ?_)
    · first | exact ⟨c5b, N4.out.c 0, N4.out.c 1, N4.out.c 2, N4.out.c 3, N4.out.c 4, N4.out.c 5⟩ | exact ⟨B4.out.c 5, N4b.out.c 0, N4b.out.c 1, N4b.out.c 2, N4b.out.c 3, N4b.out.c 4, N4b.out.c 5⟩ | exact ⟨BK5.out.c 5, NK5.out.c 0, NK5.out.c 1, NK5.out.c 2, NK5.out.c 3, NK5.out.c 4, NK5.out.c 5⟩ | exact ⟨(BK5.out.set 12 (.slice (some ⟨g', 0, none⟩) 1 c')).c 5, (NK5.out.fz (Fz.set w5 f 12 (.slice (some ⟨g', 0, none⟩) 1 c')) (by simp; exact HNF.out)).c 0, (NK5.out.fz (Fz.set w5 f 12 (.slice (some ⟨g', 0, none⟩) 1 c')) (by simp; exact HNF.out)).c 1, (NK5.out.fz (Fz.set w5 f 12 (.slice (some ⟨g', 0, none⟩) 1 c')) (by simp; exact HNF.out)).c 2, (NK5.out.fz (Fz.set w5 f 12 (.slice (some ⟨g', 0, none⟩) 1 c')) (by simp; exact HNF.out)).c 3, (NK5.out.fz (Fz.set w5 f 12 (.slice (some ⟨g', 0, none⟩) 1 c')) (by simp; exact HNF.out)).c 4, (NK5.out.fz (Fz.set w5 f 12 (.slice (some ⟨g', 0, none⟩) 1 c')) (by simp; exact HNF.out)).c 5⟩
    clear hK K
    try simp only [Act.put, List.setIfInBounds_toArray, List.set_cons_zero, List.set_cons_succ, List.getElem_toArray, List.getElem_cons_zero, List.getElem_cons_succ]
    refine wpAnyH_take (i := 16) (v := ?_) rfl (by kernel_rfl) (by kernel_rfl) (by kernel_rfl) (fun _ _ _ h => h) (Or.inl ⟨by rfl, ?_⟩) (by assumption) ?_
    rotate_left
    · intro w hSw; go_simp; (try with_reducible rfl)
    try simp only [Act.put, List.setIfInBounds_toArray, List.set_cons_zero, List.set_cons_succ, List.getElem_toArray, List.getElem_cons_zero, List.getElem_cons_succ]
    refine wpAnyH_take (i := 17) (v := ?_) rfl (by kernel_rfl) (by kernel_rfl) (by kernel_rfl) (fun _ _ _ h => h) (Or.inl ⟨by rfl, ?_⟩) (by assumption) ?_
    rotate_left
    · intro w hSw; go_simp; (try with_reducible rfl)
    try simp only [Act.put, List.setIfInBounds_toArray, List.set_cons_zero, List.set_cons_succ, List.getElem_toArray, List.getElem_cons_zero, List.getElem_cons_succ]
    refine wpAnyH_ready (rs := [18]) (by kernel_rfl) (by simp) ?_
    refine AllReadyH.cons rfl (fun K hK => ?_) AllReadyH.nil
    go_simp
    refine hK.out _ _ ?_ (fun hHeld => ?_)
    · first | exact ⟨c5b, N4.out.c 0, N4.out.c 1, N4.out.c 2, N4.out.c 3, N4.out.c 4, N4.out.c 5⟩ | exact ⟨B4.out.c 5, N4b.out.c 0, N4b.out.c 1, N4b.out.c 2, N4b.out.c 3, N4b.out.c 4, N4b.out.c 5⟩ | exact ⟨BK5.out.c 5, NK5.out.c 0, NK5.out.c 1, NK5.out.c 2, NK5.out.c 3, NK5.out.c 4, NK5.out.c 5⟩ | exact ⟨(BK5.out.set 12 (.slice (some ⟨g', 0, none⟩) 1 c')).c 5, (NK5.out.fz (Fz.set w5 f 12 (.slice (some ⟨g', 0, none⟩) 1 c')) (by simp; exact HNF.out)).c 0, (NK5.out.fz (Fz.set w5 f 12 (.slice (some ⟨g', 0, none⟩) 1 c')) (by simp; exact HNF.out)).c 1, (NK5.out.fz (Fz.set w5 f 12 (.slice (some ⟨g', 0, none⟩) 1 c')) (by simp; exact HNF.out)).c 2, (NK5.out.fz (Fz.set w5 f 12 (.slice (some ⟨g', 0, none⟩) 1 c')) (by simp; exact HNF.out)).c 3, (NK5.out.fz (Fz.set w5 f 12 (.slice (some ⟨g', 0, none⟩) 1 c')) (by simp; exact HNF.out)).c 4, (NK5.out.fz (Fz.set w5 f 12 (.slice (some ⟨g', 0, none⟩) 1 c')) (by simp; exact HNF.out)).c 5⟩
    clear hK K
    try simp only [Act.put, List.setIfInBounds_toArray, List.set_cons_zero, List.set_cons_succ, List.getElem_toArray, List.getElem_cons_zero, List.getElem_cons_succ]
    refine wpAnyH_done (by kernel_rfl) ?_ _
    refine NoPanic.normal ?_
    go_wp2_with fail
    go_end0
    exact ⟨rfl, g', c', (HO5.out.from F4.out.size).fz (Fz.set w5 f 12 _) (by have := (HO5.out.from F4.out.size).low; have := HFL.out; simp; omega), BK5.out.set 12 _, (F5.out.trans (Fz.set w5 f 12 _)).mono (by simp)⟩
  · go_simp
    refine WT2.out.mono ?_
    rintro e X ⟨rfl, hX⟩
    rw [hX]
    clear hX X
    refine hK.out _ _ ?_ (fun hHeld => ?_)
    · first | exact ⟨c5b, N4.out.c 0, N4.out.c 1, N4.out.c 2, N4.out.c 3, N4.out.c 4, N4.out.c 5⟩ | exact ⟨B4.out.c 5, N4b.out.c 0, N4b.out.c 1, N4b.out.c 2, N4b.out.c 3, N4b.out.c 4, N4b.out.c 5⟩ | exact ⟨BK5.out.c 5, NK5.out.c 0, NK5.out.c 1, NK5.out.c 2, NK5.out.c 3, NK5.out.c 4, NK5.out.c 5⟩ | exact ⟨(BK5.out.set 12 (.slice (some ⟨g', 0, none⟩) 1 c')).c 5, (NK5.out.fz (Fz.set w5 f 12 (.slice (some ⟨g', 0, none⟩) 1 c')) (by simp; exact HNF.out)).c 0, (NK5.out.fz (Fz.set w5 f 12 (.slice (some ⟨g', 0, none⟩) 1 c')) (by simp; exact HNF.out)).c 1, (NK5.out.fz (Fz.set w5 f 12 (.slice (some ⟨g', 0, none⟩) 1 c')) (by simp; exact HNF.out)).c 2, (NK5.out.fz (Fz.set w5 f 12 (.slice (some ⟨g', 0, none⟩) 1 c')) (by simp; exact HNF.out)).c 3, (NK5.out.fz (Fz.set w5 f 12 (.slice (some ⟨g', 0, none⟩) 1 c')) (by simp; exact HNF.out)).c 4, (NK5.out.fz (Fz.set w5 f 12 (.slice (some ⟨g', 0, none⟩) 1 c')) (by simp; exact HNF.out)).c 5⟩
    clear hK K
    try simp only [Act.put, List.setIfInBounds_toArray, List.set_cons_zero, List.set_cons_succ, List.getElem_toArray, List.getElem_cons_zero, List.getElem_cons_succ]
    refine wpAnyH_take (i := 13) (v := ?_) rfl (by kernel_rfl) (by kernel_rfl) (by kernel_rfl) (fun _ _ _ h => h) (Or.inl ⟨by rfl, ?_⟩) (by assumption) ?_
    rotate_left
    · intro w hSw; go_simp; (try with_reducible rfl)
    try simp only [Act.put, List.setIfInBounds_toArray, List.set_cons_zero, List.set_cons_succ, List.getElem_toArray, List.getElem_cons_zero, List.getElem_cons_succ]
    refine wpAnyH_ready (rs := [4, 14]) (by kernel_rfl) (by simp) ?_
    refine AllReadyH.cons rfl (fun K hK => ?_) (AllReadyH.cons rfl (fun K hK => ?_) AllReadyH.nil)
    · go_simp
      refine hK.out _ _ ?_ (fun hHeld => ?_)
      · first | exact ⟨c5b, N4.out.c 0, N4.out.c 1, N4.out.c 2, N4.out.c 3, N4.out.c 4, N4.out.c 5⟩ | exact ⟨B4.out.c 5, N4b.out.c 0, N4b.out.c 1, N4b.out.c 2, N4b.out.c 3, N4b.out.c 4, N4b.out.c 5⟩ | exact ⟨BK5.out.c 5, NK5.out.c 0, NK5.out.c 1, NK5.out.c 2, NK5.out.c 3, NK5.out.c 4, NK5.out.c 5⟩ | exact ⟨(BK5.out.set 12 (.slice (some ⟨g', 0, none⟩) 1 c')).c 5, (NK5.out.fz (Fz.set w5 f 12 (.slice (some ⟨g', 0, none⟩) 1 c')) (by simp; exact HNF.out)).c 0, (NK5.out.fz (Fz.set w5 f 12 (.slice (some ⟨g', 0, none⟩) 1 c')) (by simp; exact HNF.out)).c 1, (NK5.out.fz (Fz.set w5 f 12 (.slice (some ⟨g', 0, none⟩) 1 c')) (by simp; exact HNF.out)).c 2, (NK5.out.fz (Fz.set w5 f 12 (.slice (some ⟨g', 0, none⟩) 1 c')) (by simp; exact HNF.out)).c 3, (NK5.out.fz (Fz.set w5 f 12 (.slice (some ⟨g', 0, none⟩) 1 c')) (by simp; exact HNF.out)).c 4, (NK5.out.fz (Fz.set w5 f 12 (.slice (some ⟨g', 0, none⟩) 1 c')) (by simp; exact HNF.out)).c 5⟩
      clear hK K
      try simp only [Act.put, List.setIfInBounds_toArray, List.set_cons_zero, List.set_cons_succ, List.getElem_toArray, List.getElem_cons_zero, List.getElem_cons_succ]
      refine wpAnyH_ready (rs := [14]) (by kernel_rfl) (by simp) ?_
      refine AllReadyH.cons rfl (fun K hK => ?_) AllReadyH.nil
      go_simp
      refine hK.out _ _ ?_ (fun hHeld => ?_)
      · first | exact ⟨c5b, N4.out.c 0, N4.out.c 1, N4.out.c 2, N4.out.c 3, N4.out.c 4, N4.out.c 5⟩ | exact ⟨B4.out.c 5, N4b.out.c 0, N4b.out.c 1, N4b.out.c 2, N4b.out.c 3, N4b.out.c 4, N4b.out.c 5⟩ | exact ⟨BK5.out.c 5, NK5.out.c 0, NK5.out.c 1, NK5.out.c 2, NK5.out.c 3, NK5.out.c 4, NK5.out.c 5⟩ | exact ⟨(BK5.out.set 12 (.slice (some ⟨g', 0, none⟩) 1 c')).c 5, (NK5.out.fz (Fz.set w5 f 12 (.slice (some ⟨g', 0, none⟩) 1 c')) (by simp; exact HNF.out)).c 0, (NK5.out.fz (Fz.set w5 f 12 (.slice (some ⟨g', 0, none⟩) 1 c')) (by simp; exact HNF.out)).c 1, (NK5.out.fz (Fz.set w5 f 12 (.slice (some ⟨g', 0, none⟩) 1 c')) (by simp; exact HNF.out)).c 2, (NK5.out.fz (Fz.set w5 f 12 (.slice (some ⟨g', 0, none⟩) 1 c')) (by simp; exact HNF.out)).c 3, (NK5.out.fz (Fz.set w5 f 12 (.slice (some ⟨g', 0, none⟩) 1 c')) (by simp; exact HNF.out)).c 4, (NK5.out.fz (Fz.set w5 f 12 (.slice (some ⟨g', 0, none⟩) 1 c')) (by simp; exact HNF.out)).c 5⟩
      clear hK K
      try simp only [Act.put, List.setIfInBounds_toArray, List.set_cons_zero, List.set_cons_succ, List.getElem_toArray, List.getElem_cons_zero, List.getElem_cons_succ]
      refine wpAnyH_ready (rs := [15]) (by kernel_rfl) (by simp) ?_
      refine AllReadyH.cons rfl (fun K hK => ?_) AllReadyH.nil
      refine step_one rfl (.tmp 8) (.tmp 18) 281 334 rfl Tryz.underlying281 infoOut rfl (by omega) (by omega) rfl _ (synO s) rfl rfl (fun j u hu => ?_) ?_ (by simp [Value.oneCell']) ?_
      · refine Eq.trans ?_ hu
        have := (Bk.new W (synO s).toArray 334).c j
        exact this.trans Array.getElem?_toList.symm
      · show W.heap.size < (W.alloc (.cells (synO s).toArray 334)).heap.size
        simp
      intro g' c' w5 ho5 hb5
      have B5 := B4.out.fz (Fz.below hb5 (Nat.le_refl _)) (by simp)
      have N5 := N4b.out.fz (Fz.below hb5 (Nat.le_refl _)) (by simp)
      have F5 : Keep (Fz w w5 []) := ⟨(F4.out.trans (Fz.below hb5 (Nat.le_refl _))).mono (by simp)⟩
      have d12 : w5.cell? ⟨f, 12, none⟩ = some (.slice none 0 0) := B5.c 12
      have f5 := B5.free 12
      have BK5 := Keep.mk B5
      have NK5 := Keep.mk N5
      have HO5 := Keep.mk ho5
      clear ho5 hb5 B5 N5
      refine hK.out _ _ ?_ (fun hHeld => ?_)
      · first | exact ⟨c5b, N4.out.c 0, N4.out.c 1, N4.out.c 2, N4.out.c 3, N4.out.c 4, N4.out.c 5⟩ | exact ⟨B4.out.c 5, N4b.out.c 0, N4b.out.c 1, N4b.out.c 2, N4b.out.c 3, N4b.out.c 4, N4b.out.c 5⟩ | exact ⟨BK5.out.c 5, NK5.out.c 0, NK5.out.c 1, NK5.out.c 2, NK5.out.c 3, NK5.out.c 4, NK5.out.c 5⟩ | exact ⟨(BK5.out.set 12 (.slice (some ⟨g', 0, none⟩) 1 c')).c 5, (NK5.out.fz (Fz.set w5 f 12 (.slice (some ⟨g', 0, none⟩) 1 c')) (by simp; exact HNF.out)).c 0, (NK5.out.fz (Fz.set w5 f 12 (.slice (some ⟨g', 0, none⟩) 1 c')) (by simp; exact HNF.out)).c 1, (NK5.out.fz (Fz.set w5 f 12 (.slice (some ⟨g', 0, none⟩) 1 c')) (by simp; exact HNF.out)).c 2, (NK5.out.fz (Fz.set w5 f 12 (.slice (some ⟨g', 0, none⟩) 1 c')) (by simp; exact HNF.out)).c 3, (NK5.out.fz (Fz.set w5 f 12 (.slice (some ⟨g', 0, none⟩) 1 c')) (by simp; exact HNF.out)).c 4, (NK5.out.fz (Fz.set w5 f 12 (.slice (some ⟨g', 0, none⟩) 1 c')) (by simp; exact HNF.out)).c 5⟩
      clear hK K
      try simp only [Act.put, List.setIfInBounds_toArray, List.set_cons_zero, List.set_cons_succ, List.getElem_toArray, List.getElem_cons_zero, List.getElem_cons_succ]
      refine wpAnyH_take (i := 16) (v := ?_) rfl (by kernel_rfl) (by kernel_rfl) (by kernel_rfl) (fun _ _ _ h => h) (Or.inl ⟨by rfl, ?_⟩) (by assumption) ?_
      rotate_left
      · intro w hSw; go_simp; (try with_reducible rfl)
      try simp only [Act.put, List.setIfInBounds_toArray, List.set_cons_zero, List.set_cons_succ, List.getElem_toArray, List.getElem_cons_zero, List.getElem_cons_succ]
      refine wpAnyH_take (i := 17) (v := ?_) rfl (by kernel_rfl) (by kernel_rfl) (by kernel_rfl) (fun _ _ _ h => h) (Or.inl ⟨by rfl, ?_⟩) (by assumption) ?_
      rotate_left
      · intro w hSw; go_simp; (try with_reducible rfl)
      try simp only [Act.put, List.setIfInBounds_toArray, List.set_cons_zero, List.set_cons_succ, List.getElem_toArray, List.getElem_cons_zero, List.getElem_cons_succ]
      refine wpAnyH_ready (rs := [18]) (by kernel_rfl) (by simp) ?_
      refine AllReadyH.cons rfl (fun K hK => ?_) AllReadyH.nil
      go_simp
      refine hK.out _ _ ?_ (fun hHeld => ?_)
      · first | exact ⟨c5b, N4.out.c 0, N4.out.c 1, N4.out.c 2, N4.out.c 3, N4.out.c 4, N4.out.c 5⟩ | exact ⟨B4.out.c 5, N4b.out.c 0, N4b.out.c 1, N4b.out.c 2, N4b.out.c 3, N4b.out.c 4, N4b.out.c 5⟩ | exact ⟨BK5.out.c 5, NK5.out.c 0, NK5.out.c 1, NK5.out.c 2, NK5.out.c 3, NK5.out.c 4, NK5.out.c 5⟩ | exact ⟨(BK5.out.set 12 (.slice (some ⟨g', 0, none⟩) 1 c')).c 5, (NK5.out.fz (Fz.set w5 f 12 (.slice (some ⟨g', 0, none⟩) 1 c')) (by simp; exact HNF.out)).c 0, (NK5.out.fz (Fz.set w5 f 12 (.slice (some ⟨g', 0, none⟩) 1 c')) (by simp; exact HNF.out)).c 1, (NK5.out.fz (Fz.set w5 f 12 (.slice (some ⟨g', 0, none⟩) 1 c')) (by simp; exact HNF.out)).c 2, (NK5.out.fz (Fz.set w5 f 12 (.slice (some ⟨g', 0, none⟩) 1 c')) (by simp; exact HNF.out)).c 3, (NK5.out.fz (Fz.set w5 f 12 (.slice (some ⟨g', 0, none⟩) 1 c')) (by simp; exact HNF.out)).c 4, (NK5.out.fz (Fz.set w5 f 12 (.slice (some ⟨g', 0, none⟩) 1 c')) (by simp; exact HNF.out)).c 5⟩
      clear hK K
      try simp only [Act.put, List.setIfInBounds_toArray, List.set_cons_zero, List.set_cons_succ, List.getElem_toArray, List.getElem_cons_zero, List.getElem_cons_succ]
      refine wpAnyH_done (by kernel_rfl) ?_ _
      refine NoPanic.normal ?_
      go_wp2_with fail
      go_end0
      exact ⟨rfl, g', c', (HO5.out.from F4.out.size).fz (Fz.set w5 f 12 _) (by have := (HO5.out.from F4.out.size).low; have := HFL.out; simp; omega), BK5.out.set 12 _, (F5.out.trans (Fz.set w5 f 12 _)).mono (by simp)⟩
    · go_simp
      refine hK.out _ _ ?_ (fun hHeld => ?_)
      · first | exact ⟨c5b, N4.out.c 0, N4.out.c 1, N4.out.c 2, N4.out.c 3, N4.out.c 4, N4.out.c 5⟩ | exact ⟨B4.out.c 5, N4b.out.c 0, N4b.out.c 1, N4b.out.c 2, N4b.out.c 3, N4b.out.c 4, N4b.out.c 5⟩ | exact ⟨BK5.out.c 5, NK5.out.c 0, NK5.out.c 1, NK5.out.c 2, NK5.out.c 3, NK5.out.c 4, NK5.out.c 5⟩ | exact ⟨(BK5.out.set 12 (.slice (some ⟨g', 0, none⟩) 1 c')).c 5, (NK5.out.fz (Fz.set w5 f 12 (.slice (some ⟨g', 0, none⟩) 1 c')) (by simp; exact HNF.out)).c 0, (NK5.out.fz (Fz.set w5 f 12 (.slice (some ⟨g', 0, none⟩) 1 c')) (by simp; exact HNF.out)).c 1, (NK5.out.fz (Fz.set w5 f 12 (.slice (some ⟨g', 0, none⟩) 1 c')) (by simp; exact HNF.out)).c 2, (NK5.out.fz (Fz.set w5 f 12 (.slice (some ⟨g', 0, none⟩) 1 c')) (by simp; exact HNF.out)).c 3, (NK5.out.fz (Fz.set w5 f 12 (.slice (some ⟨g', 0, none⟩) 1 c')) (by simp; exact HNF.out)).c 4, (NK5.out.fz (Fz.set w5 f 12 (.slice (some ⟨g', 0, none⟩) 1 c')) (by simp; exact HNF.out)).c 5⟩
      clear hK K
      try simp only [Act.put, List.setIfInBounds_toArray, List.set_cons_zero, List.set_cons_succ, List.getElem_toArray, List.getElem_cons_zero, List.getElem_cons_succ]
      refine wpAnyH_ready (rs := [4]) (by kernel_rfl) (by simp) ?_
      refine AllReadyH.cons rfl (fun K hK => ?_) AllReadyH.nil
      go_simp
      refine hK.out _ _ ?_ (fun hHeld => ?_)
      · first | exact ⟨c5b, N4.out.c 0, N4.out.c 1, N4.out.c 2, N4.out.c 3, N4.out.c 4, N4.out.c 5⟩ | exact ⟨B4.out.c 5, N4b.out.c 0, N4b.out.c 1, N4b.out.c 2, N4b.out.c 3, N4b.out.c 4, N4b.out.c 5⟩ | exact ⟨BK5.out.c 5, NK5.out.c 0, NK5.out.c 1, NK5.out.c 2, NK5.out.c 3, NK5.out.c 4, NK5.out.c 5⟩ | exact ⟨(BK5.out.set 12 (.slice (some ⟨g', 0, none⟩) 1 c')).c 5, (NK5.out.fz (Fz.set w5 f 12 (.slice (some ⟨g', 0, none⟩) 1 c')) (by simp; exact HNF.out)).c 0, (NK5.out.fz (Fz.set w5 f 12 (.slice (some ⟨g', 0, none⟩) 1 c')) (by simp; exact HNF.out)).c 1, (NK5.out.fz (Fz.set w5 f 12 (.slice (some ⟨g', 0, none⟩) 1 c')) (by simp; exact HNF.out)).c 2, (NK5.out.fz (Fz.set w5 f 12 (.slice (some ⟨g', 0, none⟩) 1 c')) (by simp; exact HNF.out)).c 3, (NK5.out.fz (Fz.set w5 f 12 (.slice (some ⟨g', 0, none⟩) 1 c')) (by simp; exact HNF.out)).c 4, (NK5.out.fz (Fz.set w5 f 12 (.slice (some ⟨g', 0, none⟩) 1 c')) (by simp; exact HNF.out)).c 5⟩
      clear hK K
      try simp only [Act.put, List.setIfInBounds_toArray, List.set_cons_zero, List.set_cons_succ, List.getElem_toArray, List.getElem_cons_zero, List.getElem_cons_succ]
      refine wpAnyH_ready (rs := [15]) (by kernel_rfl) (by simp) ?_
      refine AllReadyH.cons rfl (fun K hK => ?_) AllReadyH.nil
      refine step_one rfl (.tmp 8) (.tmp 18) 281 334 rfl Tryz.underlying281 infoOut rfl (by omega) (by omega) rfl _ (synO s) rfl rfl (fun j u hu => ?_) ?_ (by simp [Value.oneCell']) ?_
      · refine Eq.trans ?_ hu
        have := (Bk.new W (synO s).toArray 334).c j
        exact this.trans Array.getElem?_toList.symm
      · show W.heap.size < (W.alloc (.cells (synO s).toArray 334)).heap.size
        simp
      intro g' c' w5 ho5 hb5
      have B5 := B4.out.fz (Fz.below hb5 (Nat.le_refl _)) (by simp)
      have N5 := N4b.out.fz (Fz.below hb5 (Nat.le_refl _)) (by simp)
      have F5 : Keep (Fz w w5 []) := ⟨(F4.out.trans (Fz.below hb5 (Nat.le_refl _))).mono (by simp)⟩
      have d12 : w5.cell? ⟨f, 12, none⟩ = some (.slice none 0 0) := B5.c 12
      have f5 := B5.free 12
      have BK5 := Keep.mk B5
      have NK5 := Keep.mk N5
      have HO5 := Keep.mk ho5
      clear ho5 hb5 B5 N5
      refine hK.out _ _ ?_ (fun hHeld => ?_)
      · first | exact ⟨c5b, N4.out.c 0, N4.out.c 1, N4.out.c 2, N4.out.c 3, N4.out.c 4, N4.out.c 5⟩ | exact ⟨B4.out.c 5, N4b.out.c 0, N4b.out.c 1, N4b.out.c 2, N4b.out.c 3, N4b.out.c 4, N4b.out.c 5⟩ | exact ⟨BK5.out.c 5, NK5.out.c 0, NK5.out.c 1, NK5.out.c 2, NK5.out.c 3, NK5.out.c 4, NK5.out.c 5⟩ | exact ⟨(BK5.out.set 12 (.slice (some ⟨g', 0, none⟩) 1 c')).c 5, (NK5.out.fz (Fz.set w5 f 12 (.slice (some ⟨g', 0, none⟩) 1 c')) (by simp; exact HNF.out)).c 0, (NK5.out.fz (Fz.set w5 f 12 (.slice (some ⟨g', 0, none⟩) 1 c')) (by simp; exact HNF.out)).c 1, (NK5.out.fz (Fz.set w5 f 12 (.slice (some ⟨g', 0, none⟩) 1 c')) (by simp; exact HNF.out)).c 2, (NK5.out.fz (Fz.set w5 f 12 (.slice (some ⟨g', 0, none⟩) 1 c')) (by simp; exact HNF.out)).c 3, (NK5.out.fz (Fz.set w5 f 12 (.slice (some ⟨g', 0, none⟩) 1 c')) (by simp; exact HNF.out)).c 4, (NK5.out.fz (Fz.set w5 f 12 (.slice (some ⟨g', 0, none⟩) 1 c')) (by simp; exact HNF.out)).c 5⟩
      clear hK K
      try simp only [Act.put, List.setIfInBounds_toArray, List.set_cons_zero, List.set_cons_succ, List.getElem_toArray, List.getElem_cons_zero, List.getElem_cons_succ]
      refine wpAnyH_take (i := 16) (v := ?_) rfl (by kernel_rfl) (by kernel_rfl) (by kernel_rfl) (fun _ _ _ h => h) (Or.inl ⟨by rfl, ?_⟩) (by assumption) ?_
      rotate_left
      · intro w hSw; go_simp; (try with_reducible rfl)
      try simp only [Act.put, List.setIfInBounds_toArray, List.set_cons_zero, List.set_cons_succ, List.getElem_toArray, List.getElem_cons_zero, List.getElem_cons_succ]
      refine wpAnyH_take (i := 17) (v := ?_) rfl (by kernel_rfl) (by kernel_rfl) (by kernel_rfl) (fun _ _ _ h => h) (Or.inl ⟨by rfl, ?_⟩) (by assumption) ?_
      rotate_left
      · intro w hSw; go_simp; (try with_reducible rfl)
      try simp only [Act.put, List.setIfInBounds_toArray, List.set_cons_zero, List.set_cons_succ, List.getElem_toArray, List.getElem_cons_zero, List.getElem_cons_succ]
      refine wpAnyH_ready (rs := [18]) (by kernel_rfl) (by simp) ?_
      refine AllReadyH.cons rfl (fun K hK => ?_) AllReadyH.nil
      go_simp
      refine hK.out _ _ ?_ (fun hHeld => ?_)
      · first | exact ⟨c5b, N4.out.c 0, N4.out.c 1, N4.out.c 2, N4.out.c 3, N4.out.c 4, N4.out.c 5⟩ | exact ⟨B4.out.c 5, N4b.out.c 0, N4b.out.c 1, N4b.out.c 2, N4b.out.c 3, N4b.out.c 4, N4b.out.c 5⟩ | exact ⟨BK5.out.c 5, NK5.out.c 0, NK5.out.c 1, NK5.out.c 2, NK5.out.c 3, NK5.out.c 4, NK5.out.c 5⟩ | exact ⟨(BK5.out.set 12 (.slice (some ⟨g', 0, none⟩) 1 c')).c 5, (NK5.out.fz (Fz.set w5 f 12 (.slice (some ⟨g', 0, none⟩) 1 c')) (by simp; exact HNF.out)).c 0, (NK5.out.fz (Fz.set w5 f 12 (.slice (some ⟨g', 0, none⟩) 1 c')) (by simp; exact HNF.out)).c 1, (NK5.out.fz (Fz.set w5 f 12 (.slice (some ⟨g', 0, none⟩) 1 c')) (by simp; exact HNF.out)).c 2, (NK5.out.fz (Fz.set w5 f 12 (.slice (some ⟨g', 0, none⟩) 1 c')) (by simp; exact HNF.out)).c 3, (NK5.out.fz (Fz.set w5 f 12 (.slice (some ⟨g', 0, none⟩) 1 c')) (by simp; exact HNF.out)).c 4, (NK5.out.fz (Fz.set w5 f 12 (.slice (some ⟨g', 0, none⟩) 1 c')) (by simp; exact HNF.out)).c 5⟩
      clear hK K
      try simp only [Act.put, List.setIfInBounds_toArray, List.set_cons_zero, List.set_cons_succ, List.getElem_toArray, List.getElem_cons_zero, List.getElem_cons_succ]
      refine wpAnyH_done (by kernel_rfl) ?_ _
      refine NoPanic.normal ?_
      go_wp2_with fail
      go_end0
      exact ⟨rfl, g', c', (HO5.out.from F4.out.size).fz (Fz.set w5 f 12 _) (by have := (HO5.out.from F4.out.size).low; have := HFL.out; simp; omega), BK5.out.set 12 _, (F5.out.trans (Fz.set w5 f 12 _)).mono (by simp)⟩
  -- end reg
end
end Go.Proofs.YtjpokeakemlffaaGreatDoor
/-
  The queue's Push of a piece that opens.
-/
namespace Go.Proofs.YtjpokeakemlffaaGreatDoor
open Go.RowKit
theorem Fz.row (w : World) (g : Nat) (cs : Array Value) : Fz w (w.setRow g cs) [g] := ⟨rfl, rfl, rfl, by simp, fun k _ hk => setRow_other w g k cs (fun e => hk (by simp [e]))⟩
abbrev zeroP : Array Value := #[.int .u32 0, .bool false, .bool false, .slice none 0 0, .int .i64 0, .bool false]
set_option maxRecDepth 100000 in
set_option maxHeartbeats 3200000 in
theorem push_syn (q : Nat) (s : Int) (w : World) (h : Bk w q #[.slice none 0 0, .int .u32 s] 342) :
    Calls Tryz.prog 280 #[.pointer (some ⟨q, 0, none⟩), .agg (synP 0)] w fun e w' => e = .returned (.agg (synP s)) ∧ ∃ g c, One w w' 286 6 g c (synP s).toList ∧ Bk w' q #[.slice (some ⟨g, 0, none⟩) 1 c, .int .u32 (IntKind.u32.wrap (s + IntKind.u32.wrap 1))] 342 ∧ Fz w w' [q] := by
  have HQL : Keep (q < w.heap.size) := ⟨h.lt⟩
  have c1z : ((w.alloc (.cells (synP 0) 286)).alloc (.cells zeroP 286)).cell? ⟨q, 1, none⟩ = some (.int .u32 s) := ((h.fz (Fz.alloc w _) (by simp)).fz (Fz.alloc _ _) (by simp)).c 1
  have P0 := Keep.mk ((Bk.new w (synP s) 286).fz (Fz.alloc _ (.cells zeroP 286)) (by simp))
  have R0 := Keep.mk (Bk.new (w.alloc (.cells (synP s) 286)) zeroP 286)
  have F0 : Keep (Fz w ((w.alloc (.cells (synP s) 286)).alloc (.cells zeroP 286)) []) := ⟨((Fz.alloc w _).trans (Fz.alloc _ _)).mono (by simp)⟩
  have HQ := Keep.mk h
  clear h
  go_enter Tryz.func280, Tryz.ntmps280
  go_wp2_with (first
    | (go_at_call 290
       go_loud (refine (long_syn s _).mono ?_; rintro e w1 ⟨rfl, hb1⟩)
       have B1 := Fz.below hb1 (Nat.le_refl _)
       have P1 := Keep.mk (P0.out.fz B1 (by simp))
       have r1 := R0.out.fz B1 (by simp)
       rw [show (w.alloc (.cells (synP s) 286)).heap.size = w.heap.size + 1 by simp] at r1
       have R1 := Keep.mk r1
       have F1 : Keep (Fz w w1 []) := ⟨(F0.out.trans B1).mono (by simp)⟩
       have Q1 := Keep.mk (HQ.out.fz F1.out (by simp))
       have p0 : w1.cell? ⟨w.heap.size, 0, none⟩ = some (.int .u32 s) := P1.out.c 0
       have q0 : w1.drew.cell? ⟨q, 0, none⟩ = some (.slice none 0 0) := Q1.out.c 0
       clear hb1 B1 r1)
    | fail)
  have HNP : Keep (w.heap.size ≠ q) := ⟨by have := HQL.out; omega⟩
  have HNR : Keep (w.heap.size + 1 ≠ q) := ⟨by have := HQL.out; omega⟩
  have EA := (Fz.alloc w1 (.cells (synP s) 286)).trans (Fz.drew _ 1)
  have Q1b := Keep.mk (Q1.out.fz EA (by simp))
  have P1b := Keep.mk (P1.out.fz EA (by simp))
  have R1b := Keep.mk (R1.out.fz EA (by simp))
  have OB := Keep.mk ((Bk.new w1 (synP s) 286).fz (Fz.drew _ 1) (by simp))
  have F1b : Keep (Fz w (w1.alloc (.cells (synP s) 286)).drew []) := ⟨(F1.out.trans EA).mono (by simp)⟩
  have q0b : (w1.alloc (.cells (synP s) 286)).drew.cell? ⟨q, 0, none⟩ = some (.slice none 0 0) := Q1b.out.c 0
  have HONE : Keep ((synP s).all (fun x => x.oneCell') = true) := ⟨by simp [Value.oneCell']⟩
  clear EA p0
  -- reg push
  refine wp_region_noPanic ?_
  refine wp_region_held_drew (S := fun X => X.cell? ⟨w.heap.size, 0, none⟩ = some (.int .u32 s) ∧ X.cell? ⟨w.heap.size, 1, none⟩ = some (.bool true) ∧ X.cell? ⟨w.heap.size, 2, none⟩ = some (.bool false) ∧ X.cell? ⟨w.heap.size, 3, none⟩ = some (.slice none 0 0) ∧ X.cell? ⟨w.heap.size, 4, none⟩ = some (.int .i64 0) ∧ X.cell? ⟨w.heap.size, 5, none⟩ = some (.bool false)) (by kernel_rfl) ⟨P1.out.c 0, P1.out.c 1, P1.out.c 2, P1.out.c 3, P1.out.c 4, P1.out.c 5⟩ (fun hHeld => ?_)
  refine wpAnyH_take (i := 0) (v := ?_) rfl (by kernel_rfl) (by kernel_rfl) (by kernel_rfl) (fun _ _ _ h => h) (Or.inl ⟨by rfl, ?_⟩) (by assumption) ?_
  rotate_left
  · intro w hSw; go_simp; (try with_reducible rfl)
  try simp only [Act.put, List.setIfInBounds_toArray, List.set_cons_zero, List.set_cons_succ, List.getElem_toArray, List.getElem_cons_zero, List.getElem_cons_succ]
  refine wpAnyH_take (i := 1) (v := ?_) rfl (by kernel_rfl) (by kernel_rfl) (by kernel_rfl) (fun _ _ _ h => h) (Or.inl ⟨by rfl, ?_⟩) (by assumption) ?_
  rotate_left
  · intro w hSw; go_simp; (try with_reducible rfl)
  try simp only [Act.put, List.setIfInBounds_toArray, List.set_cons_zero, List.set_cons_succ, List.getElem_toArray, List.getElem_cons_zero, List.getElem_cons_succ]
  refine wpAnyH_take (i := 2) (v := ?_) rfl (by kernel_rfl) (by kernel_rfl) (by kernel_rfl) (fun _ _ _ h => h) (Or.inl ⟨by rfl, ?_⟩) (by assumption) ?_
  rotate_left
  · intro w hSw; go_simp; (try with_reducible rfl)
  try simp only [Act.put, List.setIfInBounds_toArray, List.set_cons_zero, List.set_cons_succ, List.getElem_toArray, List.getElem_cons_zero, List.getElem_cons_succ]
  refine wpAnyH_take (i := 3) (v := ?_) rfl (by kernel_rfl) (by kernel_rfl) (by kernel_rfl) (fun _ _ _ h => h) (Or.inl ⟨by rfl, ?_⟩) (by assumption) ?_
  rotate_left
  · intro w hSw; go_simp; (try with_reducible rfl)
  try simp only [Act.put, List.setIfInBounds_toArray, List.set_cons_zero, List.set_cons_succ, List.getElem_toArray, List.getElem_cons_zero, List.getElem_cons_succ]
  refine wpAnyH_take (i := 5) (v := ?_) rfl (by kernel_rfl) (by kernel_rfl) (by kernel_rfl) (fun _ _ _ h => h) (Or.inl ⟨by rfl, ?_⟩) (by assumption) ?_
  rotate_left
  · intro w hSw; go_simp; (try with_reducible rfl)
  try simp only [Act.put, List.setIfInBounds_toArray, List.set_cons_zero, List.set_cons_succ, List.getElem_toArray, List.getElem_cons_zero, List.getElem_cons_succ]
  refine wpAnyH_ready (rs := [4, 6]) (by kernel_rfl) (by simp) ?_
  refine AllReadyH.cons rfl (fun K hK => ?_) (AllReadyH.cons rfl (fun K hK => ?_) AllReadyH.nil)
  · go_simp
    refine hK.out _ _ ?_ (fun hHeld => ?_)
    · first | exact ⟨P1.out.c 0, P1.out.c 1, P1.out.c 2, P1.out.c 3, P1.out.c 4, P1.out.c 5⟩ | exact ⟨P1b.out.c 0, P1b.out.c 1, P1b.out.c 2, P1b.out.c 3, P1b.out.c 4, P1b.out.c 5⟩ | exact ⟨P2.out.c 0, P2.out.c 1, P2.out.c 2, P2.out.c 3, P2.out.c 4, P2.out.c 5⟩ | exact ⟨P5.out.c 0, P5.out.c 1, P5.out.c 2, P5.out.c 3, P5.out.c 4, P5.out.c 5⟩ | exact ⟨(P5.out.fz (Fz.set w5 q 0 (.slice (some ⟨g', 0, none⟩) 1 c')) (by simp; exact HNP.out)).c 0, (P5.out.fz (Fz.set w5 q 0 (.slice (some ⟨g', 0, none⟩) 1 c')) (by simp; exact HNP.out)).c 1, (P5.out.fz (Fz.set w5 q 0 (.slice (some ⟨g', 0, none⟩) 1 c')) (by simp; exact HNP.out)).c 2, (P5.out.fz (Fz.set w5 q 0 (.slice (some ⟨g', 0, none⟩) 1 c')) (by simp; exact HNP.out)).c 3, (P5.out.fz (Fz.set w5 q 0 (.slice (some ⟨g', 0, none⟩) 1 c')) (by simp; exact HNP.out)).c 4, (P5.out.fz (Fz.set w5 q 0 (.slice (some ⟨g', 0, none⟩) 1 c')) (by simp; exact HNP.out)).c 5⟩
    clear hK K
    try simp only [Act.put, List.setIfInBounds_toArray, List.set_cons_zero, List.set_cons_succ, List.getElem_toArray, List.getElem_cons_zero, List.getElem_cons_succ]
    refine wpAnyH_ready (rs := [6]) (by kernel_rfl) (by simp) ?_
    refine AllReadyH.cons rfl (fun K hK => ?_) AllReadyH.nil
    go_simp
    refine hK.out _ _ ?_ (fun hHeld => ?_)
    · first | exact ⟨P1.out.c 0, P1.out.c 1, P1.out.c 2, P1.out.c 3, P1.out.c 4, P1.out.c 5⟩ | exact ⟨P1b.out.c 0, P1b.out.c 1, P1b.out.c 2, P1b.out.c 3, P1b.out.c 4, P1b.out.c 5⟩ | exact ⟨P2.out.c 0, P2.out.c 1, P2.out.c 2, P2.out.c 3, P2.out.c 4, P2.out.c 5⟩ | exact ⟨P5.out.c 0, P5.out.c 1, P5.out.c 2, P5.out.c 3, P5.out.c 4, P5.out.c 5⟩ | exact ⟨(P5.out.fz (Fz.set w5 q 0 (.slice (some ⟨g', 0, none⟩) 1 c')) (by simp; exact HNP.out)).c 0, (P5.out.fz (Fz.set w5 q 0 (.slice (some ⟨g', 0, none⟩) 1 c')) (by simp; exact HNP.out)).c 1, (P5.out.fz (Fz.set w5 q 0 (.slice (some ⟨g', 0, none⟩) 1 c')) (by simp; exact HNP.out)).c 2, (P5.out.fz (Fz.set w5 q 0 (.slice (some ⟨g', 0, none⟩) 1 c')) (by simp; exact HNP.out)).c 3, (P5.out.fz (Fz.set w5 q 0 (.slice (some ⟨g', 0, none⟩) 1 c')) (by simp; exact HNP.out)).c 4, (P5.out.fz (Fz.set w5 q 0 (.slice (some ⟨g', 0, none⟩) 1 c')) (by simp; exact HNP.out)).c 5⟩
    clear hK K
    try simp only [Act.put, List.setIfInBounds_toArray, List.set_cons_zero, List.set_cons_succ, List.getElem_toArray, List.getElem_cons_zero, List.getElem_cons_succ]
    refine wpAnyH_ready (rs := [7]) (by kernel_rfl) (by simp) ?_
    refine AllReadyH.cons rfl (fun K hK => ?_) AllReadyH.nil
    go_simp
    refine (own_one _ 1 s _ OB.out).mono ?_
    rintro e w2 ⟨g2, rfl, hg2, hk2, hb2⟩
    have B2 := Fz.below hb2 (Nat.le_refl _)
    have Q2 := Keep.mk (Q1b.out.fz B2 (by simp))
    have P2 := Keep.mk (P1b.out.fz B2 (by simp))
    have R2 := Keep.mk (R1b.out.fz B2 (by simp))
    have F2 : Keep (Fz w w2 []) := ⟨(F1b.out.trans B2).mono (by simp)⟩
    have q0c : w2.cell? ⟨q, 0, none⟩ = some (.slice none 0 0) := Q2.out.c 0
    have HK2 := Keep.mk hk2
    clear hg2 hk2 hb2 B2
    refine hK.out _ _ ?_ (fun hHeld => ?_)
    · first | exact ⟨P1.out.c 0, P1.out.c 1, P1.out.c 2, P1.out.c 3, P1.out.c 4, P1.out.c 5⟩ | exact ⟨P1b.out.c 0, P1b.out.c 1, P1b.out.c 2, P1b.out.c 3, P1b.out.c 4, P1b.out.c 5⟩ | exact ⟨P2.out.c 0, P2.out.c 1, P2.out.c 2, P2.out.c 3, P2.out.c 4, P2.out.c 5⟩ | exact ⟨P5.out.c 0, P5.out.c 1, P5.out.c 2, P5.out.c 3, P5.out.c 4, P5.out.c 5⟩ | exact ⟨(P5.out.fz (Fz.set w5 q 0 (.slice (some ⟨g', 0, none⟩) 1 c')) (by simp; exact HNP.out)).c 0, (P5.out.fz (Fz.set w5 q 0 (.slice (some ⟨g', 0, none⟩) 1 c')) (by simp; exact HNP.out)).c 1, (P5.out.fz (Fz.set w5 q 0 (.slice (some ⟨g', 0, none⟩) 1 c')) (by simp; exact HNP.out)).c 2, (P5.out.fz (Fz.set w5 q 0 (.slice (some ⟨g', 0, none⟩) 1 c')) (by simp; exact HNP.out)).c 3, (P5.out.fz (Fz.set w5 q 0 (.slice (some ⟨g', 0, none⟩) 1 c')) (by simp; exact HNP.out)).c 4, (P5.out.fz (Fz.set w5 q 0 (.slice (some ⟨g', 0, none⟩) 1 c')) (by simp; exact HNP.out)).c 5⟩
    clear hK K
    try simp only [Act.put, List.setIfInBounds_toArray, List.set_cons_zero, List.set_cons_succ, List.getElem_toArray, List.getElem_cons_zero, List.getElem_cons_succ]
    refine wpAnyH_ready (rs := [8]) (by kernel_rfl) (by simp) ?_
    refine AllReadyH.cons rfl (fun K hK => ?_) AllReadyH.nil
    refine step_one rfl (.tmp 22) (.tmp 25) 242 286 rfl Tryz.underlying242 infoPiece rfl (by omega) (by omega) rfl g2 (synP s).toList rfl rfl (fun j u hu => ?_) ?_ (by simp [Value.oneCell']) ?_
    · exact (HK2.out.c j).trans (Array.getElem?_toList.symm.trans hu)
    · exact HK2.out.lt
    intro g' c' w5 ho5 hb5
    have B5 := Fz.below hb5 (Nat.le_refl _)
    have Q5 := Keep.mk (Q2.out.fz B5 (by simp))
    have P5 := Keep.mk (P2.out.fz B5 (by simp))
    have R5 := Keep.mk (R2.out.fz B5 (by simp))
    have F5 : Keep (Fz w w5 []) := ⟨(F2.out.trans B5).mono (by simp)⟩
    have HGR : Keep (g' ≠ w.heap.size + 1) := ⟨by have := ho5.low; have := R2.out.lt; omega⟩
    have HO5 := Keep.mk (ho5.from F2.out.size)
    have d0 : w5.cell? ⟨q, 0, none⟩ = some (.slice none 0 0) := Q5.out.c 0
    have f5 := Q5.out.free 0
    clear ho5 hb5 B5
    refine hK.out _ _ ?_ (fun hHeld => ?_)
    · first | exact ⟨P1.out.c 0, P1.out.c 1, P1.out.c 2, P1.out.c 3, P1.out.c 4, P1.out.c 5⟩ | exact ⟨P1b.out.c 0, P1b.out.c 1, P1b.out.c 2, P1b.out.c 3, P1b.out.c 4, P1b.out.c 5⟩ | exact ⟨P2.out.c 0, P2.out.c 1, P2.out.c 2, P2.out.c 3, P2.out.c 4, P2.out.c 5⟩ | exact ⟨P5.out.c 0, P5.out.c 1, P5.out.c 2, P5.out.c 3, P5.out.c 4, P5.out.c 5⟩ | exact ⟨(P5.out.fz (Fz.set w5 q 0 (.slice (some ⟨g', 0, none⟩) 1 c')) (by simp; exact HNP.out)).c 0, (P5.out.fz (Fz.set w5 q 0 (.slice (some ⟨g', 0, none⟩) 1 c')) (by simp; exact HNP.out)).c 1, (P5.out.fz (Fz.set w5 q 0 (.slice (some ⟨g', 0, none⟩) 1 c')) (by simp; exact HNP.out)).c 2, (P5.out.fz (Fz.set w5 q 0 (.slice (some ⟨g', 0, none⟩) 1 c')) (by simp; exact HNP.out)).c 3, (P5.out.fz (Fz.set w5 q 0 (.slice (some ⟨g', 0, none⟩) 1 c')) (by simp; exact HNP.out)).c 4, (P5.out.fz (Fz.set w5 q 0 (.slice (some ⟨g', 0, none⟩) 1 c')) (by simp; exact HNP.out)).c 5⟩
    clear hK K
    try simp only [Act.put, List.setIfInBounds_toArray, List.set_cons_zero, List.set_cons_succ, List.getElem_toArray, List.getElem_cons_zero, List.getElem_cons_succ]
    refine wpAnyH_take (i := 9) (v := ?_) rfl (by kernel_rfl) (by kernel_rfl) (by kernel_rfl) (fun _ _ _ h => h) (Or.inl ⟨by rfl, ?_⟩) (by assumption) ?_
    rotate_left
    · intro w hSw; go_simp; (try with_reducible rfl)
    try simp only [Act.put, List.setIfInBounds_toArray, List.set_cons_zero, List.set_cons_succ, List.getElem_toArray, List.getElem_cons_zero, List.getElem_cons_succ]
    refine wpAnyH_take (i := 10) (v := ?_) rfl (by kernel_rfl) (by kernel_rfl) (by kernel_rfl) (fun _ _ _ h => h) (Or.inl ⟨by rfl, ?_⟩) (by assumption) ?_
    rotate_left
    · intro w hSw; go_simp; (try with_reducible rfl)
    try simp only [Act.put, List.setIfInBounds_toArray, List.set_cons_zero, List.set_cons_succ, List.getElem_toArray, List.getElem_cons_zero, List.getElem_cons_succ]
    refine wpAnyH_ready (rs := [11]) (by kernel_rfl) (by simp) ?_
    refine AllReadyH.cons rfl (fun K hK => ?_) AllReadyH.nil
    go_simp
    refine hK.out _ _ ?_ (fun hHeld => ?_)
    · first | exact ⟨P1.out.c 0, P1.out.c 1, P1.out.c 2, P1.out.c 3, P1.out.c 4, P1.out.c 5⟩ | exact ⟨P1b.out.c 0, P1b.out.c 1, P1b.out.c 2, P1b.out.c 3, P1b.out.c 4, P1b.out.c 5⟩ | exact ⟨P2.out.c 0, P2.out.c 1, P2.out.c 2, P2.out.c 3, P2.out.c 4, P2.out.c 5⟩ | exact ⟨P5.out.c 0, P5.out.c 1, P5.out.c 2, P5.out.c 3, P5.out.c 4, P5.out.c 5⟩ | exact ⟨(P5.out.fz (Fz.set w5 q 0 (.slice (some ⟨g', 0, none⟩) 1 c')) (by simp; exact HNP.out)).c 0, (P5.out.fz (Fz.set w5 q 0 (.slice (some ⟨g', 0, none⟩) 1 c')) (by simp; exact HNP.out)).c 1, (P5.out.fz (Fz.set w5 q 0 (.slice (some ⟨g', 0, none⟩) 1 c')) (by simp; exact HNP.out)).c 2, (P5.out.fz (Fz.set w5 q 0 (.slice (some ⟨g', 0, none⟩) 1 c')) (by simp; exact HNP.out)).c 3, (P5.out.fz (Fz.set w5 q 0 (.slice (some ⟨g', 0, none⟩) 1 c')) (by simp; exact HNP.out)).c 4, (P5.out.fz (Fz.set w5 q 0 (.slice (some ⟨g', 0, none⟩) 1 c')) (by simp; exact HNP.out)).c 5⟩
    clear hK K
    try simp only [Act.put, List.setIfInBounds_toArray, List.set_cons_zero, List.set_cons_succ, List.getElem_toArray, List.getElem_cons_zero, List.getElem_cons_succ]
    refine wpAnyH_done (by kernel_rfl) ?_ _
    refine NoPanic.normal ?_
    obtain ⟨w6, hw6⟩ : ∃ w6, w5.setCell ⟨q, 0, none⟩ (.slice (some ⟨g', 0, none⟩) 1 c') = w6 := ⟨_, rfl⟩
    have E6 : Fz w5 w6 [q] := hw6 ▸ Fz.set w5 q 0 _
    have Q6 : Bk w6 q #[.slice (some ⟨g', 0, none⟩) 1 c', .int .u32 s] 342 := hw6 ▸ Q5.out.set 0 _
    have P6 := Keep.mk (P5.out.fz E6 (by simp; exact HNP.out))
    have R6 := Keep.mk (R5.out.fz E6 (by simp; exact HNR.out))
    have F6 : Keep (Fz w w6 [q]) := ⟨(F5.out.trans E6).mono (by simp)⟩
    have HGQ : Keep (g' ≠ q) := ⟨by have := HO5.out.low; have := HQL.out; omega⟩
    have O6 := Keep.mk (HO5.out.fz E6 (by simp; exact HGQ.out))
    rw [hw6]
    have c61 : w6.cell? ⟨q, 1, none⟩ = some (.int .u32 s) := Q6.c 1
    have f61 := Q6.free 1
    obtain ⟨s1, hs1⟩ : ∃ s1, IntKind.u32.wrap (s + IntKind.u32.wrap 1) = s1 := ⟨_, rfl⟩
    have ON := Keep.mk (on_any s 1 w6)
    rw [hs1] at ON
    have E7 := Fz.set w6 q 1 (.int .u32 s1)
    have Q7 := Keep.mk (Q6.set 1 (.int .u32 s1))
    have P7 := P6.out.fz E7 (by simp; exact HNP.out)
    have R7 := Keep.mk (R6.out.fz E7 (by simp; exact HNR.out))
    have O7 := Keep.mk (O6.out.fz E7 (by simp; exact HGQ.out))
    have F7 : Keep (Fz w (w6.setCell ⟨q, 1, none⟩ (.int .u32 s1)) [q]) := ⟨(F6.out.trans E7).mono (by simp)⟩
    have e0 : (w6.setCell ⟨q, 1, none⟩ (.int .u32 s1)).cell? ⟨w.heap.size, 0, none⟩ = some (.int .u32 s) := P7.c 0
    have e1 : (w6.setCell ⟨q, 1, none⟩ (.int .u32 s1)).cell? ⟨w.heap.size, 1, none⟩ = some (.bool true) := P7.c 1
    have e2 : (w6.setCell ⟨q, 1, none⟩ (.int .u32 s1)).cell? ⟨w.heap.size, 2, none⟩ = some (.bool false) := P7.c 2
    have e3 : (w6.setCell ⟨q, 1, none⟩ (.int .u32 s1)).cell? ⟨w.heap.size, 3, none⟩ = some (.slice none 0 0) := P7.c 3
    have e4 : (w6.setCell ⟨q, 1, none⟩ (.int .u32 s1)).cell? ⟨w.heap.size, 4, none⟩ = some (.int .i64 0) := P7.c 4
    have e5 : (w6.setCell ⟨q, 1, none⟩ (.int .u32 s1)).cell? ⟨w.heap.size, 5, none⟩ = some (.bool false) := P7.c 5
    have ow := Bk.new (w6.setCell ⟨q, 1, none⟩ (.int .u32 s1)) (synP s) 286
    rw [show (w6.setCell ⟨q, 1, none⟩ (.int .u32 s1)).heap.size = w6.heap.size by simp] at ow
    have OW := Keep.mk (own_one _ 1 s _ ow)
    have HS1 := Keep.mk hs1
    clear E6 Q6 E7 P7 hw6 hs1 ow
    go_wp2_with (first
      | (go_at_call 296
         go_loud (refine ON.out.mono ?_; rintro e X ⟨rfl, hX⟩)
         rw [hX]
         clear hX)
      | (go_at_call 291
         go_loud (refine OW.out.mono ?_; rintro e w8 ⟨g8, rfl, hg8, hk8, hb8⟩)
         have E8 := (Fz.alloc (w6.setCell ⟨q, 1, none⟩ (.int .u32 s1)) (.cells (synP s) 286)).trans (Fz.below hb8 (Nat.le_refl _))
         have Q8 := Keep.mk (Q7.out.fz E8 (by simp))
         have R8 := Keep.mk (R7.out.fz E8 (by simp))
         have O8 := Keep.mk (O7.out.fz E8 (by simp))
         have F8 : Keep (Fz w w8 [q]) := ⟨(F7.out.trans E8).mono (by simp)⟩
         have k0 : w8.cell? ⟨g8, 0, none⟩ = some (.int .u32 s) := hk8.c 0
         have k1 : w8.cell? ⟨g8, 1, none⟩ = some (.bool true) := hk8.c 1
         have k2 : w8.cell? ⟨g8, 2, none⟩ = some (.bool false) := hk8.c 2
         have k3 : w8.cell? ⟨g8, 3, none⟩ = some (.slice none 0 0) := hk8.c 3
         have k4 : w8.cell? ⟨g8, 4, none⟩ = some (.int .i64 0) := hk8.c 4
         have k5 : w8.cell? ⟨g8, 5, none⟩ = some (.bool false) := hk8.c 5
         clear hg8 hk8 hb8 E8)
      | (refine Go.wpList_store_row rfl 286 (.tmp 4) (.tmp 42) rfl (w.heap.size + 1) (synP s) rfl rfl 286 _ R8.out.eq (by kernel_rfl) rfl HONE.out ?_)
      | fail)
    refine bodyPost_ret (v := .agg (synP s)) (results_cell_row Tryz.results280 _ _ (w.heap.size + 1) 286 _ (0, 0) _ rfl (setRow_heap _ _ _ _ _ _ R8.out.eq) Tryz.underlying286 rfl (by kernel_rfl)) rfl ⟨rfl, g', c', O8.out.fz (Fz.row _ _ _) (by simp; exact HGR.out), ?_, ?_⟩
    · rw [HS1.out]; exact Q8.out.fz (Fz.row _ _ _) (by simp; have := HQL.out; omega)
    · exact (F8.out.trans (Fz.row _ _ _)).mono (by simp; omega)
  · go_simp
    refine hK.out _ _ ?_ (fun hHeld => ?_)
    · first | exact ⟨P1.out.c 0, P1.out.c 1, P1.out.c 2, P1.out.c 3, P1.out.c 4, P1.out.c 5⟩ | exact ⟨P1b.out.c 0, P1b.out.c 1, P1b.out.c 2, P1b.out.c 3, P1b.out.c 4, P1b.out.c 5⟩ | exact ⟨P2.out.c 0, P2.out.c 1, P2.out.c 2, P2.out.c 3, P2.out.c 4, P2.out.c 5⟩ | exact ⟨P5.out.c 0, P5.out.c 1, P5.out.c 2, P5.out.c 3, P5.out.c 4, P5.out.c 5⟩ | exact ⟨(P5.out.fz (Fz.set w5 q 0 (.slice (some ⟨g', 0, none⟩) 1 c')) (by simp; exact HNP.out)).c 0, (P5.out.fz (Fz.set w5 q 0 (.slice (some ⟨g', 0, none⟩) 1 c')) (by simp; exact HNP.out)).c 1, (P5.out.fz (Fz.set w5 q 0 (.slice (some ⟨g', 0, none⟩) 1 c')) (by simp; exact HNP.out)).c 2, (P5.out.fz (Fz.set w5 q 0 (.slice (some ⟨g', 0, none⟩) 1 c')) (by simp; exact HNP.out)).c 3, (P5.out.fz (Fz.set w5 q 0 (.slice (some ⟨g', 0, none⟩) 1 c')) (by simp; exact HNP.out)).c 4, (P5.out.fz (Fz.set w5 q 0 (.slice (some ⟨g', 0, none⟩) 1 c')) (by simp; exact HNP.out)).c 5⟩
    clear hK K
    try simp only [Act.put, List.setIfInBounds_toArray, List.set_cons_zero, List.set_cons_succ, List.getElem_toArray, List.getElem_cons_zero, List.getElem_cons_succ]
    refine wpAnyH_ready (rs := [4, 7]) (by kernel_rfl) (by simp) ?_
    refine AllReadyH.cons rfl (fun K hK => ?_) (AllReadyH.cons rfl (fun K hK => ?_) AllReadyH.nil)
    · go_simp
      refine hK.out _ _ ?_ (fun hHeld => ?_)
      · first | exact ⟨P1.out.c 0, P1.out.c 1, P1.out.c 2, P1.out.c 3, P1.out.c 4, P1.out.c 5⟩ | exact ⟨P1b.out.c 0, P1b.out.c 1, P1b.out.c 2, P1b.out.c 3, P1b.out.c 4, P1b.out.c 5⟩ | exact ⟨P2.out.c 0, P2.out.c 1, P2.out.c 2, P2.out.c 3, P2.out.c 4, P2.out.c 5⟩ | exact ⟨P5.out.c 0, P5.out.c 1, P5.out.c 2, P5.out.c 3, P5.out.c 4, P5.out.c 5⟩ | exact ⟨(P5.out.fz (Fz.set w5 q 0 (.slice (some ⟨g', 0, none⟩) 1 c')) (by simp; exact HNP.out)).c 0, (P5.out.fz (Fz.set w5 q 0 (.slice (some ⟨g', 0, none⟩) 1 c')) (by simp; exact HNP.out)).c 1, (P5.out.fz (Fz.set w5 q 0 (.slice (some ⟨g', 0, none⟩) 1 c')) (by simp; exact HNP.out)).c 2, (P5.out.fz (Fz.set w5 q 0 (.slice (some ⟨g', 0, none⟩) 1 c')) (by simp; exact HNP.out)).c 3, (P5.out.fz (Fz.set w5 q 0 (.slice (some ⟨g', 0, none⟩) 1 c')) (by simp; exact HNP.out)).c 4, (P5.out.fz (Fz.set w5 q 0 (.slice (some ⟨g', 0, none⟩) 1 c')) (by simp; exact HNP.out)).c 5⟩
      clear hK K
      try simp only [Act.put, List.setIfInBounds_toArray, List.set_cons_zero, List.set_cons_succ, List.getElem_toArray, List.getElem_cons_zero, List.getElem_cons_succ]
      refine wpAnyH_ready (rs := [7]) (by kernel_rfl) (by simp) ?_
      refine AllReadyH.cons rfl (fun K hK => ?_) AllReadyH.nil
      go_simp
      refine (own_one _ 1 s _ OB.out).mono ?_
      rintro e w2 ⟨g2, rfl, hg2, hk2, hb2⟩
      have B2 := Fz.below hb2 (Nat.le_refl _)
      have Q2 := Keep.mk (Q1b.out.fz B2 (by simp))
      have P2 := Keep.mk (P1b.out.fz B2 (by simp))
      have R2 := Keep.mk (R1b.out.fz B2 (by simp))
      have F2 : Keep (Fz w w2 []) := ⟨(F1b.out.trans B2).mono (by simp)⟩
      have q0c : w2.cell? ⟨q, 0, none⟩ = some (.slice none 0 0) := Q2.out.c 0
      have HK2 := Keep.mk hk2
      clear hg2 hk2 hb2 B2
      refine hK.out _ _ ?_ (fun hHeld => ?_)
      · first | exact ⟨P1.out.c 0, P1.out.c 1, P1.out.c 2, P1.out.c 3, P1.out.c 4, P1.out.c 5⟩ | exact ⟨P1b.out.c 0, P1b.out.c 1, P1b.out.c 2, P1b.out.c 3, P1b.out.c 4, P1b.out.c 5⟩ | exact ⟨P2.out.c 0, P2.out.c 1, P2.out.c 2, P2.out.c 3, P2.out.c 4, P2.out.c 5⟩ | exact ⟨P5.out.c 0, P5.out.c 1, P5.out.c 2, P5.out.c 3, P5.out.c 4, P5.out.c 5⟩ | exact ⟨(P5.out.fz (Fz.set w5 q 0 (.slice (some ⟨g', 0, none⟩) 1 c')) (by simp; exact HNP.out)).c 0, (P5.out.fz (Fz.set w5 q 0 (.slice (some ⟨g', 0, none⟩) 1 c')) (by simp; exact HNP.out)).c 1, (P5.out.fz (Fz.set w5 q 0 (.slice (some ⟨g', 0, none⟩) 1 c')) (by simp; exact HNP.out)).c 2, (P5.out.fz (Fz.set w5 q 0 (.slice (some ⟨g', 0, none⟩) 1 c')) (by simp; exact HNP.out)).c 3, (P5.out.fz (Fz.set w5 q 0 (.slice (some ⟨g', 0, none⟩) 1 c')) (by simp; exact HNP.out)).c 4, (P5.out.fz (Fz.set w5 q 0 (.slice (some ⟨g', 0, none⟩) 1 c')) (by simp; exact HNP.out)).c 5⟩
      clear hK K
      try simp only [Act.put, List.setIfInBounds_toArray, List.set_cons_zero, List.set_cons_succ, List.getElem_toArray, List.getElem_cons_zero, List.getElem_cons_succ]
      refine wpAnyH_ready (rs := [8]) (by kernel_rfl) (by simp) ?_
      refine AllReadyH.cons rfl (fun K hK => ?_) AllReadyH.nil
      refine step_one rfl (.tmp 22) (.tmp 25) 242 286 rfl Tryz.underlying242 infoPiece rfl (by omega) (by omega) rfl g2 (synP s).toList rfl rfl (fun j u hu => ?_) ?_ (by simp [Value.oneCell']) ?_
      · exact (HK2.out.c j).trans (Array.getElem?_toList.symm.trans hu)
      · exact HK2.out.lt
      intro g' c' w5 ho5 hb5
      have B5 := Fz.below hb5 (Nat.le_refl _)
      have Q5 := Keep.mk (Q2.out.fz B5 (by simp))
      have P5 := Keep.mk (P2.out.fz B5 (by simp))
      have R5 := Keep.mk (R2.out.fz B5 (by simp))
      have F5 : Keep (Fz w w5 []) := ⟨(F2.out.trans B5).mono (by simp)⟩
      have HGR : Keep (g' ≠ w.heap.size + 1) := ⟨by have := ho5.low; have := R2.out.lt; omega⟩
      have HO5 := Keep.mk (ho5.from F2.out.size)
      have d0 : w5.cell? ⟨q, 0, none⟩ = some (.slice none 0 0) := Q5.out.c 0
      have f5 := Q5.out.free 0
      clear ho5 hb5 B5
      refine hK.out _ _ ?_ (fun hHeld => ?_)
      · first | exact ⟨P1.out.c 0, P1.out.c 1, P1.out.c 2, P1.out.c 3, P1.out.c 4, P1.out.c 5⟩ | exact ⟨P1b.out.c 0, P1b.out.c 1, P1b.out.c 2, P1b.out.c 3, P1b.out.c 4, P1b.out.c 5⟩ | exact ⟨P2.out.c 0, P2.out.c 1, P2.out.c 2, P2.out.c 3, P2.out.c 4, P2.out.c 5⟩ | exact ⟨P5.out.c 0, P5.out.c 1, P5.out.c 2, P5.out.c 3, P5.out.c 4, P5.out.c 5⟩ | exact ⟨(P5.out.fz (Fz.set w5 q 0 (.slice (some ⟨g', 0, none⟩) 1 c')) (by simp; exact HNP.out)).c 0, (P5.out.fz (Fz.set w5 q 0 (.slice (some ⟨g', 0, none⟩) 1 c')) (by simp; exact HNP.out)).c 1, (P5.out.fz (Fz.set w5 q 0 (.slice (some ⟨g', 0, none⟩) 1 c')) (by simp; exact HNP.out)).c 2, (P5.out.fz (Fz.set w5 q 0 (.slice (some ⟨g', 0, none⟩) 1 c')) (by simp; exact HNP.out)).c 3, (P5.out.fz (Fz.set w5 q 0 (.slice (some ⟨g', 0, none⟩) 1 c')) (by simp; exact HNP.out)).c 4, (P5.out.fz (Fz.set w5 q 0 (.slice (some ⟨g', 0, none⟩) 1 c')) (by simp; exact HNP.out)).c 5⟩
      clear hK K
      try simp only [Act.put, List.setIfInBounds_toArray, List.set_cons_zero, List.set_cons_succ, List.getElem_toArray, List.getElem_cons_zero, List.getElem_cons_succ]
      refine wpAnyH_take (i := 9) (v := ?_) rfl (by kernel_rfl) (by kernel_rfl) (by kernel_rfl) (fun _ _ _ h => h) (Or.inl ⟨by rfl, ?_⟩) (by assumption) ?_
      rotate_left
      · intro w hSw; go_simp; (try with_reducible rfl)
      try simp only [Act.put, List.setIfInBounds_toArray, List.set_cons_zero, List.set_cons_succ, List.getElem_toArray, List.getElem_cons_zero, List.getElem_cons_succ]
      refine wpAnyH_take (i := 10) (v := ?_) rfl (by kernel_rfl) (by kernel_rfl) (by kernel_rfl) (fun _ _ _ h => h) (Or.inl ⟨by rfl, ?_⟩) (by assumption) ?_
      rotate_left
      · intro w hSw; go_simp; (try with_reducible rfl)
      try simp only [Act.put, List.setIfInBounds_toArray, List.set_cons_zero, List.set_cons_succ, List.getElem_toArray, List.getElem_cons_zero, List.getElem_cons_succ]
      refine wpAnyH_ready (rs := [11]) (by kernel_rfl) (by simp) ?_
      refine AllReadyH.cons rfl (fun K hK => ?_) AllReadyH.nil
      go_simp
      refine hK.out _ _ ?_ (fun hHeld => ?_)
      · first | exact ⟨P1.out.c 0, P1.out.c 1, P1.out.c 2, P1.out.c 3, P1.out.c 4, P1.out.c 5⟩ | exact ⟨P1b.out.c 0, P1b.out.c 1, P1b.out.c 2, P1b.out.c 3, P1b.out.c 4, P1b.out.c 5⟩ | exact ⟨P2.out.c 0, P2.out.c 1, P2.out.c 2, P2.out.c 3, P2.out.c 4, P2.out.c 5⟩ | exact ⟨P5.out.c 0, P5.out.c 1, P5.out.c 2, P5.out.c 3, P5.out.c 4, P5.out.c 5⟩ | exact ⟨(P5.out.fz (Fz.set w5 q 0 (.slice (some ⟨g', 0, none⟩) 1 c')) (by simp; exact HNP.out)).c 0, (P5.out.fz (Fz.set w5 q 0 (.slice (some ⟨g', 0, none⟩) 1 c')) (by simp; exact HNP.out)).c 1, (P5.out.fz (Fz.set w5 q 0 (.slice (some ⟨g', 0, none⟩) 1 c')) (by simp; exact HNP.out)).c 2, (P5.out.fz (Fz.set w5 q 0 (.slice (some ⟨g', 0, none⟩) 1 c')) (by simp; exact HNP.out)).c 3, (P5.out.fz (Fz.set w5 q 0 (.slice (some ⟨g', 0, none⟩) 1 c')) (by simp; exact HNP.out)).c 4, (P5.out.fz (Fz.set w5 q 0 (.slice (some ⟨g', 0, none⟩) 1 c')) (by simp; exact HNP.out)).c 5⟩
      clear hK K
      try simp only [Act.put, List.setIfInBounds_toArray, List.set_cons_zero, List.set_cons_succ, List.getElem_toArray, List.getElem_cons_zero, List.getElem_cons_succ]
      refine wpAnyH_done (by kernel_rfl) ?_ _
      refine NoPanic.normal ?_
      obtain ⟨w6, hw6⟩ : ∃ w6, w5.setCell ⟨q, 0, none⟩ (.slice (some ⟨g', 0, none⟩) 1 c') = w6 := ⟨_, rfl⟩
      have E6 : Fz w5 w6 [q] := hw6 ▸ Fz.set w5 q 0 _
      have Q6 : Bk w6 q #[.slice (some ⟨g', 0, none⟩) 1 c', .int .u32 s] 342 := hw6 ▸ Q5.out.set 0 _
      have P6 := Keep.mk (P5.out.fz E6 (by simp; exact HNP.out))
      have R6 := Keep.mk (R5.out.fz E6 (by simp; exact HNR.out))
      have F6 : Keep (Fz w w6 [q]) := ⟨(F5.out.trans E6).mono (by simp)⟩
      have HGQ : Keep (g' ≠ q) := ⟨by have := HO5.out.low; have := HQL.out; omega⟩
      have O6 := Keep.mk (HO5.out.fz E6 (by simp; exact HGQ.out))
      rw [hw6]
      have c61 : w6.cell? ⟨q, 1, none⟩ = some (.int .u32 s) := Q6.c 1
      have f61 := Q6.free 1
      obtain ⟨s1, hs1⟩ : ∃ s1, IntKind.u32.wrap (s + IntKind.u32.wrap 1) = s1 := ⟨_, rfl⟩
      have ON := Keep.mk (on_any s 1 w6)
      rw [hs1] at ON
      have E7 := Fz.set w6 q 1 (.int .u32 s1)
      have Q7 := Keep.mk (Q6.set 1 (.int .u32 s1))
      have P7 := P6.out.fz E7 (by simp; exact HNP.out)
      have R7 := Keep.mk (R6.out.fz E7 (by simp; exact HNR.out))
      have O7 := Keep.mk (O6.out.fz E7 (by simp; exact HGQ.out))
      have F7 : Keep (Fz w (w6.setCell ⟨q, 1, none⟩ (.int .u32 s1)) [q]) := ⟨(F6.out.trans E7).mono (by simp)⟩
      have e0 : (w6.setCell ⟨q, 1, none⟩ (.int .u32 s1)).cell? ⟨w.heap.size, 0, none⟩ = some (.int .u32 s) := P7.c 0
      have e1 : (w6.setCell ⟨q, 1, none⟩ (.int .u32 s1)).cell? ⟨w.heap.size, 1, none⟩ = some (.bool true) := P7.c 1
      have e2 : (w6.setCell ⟨q, 1, none⟩ (.int .u32 s1)).cell? ⟨w.heap.size, 2, none⟩ = some (.bool false) := P7.c 2
      have e3 : (w6.setCell ⟨q, 1, none⟩ (.int .u32 s1)).cell? ⟨w.heap.size, 3, none⟩ = some (.slice none 0 0) := P7.c 3
      have e4 : (w6.setCell ⟨q, 1, none⟩ (.int .u32 s1)).cell? ⟨w.heap.size, 4, none⟩ = some (.int .i64 0) := P7.c 4
      have e5 : (w6.setCell ⟨q, 1, none⟩ (.int .u32 s1)).cell? ⟨w.heap.size, 5, none⟩ = some (.bool false) := P7.c 5
      have ow := Bk.new (w6.setCell ⟨q, 1, none⟩ (.int .u32 s1)) (synP s) 286
      rw [show (w6.setCell ⟨q, 1, none⟩ (.int .u32 s1)).heap.size = w6.heap.size by simp] at ow
      have OW := Keep.mk (own_one _ 1 s _ ow)
      have HS1 := Keep.mk hs1
      clear E6 Q6 E7 P7 hw6 hs1 ow
      go_wp2_with (first
        | (go_at_call 296
           go_loud (refine ON.out.mono ?_; rintro e X ⟨rfl, hX⟩)
           rw [hX]
           clear hX)
        | (go_at_call 291
           go_loud (refine OW.out.mono ?_; rintro e w8 ⟨g8, rfl, hg8, hk8, hb8⟩)
           have E8 := (Fz.alloc (w6.setCell ⟨q, 1, none⟩ (.int .u32 s1)) (.cells (synP s) 286)).trans (Fz.below hb8 (Nat.le_refl _))
           have Q8 := Keep.mk (Q7.out.fz E8 (by simp))
           have R8 := Keep.mk (R7.out.fz E8 (by simp))
           have O8 := Keep.mk (O7.out.fz E8 (by simp))
           have F8 : Keep (Fz w w8 [q]) := ⟨(F7.out.trans E8).mono (by simp)⟩
           have k0 : w8.cell? ⟨g8, 0, none⟩ = some (.int .u32 s) := hk8.c 0
           have k1 : w8.cell? ⟨g8, 1, none⟩ = some (.bool true) := hk8.c 1
           have k2 : w8.cell? ⟨g8, 2, none⟩ = some (.bool false) := hk8.c 2
           have k3 : w8.cell? ⟨g8, 3, none⟩ = some (.slice none 0 0) := hk8.c 3
           have k4 : w8.cell? ⟨g8, 4, none⟩ = some (.int .i64 0) := hk8.c 4
           have k5 : w8.cell? ⟨g8, 5, none⟩ = some (.bool false) := hk8.c 5
           clear hg8 hk8 hb8 E8)
        | (refine Go.wpList_store_row rfl 286 (.tmp 4) (.tmp 42) rfl (w.heap.size + 1) (synP s) rfl rfl 286 _ R8.out.eq (by kernel_rfl) rfl HONE.out ?_)
        | fail)
      refine bodyPost_ret (v := .agg (synP s)) (results_cell_row Tryz.results280 _ _ (w.heap.size + 1) 286 _ (0, 0) _ rfl (setRow_heap _ _ _ _ _ _ R8.out.eq) Tryz.underlying286 rfl (by kernel_rfl)) rfl ⟨rfl, g', c', O8.out.fz (Fz.row _ _ _) (by simp; exact HGR.out), ?_, ?_⟩
      · rw [HS1.out]; exact Q8.out.fz (Fz.row _ _ _) (by simp; have := HQL.out; omega)
      · exact (F8.out.trans (Fz.row _ _ _)).mono (by simp; omega)
    · go_simp
      refine (own_one _ 1 s _ OB.out).mono ?_
      rintro e w2 ⟨g2, rfl, hg2, hk2, hb2⟩
      have B2 := Fz.below hb2 (Nat.le_refl _)
      have Q2 := Keep.mk (Q1b.out.fz B2 (by simp))
      have P2 := Keep.mk (P1b.out.fz B2 (by simp))
      have R2 := Keep.mk (R1b.out.fz B2 (by simp))
      have F2 : Keep (Fz w w2 []) := ⟨(F1b.out.trans B2).mono (by simp)⟩
      have q0c : w2.cell? ⟨q, 0, none⟩ = some (.slice none 0 0) := Q2.out.c 0
      have HK2 := Keep.mk hk2
      clear hg2 hk2 hb2 B2
      refine hK.out _ _ ?_ (fun hHeld => ?_)
      · first | exact ⟨P1.out.c 0, P1.out.c 1, P1.out.c 2, P1.out.c 3, P1.out.c 4, P1.out.c 5⟩ | exact ⟨P1b.out.c 0, P1b.out.c 1, P1b.out.c 2, P1b.out.c 3, P1b.out.c 4, P1b.out.c 5⟩ | exact ⟨P2.out.c 0, P2.out.c 1, P2.out.c 2, P2.out.c 3, P2.out.c 4, P2.out.c 5⟩ | exact ⟨P5.out.c 0, P5.out.c 1, P5.out.c 2, P5.out.c 3, P5.out.c 4, P5.out.c 5⟩ | exact ⟨(P5.out.fz (Fz.set w5 q 0 (.slice (some ⟨g', 0, none⟩) 1 c')) (by simp; exact HNP.out)).c 0, (P5.out.fz (Fz.set w5 q 0 (.slice (some ⟨g', 0, none⟩) 1 c')) (by simp; exact HNP.out)).c 1, (P5.out.fz (Fz.set w5 q 0 (.slice (some ⟨g', 0, none⟩) 1 c')) (by simp; exact HNP.out)).c 2, (P5.out.fz (Fz.set w5 q 0 (.slice (some ⟨g', 0, none⟩) 1 c')) (by simp; exact HNP.out)).c 3, (P5.out.fz (Fz.set w5 q 0 (.slice (some ⟨g', 0, none⟩) 1 c')) (by simp; exact HNP.out)).c 4, (P5.out.fz (Fz.set w5 q 0 (.slice (some ⟨g', 0, none⟩) 1 c')) (by simp; exact HNP.out)).c 5⟩
      clear hK K
      try simp only [Act.put, List.setIfInBounds_toArray, List.set_cons_zero, List.set_cons_succ, List.getElem_toArray, List.getElem_cons_zero, List.getElem_cons_succ]
      refine wpAnyH_ready (rs := [4]) (by kernel_rfl) (by simp) ?_
      refine AllReadyH.cons rfl (fun K hK => ?_) AllReadyH.nil
      go_simp
      refine hK.out _ _ ?_ (fun hHeld => ?_)
      · first | exact ⟨P1.out.c 0, P1.out.c 1, P1.out.c 2, P1.out.c 3, P1.out.c 4, P1.out.c 5⟩ | exact ⟨P1b.out.c 0, P1b.out.c 1, P1b.out.c 2, P1b.out.c 3, P1b.out.c 4, P1b.out.c 5⟩ | exact ⟨P2.out.c 0, P2.out.c 1, P2.out.c 2, P2.out.c 3, P2.out.c 4, P2.out.c 5⟩ | exact ⟨P5.out.c 0, P5.out.c 1, P5.out.c 2, P5.out.c 3, P5.out.c 4, P5.out.c 5⟩ | exact ⟨(P5.out.fz (Fz.set w5 q 0 (.slice (some ⟨g', 0, none⟩) 1 c')) (by simp; exact HNP.out)).c 0, (P5.out.fz (Fz.set w5 q 0 (.slice (some ⟨g', 0, none⟩) 1 c')) (by simp; exact HNP.out)).c 1, (P5.out.fz (Fz.set w5 q 0 (.slice (some ⟨g', 0, none⟩) 1 c')) (by simp; exact HNP.out)).c 2, (P5.out.fz (Fz.set w5 q 0 (.slice (some ⟨g', 0, none⟩) 1 c')) (by simp; exact HNP.out)).c 3, (P5.out.fz (Fz.set w5 q 0 (.slice (some ⟨g', 0, none⟩) 1 c')) (by simp; exact HNP.out)).c 4, (P5.out.fz (Fz.set w5 q 0 (.slice (some ⟨g', 0, none⟩) 1 c')) (by simp; exact HNP.out)).c 5⟩
      clear hK K
      try simp only [Act.put, List.setIfInBounds_toArray, List.set_cons_zero, List.set_cons_succ, List.getElem_toArray, List.getElem_cons_zero, List.getElem_cons_succ]
      refine wpAnyH_ready (rs := [8]) (by kernel_rfl) (by simp) ?_
      refine AllReadyH.cons rfl (fun K hK => ?_) AllReadyH.nil
      refine step_one rfl (.tmp 22) (.tmp 25) 242 286 rfl Tryz.underlying242 infoPiece rfl (by omega) (by omega) rfl g2 (synP s).toList rfl rfl (fun j u hu => ?_) ?_ (by simp [Value.oneCell']) ?_
      · exact (HK2.out.c j).trans (Array.getElem?_toList.symm.trans hu)
      · exact HK2.out.lt
      intro g' c' w5 ho5 hb5
      have B5 := Fz.below hb5 (Nat.le_refl _)
      have Q5 := Keep.mk (Q2.out.fz B5 (by simp))
      have P5 := Keep.mk (P2.out.fz B5 (by simp))
      have R5 := Keep.mk (R2.out.fz B5 (by simp))
      have F5 : Keep (Fz w w5 []) := ⟨(F2.out.trans B5).mono (by simp)⟩
      have HGR : Keep (g' ≠ w.heap.size + 1) := ⟨by have := ho5.low; have := R2.out.lt; omega⟩
      have HO5 := Keep.mk (ho5.from F2.out.size)
      have d0 : w5.cell? ⟨q, 0, none⟩ = some (.slice none 0 0) := Q5.out.c 0
      have f5 := Q5.out.free 0
      clear ho5 hb5 B5
      refine hK.out _ _ ?_ (fun hHeld => ?_)
      · first | exact ⟨P1.out.c 0, P1.out.c 1, P1.out.c 2, P1.out.c 3, P1.out.c 4, P1.out.c 5⟩ | exact ⟨P1b.out.c 0, P1b.out.c 1, P1b.out.c 2, P1b.out.c 3, P1b.out.c 4, P1b.out.c 5⟩ | exact ⟨P2.out.c 0, P2.out.c 1, P2.out.c 2, P2.out.c 3, P2.out.c 4, P2.out.c 5⟩ | exact ⟨P5.out.c 0, P5.out.c 1, P5.out.c 2, P5.out.c 3, P5.out.c 4, P5.out.c 5⟩ | exact ⟨(P5.out.fz (Fz.set w5 q 0 (.slice (some ⟨g', 0, none⟩) 1 c')) (by simp; exact HNP.out)).c 0, (P5.out.fz (Fz.set w5 q 0 (.slice (some ⟨g', 0, none⟩) 1 c')) (by simp; exact HNP.out)).c 1, (P5.out.fz (Fz.set w5 q 0 (.slice (some ⟨g', 0, none⟩) 1 c')) (by simp; exact HNP.out)).c 2, (P5.out.fz (Fz.set w5 q 0 (.slice (some ⟨g', 0, none⟩) 1 c')) (by simp; exact HNP.out)).c 3, (P5.out.fz (Fz.set w5 q 0 (.slice (some ⟨g', 0, none⟩) 1 c')) (by simp; exact HNP.out)).c 4, (P5.out.fz (Fz.set w5 q 0 (.slice (some ⟨g', 0, none⟩) 1 c')) (by simp; exact HNP.out)).c 5⟩
      clear hK K
      try simp only [Act.put, List.setIfInBounds_toArray, List.set_cons_zero, List.set_cons_succ, List.getElem_toArray, List.getElem_cons_zero, List.getElem_cons_succ]
      refine wpAnyH_take (i := 9) (v := ?_) rfl (by kernel_rfl) (by kernel_rfl) (by kernel_rfl) (fun _ _ _ h => h) (Or.inl ⟨by rfl, ?_⟩) (by assumption) ?_
      rotate_left
      · intro w hSw; go_simp; (try with_reducible rfl)
      try simp only [Act.put, List.setIfInBounds_toArray, List.set_cons_zero, List.set_cons_succ, List.getElem_toArray, List.getElem_cons_zero, List.getElem_cons_succ]
      refine wpAnyH_take (i := 10) (v := ?_) rfl (by kernel_rfl) (by kernel_rfl) (by kernel_rfl) (fun _ _ _ h => h) (Or.inl ⟨by rfl, ?_⟩) (by assumption) ?_
      rotate_left
      · intro w hSw; go_simp; (try with_reducible rfl)
      try simp only [Act.put, List.setIfInBounds_toArray, List.set_cons_zero, List.set_cons_succ, List.getElem_toArray, List.getElem_cons_zero, List.getElem_cons_succ]
      refine wpAnyH_ready (rs := [11]) (by kernel_rfl) (by simp) ?_
      refine AllReadyH.cons rfl (fun K hK => ?_) AllReadyH.nil
      go_simp
      refine hK.out _ _ ?_ (fun hHeld => ?_)
      · first | exact ⟨P1.out.c 0, P1.out.c 1, P1.out.c 2, P1.out.c 3, P1.out.c 4, P1.out.c 5⟩ | exact ⟨P1b.out.c 0, P1b.out.c 1, P1b.out.c 2, P1b.out.c 3, P1b.out.c 4, P1b.out.c 5⟩ | exact ⟨P2.out.c 0, P2.out.c 1, P2.out.c 2, P2.out.c 3, P2.out.c 4, P2.out.c 5⟩ | exact ⟨P5.out.c 0, P5.out.c 1, P5.out.c 2, P5.out.c 3, P5.out.c 4, P5.out.c 5⟩ | exact ⟨(P5.out.fz (Fz.set w5 q 0 (.slice (some ⟨g', 0, none⟩) 1 c')) (by simp; exact HNP.out)).c 0, (P5.out.fz (Fz.set w5 q 0 (.slice (some ⟨g', 0, none⟩) 1 c')) (by simp; exact HNP.out)).c 1, (P5.out.fz (Fz.set w5 q 0 (.slice (some ⟨g', 0, none⟩) 1 c')) (by simp; exact HNP.out)).c 2, (P5.out.fz (Fz.set w5 q 0 (.slice (some ⟨g', 0, none⟩) 1 c')) (by simp; exact HNP.out)).c 3, (P5.out.fz (Fz.set w5 q 0 (.slice (some ⟨g', 0, none⟩) 1 c')) (by simp; exact HNP.out)).c 4, (P5.out.fz (Fz.set w5 q 0 (.slice (some ⟨g', 0, none⟩) 1 c')) (by simp; exact HNP.out)).c 5⟩
      clear hK K
      try simp only [Act.put, List.setIfInBounds_toArray, List.set_cons_zero, List.set_cons_succ, List.getElem_toArray, List.getElem_cons_zero, List.getElem_cons_succ]
      refine wpAnyH_done (by kernel_rfl) ?_ _
      refine NoPanic.normal ?_
      obtain ⟨w6, hw6⟩ : ∃ w6, w5.setCell ⟨q, 0, none⟩ (.slice (some ⟨g', 0, none⟩) 1 c') = w6 := ⟨_, rfl⟩
      have E6 : Fz w5 w6 [q] := hw6 ▸ Fz.set w5 q 0 _
      have Q6 : Bk w6 q #[.slice (some ⟨g', 0, none⟩) 1 c', .int .u32 s] 342 := hw6 ▸ Q5.out.set 0 _
      have P6 := Keep.mk (P5.out.fz E6 (by simp; exact HNP.out))
      have R6 := Keep.mk (R5.out.fz E6 (by simp; exact HNR.out))
      have F6 : Keep (Fz w w6 [q]) := ⟨(F5.out.trans E6).mono (by simp)⟩
      have HGQ : Keep (g' ≠ q) := ⟨by have := HO5.out.low; have := HQL.out; omega⟩
      have O6 := Keep.mk (HO5.out.fz E6 (by simp; exact HGQ.out))
      rw [hw6]
      have c61 : w6.cell? ⟨q, 1, none⟩ = some (.int .u32 s) := Q6.c 1
      have f61 := Q6.free 1
      obtain ⟨s1, hs1⟩ : ∃ s1, IntKind.u32.wrap (s + IntKind.u32.wrap 1) = s1 := ⟨_, rfl⟩
      have ON := Keep.mk (on_any s 1 w6)
      rw [hs1] at ON
      have E7 := Fz.set w6 q 1 (.int .u32 s1)
      have Q7 := Keep.mk (Q6.set 1 (.int .u32 s1))
      have P7 := P6.out.fz E7 (by simp; exact HNP.out)
      have R7 := Keep.mk (R6.out.fz E7 (by simp; exact HNR.out))
      have O7 := Keep.mk (O6.out.fz E7 (by simp; exact HGQ.out))
      have F7 : Keep (Fz w (w6.setCell ⟨q, 1, none⟩ (.int .u32 s1)) [q]) := ⟨(F6.out.trans E7).mono (by simp)⟩
      have e0 : (w6.setCell ⟨q, 1, none⟩ (.int .u32 s1)).cell? ⟨w.heap.size, 0, none⟩ = some (.int .u32 s) := P7.c 0
      have e1 : (w6.setCell ⟨q, 1, none⟩ (.int .u32 s1)).cell? ⟨w.heap.size, 1, none⟩ = some (.bool true) := P7.c 1
      have e2 : (w6.setCell ⟨q, 1, none⟩ (.int .u32 s1)).cell? ⟨w.heap.size, 2, none⟩ = some (.bool false) := P7.c 2
      have e3 : (w6.setCell ⟨q, 1, none⟩ (.int .u32 s1)).cell? ⟨w.heap.size, 3, none⟩ = some (.slice none 0 0) := P7.c 3
      have e4 : (w6.setCell ⟨q, 1, none⟩ (.int .u32 s1)).cell? ⟨w.heap.size, 4, none⟩ = some (.int .i64 0) := P7.c 4
      have e5 : (w6.setCell ⟨q, 1, none⟩ (.int .u32 s1)).cell? ⟨w.heap.size, 5, none⟩ = some (.bool false) := P7.c 5
      have ow := Bk.new (w6.setCell ⟨q, 1, none⟩ (.int .u32 s1)) (synP s) 286
      rw [show (w6.setCell ⟨q, 1, none⟩ (.int .u32 s1)).heap.size = w6.heap.size by simp] at ow
      have OW := Keep.mk (own_one _ 1 s _ ow)
      have HS1 := Keep.mk hs1
      clear E6 Q6 E7 P7 hw6 hs1 ow
      go_wp2_with (first
        | (go_at_call 296
           go_loud (refine ON.out.mono ?_; rintro e X ⟨rfl, hX⟩)
           rw [hX]
           clear hX)
        | (go_at_call 291
           go_loud (refine OW.out.mono ?_; rintro e w8 ⟨g8, rfl, hg8, hk8, hb8⟩)
           have E8 := (Fz.alloc (w6.setCell ⟨q, 1, none⟩ (.int .u32 s1)) (.cells (synP s) 286)).trans (Fz.below hb8 (Nat.le_refl _))
           have Q8 := Keep.mk (Q7.out.fz E8 (by simp))
           have R8 := Keep.mk (R7.out.fz E8 (by simp))
           have O8 := Keep.mk (O7.out.fz E8 (by simp))
           have F8 : Keep (Fz w w8 [q]) := ⟨(F7.out.trans E8).mono (by simp)⟩
           have k0 : w8.cell? ⟨g8, 0, none⟩ = some (.int .u32 s) := hk8.c 0
           have k1 : w8.cell? ⟨g8, 1, none⟩ = some (.bool true) := hk8.c 1
           have k2 : w8.cell? ⟨g8, 2, none⟩ = some (.bool false) := hk8.c 2
           have k3 : w8.cell? ⟨g8, 3, none⟩ = some (.slice none 0 0) := hk8.c 3
           have k4 : w8.cell? ⟨g8, 4, none⟩ = some (.int .i64 0) := hk8.c 4
           have k5 : w8.cell? ⟨g8, 5, none⟩ = some (.bool false) := hk8.c 5
           clear hg8 hk8 hb8 E8)
        | (refine Go.wpList_store_row rfl 286 (.tmp 4) (.tmp 42) rfl (w.heap.size + 1) (synP s) rfl rfl 286 _ R8.out.eq (by kernel_rfl) rfl HONE.out ?_)
        | fail)
      refine bodyPost_ret (v := .agg (synP s)) (results_cell_row Tryz.results280 _ _ (w.heap.size + 1) 286 _ (0, 0) _ rfl (setRow_heap _ _ _ _ _ _ R8.out.eq) Tryz.underlying286 rfl (by kernel_rfl)) rfl ⟨rfl, g', c', O8.out.fz (Fz.row _ _ _) (by simp; exact HGR.out), ?_, ?_⟩
      · rw [HS1.out]; exact Q8.out.fz (Fz.row _ _ _) (by simp; have := HQL.out; omega)
      · exact (F8.out.trans (Fz.row _ _ _)).mono (by simp; omega)
  -- end reg
end Go.Proofs.YtjpokeakemlffaaGreatDoor
/-
  The flow's send of what opens; flow.Dial.
-/
namespace Go.Proofs.YtjpokeakemlffaaGreatDoor
open Go.RowKit
set_option maxRecDepth 100000 in
set_option maxHeartbeats 3200000 in
theorem send_syn (f q : Nat) (rcv tries s tick : Int) (w : World) (h : Bk w f (flC q 0 1 rcv tries 0 false 0 false (.slice none 0 0)) 283) (hq : Bk w q #[.slice none 0 0, .int .u32 s] 342) (hne : f ≠ q) (h1 : -4611686018427387904 < tick) (h2 : tick < 4611686018427387904) :
    Calls Tryz.prog 222 #[.pointer (some ⟨f, 0, none⟩), .agg (synP 0), .int .i64 tick] w fun e w' => e = .returned (.tuple #[]) ∧ ∃ g c g2 c2, One w w' 286 6 g2 c2 (synP s).toList ∧ One w w' 334 9 g c (synO s) ∧
      Bk w' f (flC q 0 1 rcv tries (tick + 4) true tick false (.slice (some ⟨g, 0, none⟩) 1 c)) 283 ∧ Bk w' q #[.slice (some ⟨g2, 0, none⟩) 1 c2, .int .u32 (IntKind.u32.wrap (s + IntKind.u32.wrap 1))] 342 ∧ Fz w w' [f, q] := by
  obtain ⟨W, hW⟩ : ∃ W, (w.alloc (.cells (synP 0) 286)) = W := ⟨_, rfl⟩
  have N0 : Bk W w.heap.size (synP 0) 286 := hW ▸ Bk.new w _ _
  have E0 : Fz w W [] := hW ▸ Fz.alloc w _
  have F0 := h.fz E0 (by simp)
  have Q0 := hq.fz E0 (by simp)
  have QL := Keep.mk (qlen_any q none 0 0 s W Q0)
  have c0 : W.cell? ⟨f, 0, none⟩ = some (.pointer (some ⟨q, 0, none⟩)) := F0.c 0
  have c10 : W.cell? ⟨f, 10, none⟩ = some (.int .i64 0) := F0.c 10
  have c11 : W.cell? ⟨f, 11, none⟩ = some (.bool false) := F0.c 11
  have f10 := F0.free 10
  have f11 := F0.free 11
  have HFL : Keep (f < w.heap.size) := ⟨h.lt⟩
  have HQL : Keep (q < w.heap.size) := ⟨hq.lt⟩
  have HNE : Keep (f ≠ q) := ⟨hne⟩
  have HTK : Keep (-4611686018427387904 < tick ∧ tick < 4611686018427387904) := ⟨h1, h2⟩
  have HW := Keep.mk hW
  have KN := Keep.mk N0
  have KF := Keep.mk F0
  have KQ := Keep.mk Q0
  have KE := Keep.mk E0
  clear h hq hne h1 h2 N0 E0 F0 Q0
  go_enter Tryz.func222, Tryz.ntmps222
  go_upto_region 3 with (first
    | (go_at_call 278
       try rw [hW]
       go_loud (refine QL.out.mono ?_; rintro e X ⟨rfl, hX⟩)
       rw [hX]
       clear hX)
    | fail)
  obtain ⟨w3, hw3⟩ : ∃ w3, (W.setCell ⟨f, 10, none⟩ (.int .i64 tick)).setCell ⟨f, 11, none⟩ (.bool false) = w3 := ⟨_, rfl⟩
  have E3 : Fz W w3 [f] := hw3 ▸ ((Fz.set W f 10 (.int .i64 tick)).trans (Fz.set _ f 11 (.bool false))).mono (by simp)
  have F3 : Bk w3 f (flC q 0 1 rcv tries 0 false tick false (.slice none 0 0)) 283 := hw3 ▸ (KF.out.set 10 (.int .i64 tick)).set 11 (.bool false)
  have Q3 := Keep.mk (KQ.out.fz E3 (by simp; have := HNE.out; omega))
  have N3 := Keep.mk (KN.out.fz E3 (by simp; have := HFL.out; omega))
  have G3 : Keep (Fz w w3 [f]) := ⟨(KE.out.trans E3).mono (by simp)⟩
  rw [hw3]
  have KF3 := Keep.mk F3
  have PU := Keep.mk (push_syn q s w3.drew (Q3.out.fz (Fz.drew _ 1) (by simp)))
  have HNP : Keep (w.heap.size ≠ q) := ⟨by have := HQL.out; omega⟩
  have HNW : Keep (w.heap.size ≠ f) := ⟨by have := HFL.out; omega⟩
  clear E3 F3 hw3 hW HW c0 c10 c11 f10 f11 QL KE KF KQ KN
  -- reg send
  refine wp_region_noPanic ?_
  refine wp_region_held_drew (S := fun X => X.cell? ⟨f, 0, none⟩ = some (.pointer (some ⟨q, 0, none⟩)) ∧ X.cell? ⟨w.heap.size, 0, none⟩ = some (.int .u32 0) ∧ X.cell? ⟨w.heap.size, 1, none⟩ = some (.bool true) ∧ X.cell? ⟨w.heap.size, 2, none⟩ = some (.bool false) ∧ X.cell? ⟨w.heap.size, 3, none⟩ = some (.slice none 0 0) ∧ X.cell? ⟨w.heap.size, 4, none⟩ = some (.int .i64 0) ∧ X.cell? ⟨w.heap.size, 5, none⟩ = some (.bool false)) (by kernel_rfl) ⟨KF3.out.c 0, N3.out.c 0, N3.out.c 1, N3.out.c 2, N3.out.c 3, N3.out.c 4, N3.out.c 5⟩ (fun hHeld => ?_)
  refine wpAnyH_take (i := 0) (v := ?_) rfl (by kernel_rfl) (by kernel_rfl) (by kernel_rfl) (fun _ _ _ h => h) (Or.inl ⟨by rfl, ?_⟩) (by assumption) ?_
  rotate_left
  · intro w hSw; go_simp; (try with_reducible rfl)
  try simp only [Act.put, List.setIfInBounds_toArray, List.set_cons_zero, List.set_cons_succ, List.getElem_toArray, List.getElem_cons_zero, List.getElem_cons_succ]
  refine wpAnyH_take (i := 1) (v := ?_) rfl (by kernel_rfl) (by kernel_rfl) (by kernel_rfl) (fun _ _ _ h => h) (Or.inl ⟨by rfl, ?_⟩) (by assumption) ?_
  rotate_left
  · intro w hSw; go_simp; (try with_reducible rfl)
  try simp only [Act.put, List.setIfInBounds_toArray, List.set_cons_zero, List.set_cons_succ, List.getElem_toArray, List.getElem_cons_zero, List.getElem_cons_succ]
  refine wpAnyH_take (i := 2) (v := ?_) rfl (by kernel_rfl) (by kernel_rfl) (by kernel_rfl) (fun _ _ _ h => h) (Or.inl ⟨by rfl, ?_⟩) (by assumption) ?_
  rotate_left
  · intro w hSw; go_simp; (try with_reducible rfl)
  try simp only [Act.put, List.setIfInBounds_toArray, List.set_cons_zero, List.set_cons_succ, List.getElem_toArray, List.getElem_cons_zero, List.getElem_cons_succ]
  refine wpAnyH_take (i := 3) (v := ?_) rfl (by kernel_rfl) (by kernel_rfl) (by kernel_rfl) (fun _ _ _ h => h) (Or.inl ⟨by rfl, ?_⟩) (by assumption) ?_
  rotate_left
  · intro w hSw; go_simp; (try with_reducible rfl)
  try simp only [Act.put, List.setIfInBounds_toArray, List.set_cons_zero, List.set_cons_succ, List.getElem_toArray, List.getElem_cons_zero, List.getElem_cons_succ]
  refine wpAnyH_take (i := 4) (v := ?_) rfl (by kernel_rfl) (by kernel_rfl) (by kernel_rfl) (fun _ _ _ h => h) (Or.inl ⟨by rfl, ?_⟩) (by assumption) ?_
  rotate_left
  · intro w hSw; go_simp; (try with_reducible rfl)
  try simp only [Act.put, List.setIfInBounds_toArray, List.set_cons_zero, List.set_cons_succ, List.getElem_toArray, List.getElem_cons_zero, List.getElem_cons_succ]
  refine wpAnyH_take (i := 5) (v := ?_) rfl (by kernel_rfl) (by kernel_rfl) (by kernel_rfl) (fun _ _ _ h => h) (Or.inl ⟨by rfl, ?_⟩) (by assumption) ?_
  rotate_left
  · intro w hSw; go_simp; (try with_reducible rfl)
  try simp only [Act.put, List.setIfInBounds_toArray, List.set_cons_zero, List.set_cons_succ, List.getElem_toArray, List.getElem_cons_zero, List.getElem_cons_succ]
  refine wpAnyH_ready (rs := [6]) (by kernel_rfl) (by simp) ?_
  refine AllReadyH.cons rfl (fun K hK => ?_) AllReadyH.nil
  go_simp
  refine PU.out.mono ?_
  rintro e w4 ⟨rfl, g2, c2, o4, q4, e4⟩
  have F4 := Keep.mk (KF3.out.fz ((Fz.drew w3 1).trans e4) (by simp; exact HNE.out))
  have N4 := Keep.mk (N3.out.fz ((Fz.drew w3 1).trans e4) (by simp; exact HNP.out))
  have G4 : Keep (Fz w w4 [f, q]) := ⟨(G3.out.trans ((Fz.drew w3 1).trans e4)).mono (by simp)⟩
  have Q4 := Keep.mk q4
  have O4 := Keep.mk (o4.from (w := w) G3.out.size)
  have PT := Keep.mk (fput_syn s w4 F4.out)
  clear o4 q4 e4
  refine hK.out _ _ ?_ (fun hHeld => ?_)
  · first | exact ⟨KF3.out.c 0, N3.out.c 0, N3.out.c 1, N3.out.c 2, N3.out.c 3, N3.out.c 4, N3.out.c 5⟩ | exact ⟨F4.out.c 0, N4.out.c 0, N4.out.c 1, N4.out.c 2, N4.out.c 3, N4.out.c 4, N4.out.c 5⟩ | exact ⟨F5.out.c 0, N5.out.c 0, N5.out.c 1, N5.out.c 2, N5.out.c 3, N5.out.c 4, N5.out.c 5⟩
  clear hK K
  try simp only [Act.put, List.setIfInBounds_toArray, List.set_cons_zero, List.set_cons_succ, List.getElem_toArray, List.getElem_cons_zero, List.getElem_cons_succ]
  refine wpAnyH_ready (rs := [7]) (by kernel_rfl) (by simp) ?_
  refine AllReadyH.cons rfl (fun K hK => ?_) AllReadyH.nil
  go_simp
  refine PT.out.mono ?_
  rintro e w5 ⟨rfl, g, c, o5, f5, e5⟩
  have HGF : Keep (g2 ≠ f) := ⟨by have := O4.out.low; have := HFL.out; omega⟩
  have N5 := Keep.mk (N4.out.fz e5 (by simp; exact HNW.out))
  have Q5 := Keep.mk (Q4.out.fz e5 (by simp; have := HNE.out; omega))
  have O5 := Keep.mk (O4.out.fz e5 (by simp; exact HGF.out))
  have G5 : Keep (Fz w w5 [f, q]) := ⟨(G4.out.trans e5).mono (by simp; omega)⟩
  have U5 := Keep.mk (o5.from (w := w) G4.out.size)
  have F5 := Keep.mk f5
  clear o5 f5 e5
  refine hK.out _ _ ?_ (fun hHeld => ?_)
  · first | exact ⟨KF3.out.c 0, N3.out.c 0, N3.out.c 1, N3.out.c 2, N3.out.c 3, N3.out.c 4, N3.out.c 5⟩ | exact ⟨F4.out.c 0, N4.out.c 0, N4.out.c 1, N4.out.c 2, N4.out.c 3, N4.out.c 4, N4.out.c 5⟩ | exact ⟨F5.out.c 0, N5.out.c 0, N5.out.c 1, N5.out.c 2, N5.out.c 3, N5.out.c 4, N5.out.c 5⟩
  clear hK K
  try simp only [Act.put, List.setIfInBounds_toArray, List.set_cons_zero, List.set_cons_succ, List.getElem_toArray, List.getElem_cons_zero, List.getElem_cons_succ]
  refine wpAnyH_done (by kernel_rfl) ?_ _
  refine NoPanic.normal ?_
  have d9 : w5.cell? ⟨f, 9, none⟩ = some (.bool false) := F5.out.c 9
  have AR := Keep.mk (farm_zero tick w5 F5.out HTK.out.1 HTK.out.2)
  go_wp2_with (first
    | (go_at_call 281
       go_loud (refine AR.out.mono ?_; rintro e w6 ⟨rfl, f6, e6⟩)
       have HGF2 : Keep (g ≠ f) := ⟨by have := U5.out.low; have := HFL.out; omega⟩
       have Q6 := Keep.mk (Q5.out.fz e6 (by simp; have := HNE.out; omega))
       have O6 := Keep.mk (O5.out.fz e6 (by simp; exact HGF.out))
       have U6 := Keep.mk (U5.out.fz e6 (by simp; exact HGF2.out))
       have G6 : Keep (Fz w w6 [f, q]) := ⟨(G5.out.trans e6).mono (by simp; omega)⟩
       have F6 := Keep.mk f6
       clear f6 e6)
    | fail)
  go_end0
  exact ⟨rfl, g, c, g2, c2, O6.out, U6.out, F6.out, Q6.out, G6.out⟩
  -- end reg
set_option maxRecDepth 100000 in
set_option maxHeartbeats 1600000 in
theorem fdial_syn (s tick : Int) (w : World) (h1 : -4611686018427387904 < tick) (h2 : tick < 4611686018427387904) :
    Calls Tryz.prog 151 #[.int .u32 s, .int .i64 tick] w fun e w' => e = .returned (.pointer (some ⟨w.heap.size + 1, 0, none⟩)) ∧ ∃ g c g2 c2, One w w' 286 6 g2 c2 (synP s).toList ∧ One w w' 334 9 g c (synO s) ∧
      Bk w' (w.heap.size + 1) (flC w.heap.size 0 1 0 0 (tick + 4) true tick false (.slice (some ⟨g, 0, none⟩) 1 c)) 283 ∧ Bk w' w.heap.size #[.slice (some ⟨g2, 0, none⟩) 1 c2, .int .u32 (IntKind.u32.wrap (s + IntKind.u32.wrap 1))] 342 ∧ Below w.heap.size w w' := by
  have QN := Keep.mk (qnew_any s w)
  have f0 := Bk.new (w.alloc (.cells #[.slice none 0 0, .int .u32 s] 342)) (flC w.heap.size 0 1 0 0 0 false 0 false (.slice none 0 0)) 283
  rw [show (w.alloc (.cells #[.slice none 0 0, .int .u32 s] 342)).heap.size = w.heap.size + 1 by simp] at f0
  have q0 := (Bk.new w #[.slice none 0 0, .int .u32 s] 342).fz (Fz.alloc _ (.cells (flC w.heap.size 0 1 0 0 0 false 0 false (.slice none 0 0)) 283)) (by simp)
  have SD := Keep.mk (send_syn (w.heap.size + 1) w.heap.size 0 0 s tick _ f0 q0 (by omega) h1 h2)
  have F0 : Keep (Fz w ((w.alloc (.cells #[.slice none 0 0, .int .u32 s] 342)).alloc (.cells (flC w.heap.size 0 1 0 0 0 false 0 false (.slice none 0 0)) 283)) []) := ⟨((Fz.alloc w _).trans (Fz.alloc _ _)).mono (by simp)⟩
  clear h1 h2 f0 q0
  go_enter Tryz.func151, Tryz.ntmps151
  go_wp2_with (first
    | (go_at_call 221
       go_loud (refine QN.out.mono ?_; rintro e X ⟨rfl, hX⟩)
       rw [hX]
       clear hX)
    | (go_at_call 222
       go_loud (refine SD.out.mono ?_; rintro e w5 ⟨rfl, g, c, g2, c2, o2, o1, f5, q5, e5⟩)
       have O2 := Keep.mk (o2.from F0.out.size)
       have O1 := Keep.mk (o1.from F0.out.size)
       have F5 := Keep.mk f5
       have Q5 := Keep.mk q5
       have B5 : Keep (Below w.heap.size w w5) := ⟨(F0.out.trans e5).toBelow (Nat.le_refl _) (by simp)⟩
       clear o2 o1 f5 q5 e5)
    | fail)
  go_ret
  exact ⟨rfl, g, c, g2, c2, O2.out, O1.out, F5.out, Q5.out, B5.out⟩
end Go.Proofs.YtjpokeakemlffaaGreatDoor
/-
  What a world holds, told as a list of assertions, each of memory of its own.
-/
namespace Go.Proofs.YtjpokeakemlffaaGreatDoor
open Go.RowKit
abbrev Hp := Nat → Option Obj
structure EnvW where
  os : Os
  tape : Nat → Question → Nat
  output : Array (Nat × ByteArray)
abbrev HA := EnvW → Hp → Prop
def envW (w : World) : EnvW := ⟨w.os, w.tape, w.output⟩
def hpW (w : World) : Hp := fun k => w.heap[k]?
def hle (a b : Hp) : Prop := ∀ k o, a k = some o → b k = some o
def hdj (a b : Hp) : Prop := ∀ k, a k = none ∨ b k = none
def star (A B : HA) : HA := fun e h => ∃ a b, hle a h ∧ hle b h ∧ hdj a b ∧ A e a ∧ B e b
def hemp : HA := fun _ _ => True
def hall : List HA → HA
  | [] => hemp
  | A :: L => star A (hall L)
def Sat (w : World) (L : List HA) : Prop := hall L (envW w) (hpW w)
def hex {α : Sort _} (f : α → HA) : HA := fun e h => ∃ x, f x e h
theorem hle_refl (a : Hp) : hle a a := fun _ _ h => h
theorem hle_trans {a b c : Hp} (h : hle a b) (h' : hle b c) : hle a c := fun k o e => h' k o (h k o e)
theorem hdj_le {a b c : Hp} (h : hdj a b) (h' : hle c b) : hdj a c := fun k => by
  rcases h k with h | h
  · exact .inl h
  · cases e : c k with
    | none => exact .inr rfl
    | some o => rw [h' k o e] at h; cases h
theorem hdj_symm {a b : Hp} (h : hdj a b) : hdj b a := fun k => (h k).symm
def hun (a b : Hp) : Hp := fun k => match a k with | some o => some o | none => b k
theorem hle_un_l (a b : Hp) : hle a (hun a b) := fun k o h => by simp [hun, h]
theorem hle_un_r {a b : Hp} (d : hdj a b) : hle b (hun a b) := fun k o h => by
  rcases d k with e | e
  · simp [hun, e, h]
  · rw [e] at h; cases h
theorem hun_le {a b h : Hp} (x : hle a h) (y : hle b h) : hle (hun a b) h := fun k o e => by
  unfold hun at e
  split at e
  · rename_i o' e'; cases e; exact x k _ e'
  · exact y k _ e
theorem hdj_un {a b c : Hp} (x : hdj c a) (y : hdj c b) : hdj c (hun a b) := fun k => by
  rcases x k with e | e
  · exact .inl e
  · rcases y k with e' | e'
    · exact .inl e'
    · exact .inr (by simp [hun, e, e'])
theorem star_up {A B : HA} {e : EnvW} {h h' : Hp} (H : star A B e h) (u : hle h h') : star A B e h' :=
  let ⟨a, b, x, y, d, p, q⟩ := H
  ⟨a, b, hle_trans x u, hle_trans y u, d, p, q⟩
theorem hall_up : ∀ (L : List HA) {e : EnvW} {h h' : Hp}, hall L e h → hle h h' → hall L e h'
  | [], _, _, _, _, _ => trivial
  | _ :: _, _, _, _, H, u => star_up H u
theorem star_swap {A B : HA} {L : List HA} {e : EnvW} {h : Hp} (H : star A (star B (hall L)) e h) : star B (star A (hall L)) e h := by
  obtain ⟨a, bl, ha, hbl, d, pa, b, l, hb, hl, d', pb, pl⟩ := H
  have d1 : hdj a b := hdj_le d hb
  have d2 : hdj a l := hdj_le d hl
  refine ⟨b, hun a l, hle_trans hb hbl, hun_le ha (hle_trans hl hbl), hdj_un (hdj_symm d1) d', pb, a, l, hle_un_l a l, hle_un_r d2, d2, pa, pl⟩
theorem hall_perm {L L' : List HA} (p : L.Perm L') : ∀ {e : EnvW} {h : Hp}, hall L e h → hall L' e h := by
  induction p with
  | nil => exact fun H => H
  | cons x _ ih => exact fun ⟨a, b, x, y, d, p, q⟩ => ⟨a, b, x, y, d, p, ih q⟩
  | swap x y l => exact fun H => star_swap H
  | trans _ _ ih1 ih2 => exact fun H => ih2 (ih1 H)
def rmv {α : Type _} : Nat → List α → List α
  | _, [] => []
  | 0, _ :: l => l
  | k + 1, x :: l => x :: rmv k l
def ins {α : Type _} : Nat → α → List α → List α
  | 0, a, l => a :: l
  | _ + 1, a, [] => [a]
  | k + 1, a, x :: l => x :: ins k a l
def lset {α : Type _} : Nat → α → List α → List α
  | _, _, [] => []
  | 0, a, _ :: l => a :: l
  | k + 1, a, x :: l => x :: lset k a l
def nth {α : Type _} : Nat → List α → Option α
  | _, [] => none
  | 0, x :: _ => some x
  | k + 1, _ :: l => nth k l
theorem perm_rmv {α : Type _} : ∀ (k : Nat) (L : List α) (A : α), nth k L = some A → L.Perm (A :: rmv k L)
  | _, [], _, h => by simp [nth] at h
  | 0, x :: l, A, h => by simp [nth] at h; subst h; exact .refl _
  | k + 1, x :: l, A, h => ((perm_rmv k l A h).cons x).trans (.swap _ _ _)
theorem perm_ins {α : Type _} : ∀ (k : Nat) (A : α) (L : List α), (A :: L).Perm (ins k A L)
  | 0, _, _ => .refl _
  | _ + 1, _, [] => .refl _
  | k + 1, A, x :: l => (List.Perm.swap _ _ _).trans ((perm_ins k A l).cons x)
theorem perm_lset {α : Type _} : ∀ (k : Nat) (L : List α) (A B : α), nth k L = some A → (B :: rmv k L).Perm (lset k B L)
  | _, [], _, _, h => by simp [nth] at h
  | 0, x :: l, A, B, h => .refl _
  | k + 1, x :: l, A, B, h => (List.Perm.swap _ _ _).trans ((perm_lset k l A B h).cons x)
section
variable {w w' : World} {A B C : HA} {L L' : List HA}
theorem Sat.perm (H : Sat w L) (p : L.Perm L') : Sat w L' := hall_perm p H
theorem Sat.to (H : Sat w L) (k : Nat) (h : nth k L = some A) : Sat w (A :: rmv k L) := H.perm (perm_rmv k L A h)
theorem Sat.back (H : Sat w (A :: L)) (k : Nat) : Sat w (ins k A L) := H.perm (perm_ins k A L)
theorem Sat.tl (H : Sat w (A :: L)) : Sat w L := let ⟨_, _, _, y, _, _, q⟩ := H; hall_up L q y
theorem Sat.rm (H : Sat w L) (k : Nat) (h : nth k L = some A) : Sat w (rmv k L) := (H.to k h).tl
theorem Sat.hd (H : Sat w (A :: L)) : ∃ h, hle h (hpW w) ∧ A (envW w) h := let ⟨a, _, x, _, _, p, _⟩ := H; ⟨a, x, p⟩
theorem Sat.mono (H : Sat w (A :: L)) (f : ∀ h, hle h (hpW w) → A (envW w) h → B (envW w) h) : Sat w (B :: L) :=
  let ⟨a, b, x, y, d, p, q⟩ := H
  ⟨a, b, x, y, d, f a x p, q⟩
theorem Sat.ex {α : Sort _} {f : α → HA} (H : Sat w (hex f :: L)) : ∃ x, Sat w (f x :: L) :=
  let ⟨a, b, x, y, d, ⟨z, p⟩, q⟩ := H
  ⟨z, a, b, x, y, d, p, q⟩
theorem Sat.emp (H : Sat w L) : Sat w (hemp :: L) :=
  ⟨fun _ => none, hpW w, (fun _ _ h => by cases h), hle_refl _, fun _ => .inl rfl, trivial, H⟩
theorem Sat.sep (H : Sat w (star A B :: L)) : Sat w (A :: B :: L) := by
  obtain ⟨ab, l, x, y, d, ⟨a, b, xa, xb, dab, pa, pb⟩, pl⟩ := H
  have dal : hdj a l := hdj_symm (hdj_le (hdj_symm d) xa)
  have dbl : hdj b l := hdj_symm (hdj_le (hdj_symm d) xb)
  exact ⟨a, hun b l, hle_trans xa x, hun_le (hle_trans xb x) y, hdj_un dab dal, pa, b, l, hle_un_l _ _, hle_un_r dbl, dbl, pb, pl⟩
theorem Sat.sepI (H : Sat w (A :: B :: L)) : Sat w (star A B :: L) := by
  obtain ⟨a, bl, xa, xbl, d, pa, b, l, xb, xl, d', pb, pl⟩ := H
  have dab : hdj a b := hdj_le d xb
  have dal : hdj a l := hdj_le d xl
  exact ⟨hun a b, l, hun_le xa (hle_trans xb xbl), hle_trans xl xbl, hdj_symm (hdj_un (hdj_symm dal) (hdj_symm d')), ⟨a, b, hle_un_l _ _, hle_un_r dab, dab, pa, pb⟩, pl⟩
def partH (w' : World) (cs : List Nat) (n : Nat) : Hp := fun k => if k ∈ cs ∨ n ≤ k then w'.heap[k]? else none
theorem env_fz {cs : List Nat} (F : Fz w w' cs) : envW w' = envW w := by simp [envW, F.os, F.tape, F.output]
theorem Sat.put (H : Sat w (A :: L)) (cs : List Nat) (hA : ∀ h, hle h (hpW w) → A (envW w) h → ∀ k ∈ cs, h k ≠ none) (F : Fz w w' cs) (hB : B (envW w') (partH w' cs w.heap.size)) : Sat w' (B :: L) := by
  obtain ⟨a, l, xa, xl, d, pa, pl⟩ := H
  have hk := hA a xa pa
  have key : ∀ k o, l k = some o → k ∉ cs ∧ k < w.heap.size := fun k o e => by
    refine ⟨fun hm => ?_, ?_⟩
    · rcases d k with h | h
      · exact hk k hm h
      · rw [h] at e; cases e
    · have := xl k o e
      exact (Array.getElem?_eq_some_iff.1 this).1
  refine ⟨partH w' cs w.heap.size, l, fun k o e => ?_, fun k o e => ?_, fun k => ?_, hB, by rw [env_fz F]; exact pl⟩
  · unfold partH at e; split at e
    · exact e
    · cases e
  · obtain ⟨h1, h2⟩ := key k o e
    show w'.heap[k]? = _
    rw [F.block k h2 h1]
    exact xl k o e
  · cases e : l k with
    | none => exact .inr rfl
    | some o =>
      obtain ⟨h1, h2⟩ := key k o e
      exact .inl (by unfold partH; rw [if_neg (fun hc => hc.elim h1 (fun h => absurd h (by omega)))])
theorem Sat.fz0 (H : Sat w L) (F : Fz w w' []) : Sat w' L := (H.emp.put (B := hemp) [] (by simp) F trivial).tl
theorem Sat.new (H : Sat w L) (F : Fz w w' []) (hB : B (envW w') (partH w' [] w.heap.size)) : Sat w' (B :: L) := H.emp.put [] (by simp) F hB
theorem Sat.below (H : Sat w L) {n : Nat} (hB : Below n w w') (hn : w.heap.size ≤ n) : Sat w' L := H.fz0 (Fz.below hB hn)
theorem Sat.drewN (H : Sat w L) (n : Nat) : Sat (w.drewN n) L := H
end
def blkA (b : Nat) (arr : Array Value) (ty : TypeId) : HA := fun _ h => h b = some (.cells arr ty (0, 0))
def ptA (b : Nat) (o : Obj) : HA := fun _ h => h b = some o
section
variable {w w' : World} {A B : HA} {L L' : List HA} {b : Nat} {arr : Array Value} {ty : TypeId}
theorem Sat.pt {o : Obj} (H : Sat w (ptA b o :: L)) : w.heap[b]? = some o := let ⟨_, x, p⟩ := H.hd; x b o p
theorem Sat.bk (H : Sat w (blkA b arr ty :: L)) : Bk w b arr ty := ⟨let ⟨_, x, p⟩ := H.hd; x b _ p⟩
theorem Sat.bkAt (H : Sat w L) (k : Nat) (h : nth k L = some (blkA b arr ty)) : Bk w b arr ty := (H.to k h).bk
theorem Sat.set (H : Sat w (blkA b arr ty :: L)) (i : Nat) (v : Value) : Sat (w.setCell ⟨b, i, none⟩ v) (blkA b (arr.setIfInBounds i v) ty :: L) :=
  H.put [b] (fun h _ p k hk => by simp at hk; subst hk; rw [show h _ = _ from p]; simp) (Fz.set w b i v) (by
    show partH _ _ _ b = _
    unfold partH
    rw [if_pos (by simp)]
    exact (H.bk.set i v).eq)
theorem Sat.setAt (H : Sat w L) (k : Nat) (h : nth k L = some (blkA b arr ty)) (i : Nat) (v : Value) : Sat (w.setCell ⟨b, i, none⟩ v) (lset k (blkA b (arr.setIfInBounds i v) ty) L) :=
  ((H.to k h).set i v).perm (perm_lset k L _ _ h)
theorem Sat.allocO (H : Sat w L) (o : Obj) : Sat (w.alloc o) (Go.Proofs.YtjpokeakemlffaaGreatDoor.ptA w.heap.size o :: L) :=
  H.new (Fz.alloc w _) (by show partH _ _ _ _ = _; unfold partH; rw [if_pos (by simp)]; exact heap_alloc_new _ _)
theorem Sat.alloc (H : Sat w L) (arr : Array Value) (ty : TypeId) : Sat (w.alloc (.cells arr ty)) (blkA w.heap.size arr ty :: L) := H.allocO _
theorem Sat.ptTo {o o' : Obj} (H : Sat w (Go.Proofs.YtjpokeakemlffaaGreatDoor.ptA b o :: L)) (F : Fz w w' [b]) (h' : w'.heap[b]? = some o') : Sat w' (Go.Proofs.YtjpokeakemlffaaGreatDoor.ptA b o' :: L) :=
  H.put [b] (fun h _ p k hk => by simp at hk; subst hk; rw [show h _ = _ from p]; simp) F (by show partH _ _ _ b = _; unfold partH; rw [if_pos (by simp)]; exact h')
theorem Sat.allocG (H : Sat w L) (arr : Array Value) (ty : TypeId) {g : Nat} (hg : w.heap.size = g) : Sat (w.alloc (.cells arr ty)) (blkA g arr ty :: L) := by
  subst hg; exact H.alloc arr ty
theorem Sat.blkTo (H : Sat w (blkA b arr ty :: L)) {arr' : Array Value} (F : Fz w w' [b]) (h' : Bk w' b arr' ty) : Sat w' (blkA b arr' ty :: L) :=
  H.put [b] (fun h _ p k hk => by simp at hk; subst hk; rw [show h _ = _ from p]; simp) F (by show partH _ _ _ b = _; unfold partH; rw [if_pos (by simp)]; exact h'.eq)
theorem Sat.ne {b' : Nat} {arr' : Array Value} {ty' : TypeId} (H : Sat w (blkA b arr ty :: blkA b' arr' ty' :: L)) : b ≠ b' := by
  rintro rfl
  obtain ⟨a, bl, xa, xbl, d, pa, b, l, xb, xl, d', pb, pl⟩ := H
  rcases d _ with e | e
  · rw [show a _ = _ from pa] at e; cases e
  · rw [xb _ _ pb] at e; cases e
end
def rowA (ty : TypeId) (k : Nat) (v : Value) (n : Nat) (xs : List Value) : HA := fun _ h => xs.length = n * k ∧ ((v = .slice none 0 0 ∧ n = 0) ∨
  ∃ g cap cur, v = .slice (some ⟨g, 0, none⟩) n cap ∧ h g = some (.cells cur ty (0, 0)) ∧ n ≤ cap ∧ cap ≤ maxLen ∧ cur.size = cap * k ∧ cur.toList.take (n * k) = xs)
def rdA {α : Type} (sz : Nat) (enc : α → List Value) (v : Value) (l : List α) : HA := fun _ h => ∃ A c, v = .slice A l.length c ∧ l.length ≤ c ∧ c ≤ maxLen ∧ (A = none → c = 0) ∧
  (l ≠ [] → ∃ b off cur ty fr, A = some ⟨b, off, none⟩ ∧ h b = some (.cells cur ty fr) ∧ ∀ i x, l[i]? = some x → ∀ j u, (enc x)[j]? = some u → cur[off + i * sz + j]? = some u)
section
variable {w w' : World} {A B : HA} {L L' : List HA} {ty : TypeId} {k n : Nat} {v : Value} {xs : List Value}
theorem Sat.own (H : Sat w (rowA ty k v n xs :: L)) : w.ownsRow 0 ty k v n xs := by
  obtain ⟨h, x, h1, h2⟩ := H.hd
  refine ⟨h1, ?_⟩
  rcases h2 with h2 | ⟨g, cap, cur, hv, hg, r⟩
  · exact .inl h2
  · exact .inr ⟨g, cap, cur, hv, Nat.zero_le _, x g _ hg, r⟩
theorem Sat.sl (H : Sat w (rowA ty k v n xs :: L)) : ∃ A c, v = .slice A n c ∧ n ≤ c := own_slice H.own
theorem row_of {base : Nat} {e : EnvW} {h : Hp} (o : w.ownsRow base ty k v n xs) (hh : ∀ g, v.ownBlock = some g → h g = w.heap[g]?) : rowA ty k v n xs e h := by
  refine ⟨o.1, ?_⟩
  rcases o.2 with h2 | ⟨g, cap, cur, hv, hb, hg, r⟩
  · exact .inl h2
  · exact .inr ⟨g, cap, cur, hv, (hh g (by rw [hv]; rfl)).trans hg, r⟩
theorem row_own {e : EnvW} {h : Hp} (p : rowA ty k v n xs e h) : ∀ g ∈ v.ownBlock.toList, h g ≠ none := by
  intro g hg
  rcases p.2 with ⟨rfl, _⟩ | ⟨g', cap, cur, rfl, h1, _⟩
  · simp [Value.ownBlock] at hg
  · simp [Value.ownBlock] at hg; subst hg; rw [h1]; simp
theorem Sat.grow (H : Sat w (rowA ty k v n xs :: L)) {v' : Value} {n' : Nat} {xs' : List Value} {base : Nat} (o : w'.ownsRow base ty k v' n' xs') (g : w.grownBy w' v.ownBlock) (hb : v'.ownBlock = v.ownBlock ∨ v'.ownBlock = some w.heap.size) : Sat w' (rowA ty k v' n' xs' :: L) :=
  H.put v.ownBlock.toList (fun h _ p => row_own p) (Fz.grown g) (row_of o fun b e => by
    unfold partH
    rw [if_pos]
    rcases hb with hb | hb
    · rw [hb] at e; rw [e]; simp
    · rw [hb] at e; cases e; simp)
theorem Sat.nil (H : Sat w L) (ty : TypeId) (k : Nat) : Sat w (rowA ty k (.slice none 0 0) 0 [] :: L) := H.emp.mono fun _ _ _ => ⟨by simp, .inl ⟨rfl, rfl⟩⟩
variable {α : Type} {sz : Nat} {enc : α → List Value} {l : List α}
theorem Sat.rc {g off c : Nat} (H : Sat w (rowA ty sz (.slice (some ⟨g, off, none⟩) n c) n (l.flatMap enc) :: L)) (henc : ∀ x, (enc x).length = sz) (hsz : 0 < sz) {i : Nat} {x : α} (hx : l[i]? = some x) (k : Nat) {u : Value} (hu : (enc x)[k]? = some u) : w.cell? ⟨g, off + i * sz + k, none⟩ = some u := by
  obtain ⟨b, o, e, _, hc⟩ := Rd.of_own henc hsz H.own (by intro e; rw [e] at hx; simp at hx)
  injection e with e
  injection e with e1 e2 _
  subst e1 e2
  exact hc i x hx k u hu
theorem Sat.rd (H : Sat w (rdA sz enc v l :: L)) : ∃ A c, v = .slice A l.length c ∧ l.length ≤ c ∧ c ≤ maxLen ∧ (A = none → c = 0) ∧ Rd w w.heap.size sz enc A l := by
  obtain ⟨h, x, A, c, rfl, hc, hm, hn, hr⟩ := H.hd
  refine ⟨A, c, rfl, hc, hm, hn, fun hl => ?_⟩
  obtain ⟨b, off, cur, ty, fr, rfl, hb, hcs⟩ := hr hl
  have hb' := x b _ hb
  refine ⟨b, off, rfl, (Array.getElem?_eq_some_iff.1 hb').1, fun i y hy j u hu => ?_⟩
  rw [cell_of_row w b _ cur ty fr hb']
  exact hcs i y hy j u hu
end
def each {α : Type} (f : α → HA) : List α → HA
  | [] => hemp
  | x :: l => star (f x) (each f l)
section
variable {w w' : World} {A B : HA} {L L' : List HA} {α : Type} {f : α → HA}
theorem Sat.eachNil (H : Sat w L) : Sat w (each f [] :: L) := H.emp
theorem Sat.eachCons {x : α} {l : List α} (H : Sat w (each f (x :: l) :: L)) : Sat w (f x :: each f l :: L) := H.sep
theorem Sat.eachConsI {x : α} {l : List α} (H : Sat w (f x :: each f l :: L)) : Sat w (each f (x :: l) :: L) := H.sepI
theorem Sat.eachPerm {l l' : List α} (p : l.Perm l') : ∀ {L : List HA}, Sat w (each f l :: L) → Sat w (each f l' :: L) := by
  induction p with
  | nil => exact fun H => H
  | cons x _ ih => exact fun H => Sat.eachConsI ((ih (H.eachCons.back 1)).back 1)
  | swap x y l =>
    intro L H
    have H1 := H.eachCons
    have H2 : Sat w (each f (x :: l) :: f y :: L) := H1.back 1
    have H3 : Sat w (f x :: each f l :: f y :: L) := H2.eachCons
    have H4 : Sat w (f y :: f x :: each f l :: L) := H3.to 2 rfl
    have H5 : Sat w (each f l :: f y :: f x :: L) := H4.to 2 rfl
    have H6 : Sat w (f y :: each f l :: f x :: L) := H5.back 1
    exact Sat.eachConsI (H6.eachConsI.back 1)
  | trans _ _ ih1 ih2 => exact fun H => ih2 (ih1 H)
end
end Go.Proofs.YtjpokeakemlffaaGreatDoor
