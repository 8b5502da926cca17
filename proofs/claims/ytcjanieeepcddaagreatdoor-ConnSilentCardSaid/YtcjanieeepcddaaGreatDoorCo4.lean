/-
  A connection that opens: flush.
-/
import Derived.Test.YtcjanieeepcddaaGreatDoorCo3
namespace Go.Proofs.YtcjanieeepcddaaGreatDoor
open Go.RowKit

theorem infoSeg : (Tryz.prog.info? 39).map (fun i => (i.zero, i.size, i.bytes)) = some (some (.agg #[.int .i64 0, .int .i64 0, .int .i64 0, .int .i64 0, .int .u32 0, .int .u32 0, .bool false, .bool false, .bool false, .bool false, .int .i64 0, .slice none 0 0, .slice none 0 0]), 13, 104) := by kernel_rfl
/-- The segment that opens. -/
abbrev segS (p1 p2 s : Int) (go : Nat) : List Value := [.int .i64 0, .int .i64 1, .int .i64 p1, .int .i64 p2, .int .u32 s, .int .u32 0, .bool true, .bool false, .bool false, .bool false, .int .i64 32, .slice (some ⟨go, 0, none⟩) 1 1, .slice none 0 0]
theorem step_store_row {P : Program} {w : World} {ops : Array Oper} {o : Oper} {a : Act} {K : Act → World → Prop} {Q : Exit → Act → World → Prop} {E : Prop} (hw : Region.wanted o (yielded ops a.tmps) = true) (ty : TypeId) (x y : Operand) (ho : o.op = .store ty x y)
    (g : Nat) (cells : Array Value) (hx : a.eval x = .pointer (some ⟨g, 0, none⟩)) (hy : a.eval y = .agg cells)
    (t : TypeId) (old : Array Value) (hg : w.heap[g]? = some (.cells old t (0, 0))) (hi : (P.info? ty).map (·.size) = some cells.size)
    (hold : old.size = cells.size) (h1 : cells.all (·.oneCell') = true)
    (h : K (a.put o.dst undef) (w.setRow g cells)) : if Region.wanted o (yielded ops a.tmps) = true then Oper.wp P o a w K Q else E := by
  rw [if_pos hw]
  exact Go.wp_store_row ty x y ho g cells hx hy t old hg hi hold h1 h
abbrev zeroS : Array Value := #[.int .i64 0, .int .i64 0, .int .i64 0, .int .i64 0, .int .u32 0, .int .u32 0, .bool false, .bool false, .bool false, .bool false, .int .i64 0, .slice none 0 0, .slice none 0 0]
abbrev segZ (p1 p2 s : Int) : Array Value := #[.int .i64 0, .int .i64 1, .int .i64 p1, .int .i64 p2, .int .u32 s, .int .u32 0, .bool true, .bool false, .bool false, .bool false, .int .i64 32, .slice none 0 0, .slice none 0 0]
/-- The segments that wait to be sent: each opens, with an option of its own. -/
structure Outs (w : World) (lo : Nat) (p1 p2 k s : Int) (ov : Value) (gos : List Nat) : Prop where
  row : w.ownsRow lo 39 13 ov gos.length (gos.flatMap (segS p1 p2 s))
  opt : ∀ go ∈ gos, Bk w go (capO k) 54
theorem Outs.lt {w : World} {lo : Nat} {p1 p2 k s : Int} {ov : Value} {gos : List Nat} (h : Outs w lo p1 p2 k s ov gos) {kb : Nat} (e : ov.ownBlock = some kb) : lo ≤ kb ∧ kb < w.heap.size :=
  let ⟨h1, _, h2⟩ := own_ty h.row e; ⟨h1, h2.lt⟩
theorem Outs.ne {w : World} {lo b : Nat} {p1 p2 k s : Int} {ov : Value} {gos : List Nat} {arr : Array Value} {ty : TypeId} (h : Outs w lo p1 p2 k s ov gos) (hb : Bk w b arr ty) (ht : 39 ≠ ty) {kb : Nat} (e : ov.ownBlock = some kb) : kb ≠ b :=
  let ⟨_, _, h2⟩ := own_ty h.row e; h2.ne_ty hb ht
theorem Outs.nil (w : World) (lo : Nat) (p1 p2 k s : Int) : Outs w lo p1 p2 k s (.slice none 0 0) [] := ⟨World.ownsRow_nil _ _ _ _, fun _ h => by cases h⟩
theorem Outs.keep {w w' : World} {lo : Nat} {p1 p2 k s : Int} {ov : Value} {gos : List Nat} (h : Outs w lo p1 p2 k s ov gos) (hk : ∀ kb, (ov.ownBlock = some kb ∨ kb ∈ gos) → w'.heap[kb]? = w.heap[kb]?) : Outs w' lo p1 p2 k s ov gos :=
  ⟨own_blockW h.row (w' := w') (fun kb e => hk kb (.inl e)), fun go hg => ⟨(hk go (.inr hg)).trans (h.opt go hg).eq⟩⟩
theorem Outs.lt' {w : World} {lo : Nat} {p1 p2 k s : Int} {ov : Value} {gos : List Nat} (h : Outs w lo p1 p2 k s ov gos) {kb : Nat} (e : ov.ownBlock = some kb ∨ kb ∈ gos) : kb < w.heap.size :=
  e.elim (fun e => (h.lt e).2) (fun e => (h.opt kb e).lt)
theorem Outs.ne' {w : World} {lo b : Nat} {p1 p2 k s : Int} {ov : Value} {gos : List Nat} {arr : Array Value} {ty : TypeId} (h : Outs w lo p1 p2 k s ov gos) (hb : Bk w b arr ty) (ht : 39 ≠ ty) (ht2 : 54 ≠ ty) {kb : Nat} (e : ov.ownBlock = some kb ∨ kb ∈ gos) : kb ≠ b :=
  e.elim (fun e => h.ne hb ht e) (fun e => (h.opt kb e).ne_ty hb ht2)
theorem Outs.fw {w w' : World} {lo b m : Nat} {S S' : Nat → Value} {cs : List Nat} {p1 p2 k s : Int} {ov : Value} {gos : List Nat} (h : Outs w lo p1 p2 k s ov gos) (F : Fw w w' b m S S' cs) (hk : ∀ kb, (ov.ownBlock = some kb ∨ kb ∈ gos) → ¬ Owns b m S kb ∧ kb ∉ cs) : Outs w' lo p1 p2 k s ov gos :=
  h.keep fun kb e => F.block kb (h.lt' e) (hk kb e).1 (hk kb e).2
theorem Outs.one {w : World} {lo : Nat} {p1 p2 k s : Int} {ov : Value} {go : Nat} (h : Outs w lo p1 p2 k s ov [go]) : ∃ g cc, ov = .slice (some ⟨g, 0, none⟩) 1 cc ∧ lo ≤ g ∧ g < w.heap.size ∧ ∀ j u, (segS p1 p2 s go)[j]? = some u → w.cell? ⟨g, j, none⟩ = some u := by
  rcases h.row.2 with ⟨_, e⟩ | ⟨g, cap, cur, rfl, hb, hg, hnc, hcm, hcs, htake⟩
  · cases e
  · refine ⟨g, cap, rfl, hb, lt_of_block hg, fun j u hu => ?_⟩
    have hj : j < 13 := by have := (List.getElem?_eq_some_iff.1 hu).1; simpa using this
    rw [cell_of_row w g j cur _ (0, 0) hg, ← Array.getElem?_toList]
    rw [show segS p1 p2 s go = [go].flatMap (segS p1 p2 s) by simp, ← htake, List.getElem?_take_of_lt (by simp; omega)] at hu
    exact hu
/-- What flush leaves. -/
structure Flu (w w' : World) (lo c fl : Nat) (p1 p2 k s : Int) (sd rv pb lg wb : Nat) (farr : Array Value) (ov ov' : Value) (gos gos' : List Nat) : Prop where
  cn : Bk w' c (conD p1 p2 k sd rv pb lg wb ov') 68
  flw : Bk w' fl farr 105
  outs : Outs w' lo p1 p2 k s ov' gos'
  old : ∀ go ∈ gos', go ∈ gos ∨ w.heap.size ≤ go
  blk : ∀ kb, ov'.ownBlock = some kb → ov.ownBlock = some kb ∨ w.heap.size ≤ kb
  fz : Fz w w' (c :: fl :: ov.ownBlock.toList)
section
variable {w0 w : World} {lo c sd st rv mp st2 lg fl pb q wb g0 c0 : Nat} {ov : Value} {gos : List Nat} {p1 p2 k : Int} {times rcv tries at_ since : Int} {has twice : Bool}
set_option maxRecDepth 100000 in
set_option maxHeartbeats 6400000 in
theorem flush_syn (s : Int) (h : Bk w c (conD p1 p2 k sd rv pb lg wb ov) 68) (hl : Bk w lg (legC fl) 61) (hr : Bk w rv (rcvC mp st2) 132) (hf : Bk w fl (flC q times 1 rcv tries at_ has since twice (.slice (some ⟨g0, 0, none⟩) 1 c0)) 105)
    (hg : g0 < w.heap.size) (ho : ∀ j u, (synO s)[j]? = some u → w.cell? ⟨g0, j, none⟩ = some u) (nd : [c, rv, lg, fl].Nodup) (hgf : g0 ≠ fl) (hov : Outs w lo p1 p2 k s ov gos) (hlo : lo ≤ w.heap.size) (hgl : gos.length ≤ 1000) :
    Calls Tryz.prog 77 #[.pointer (some ⟨c, 0, none⟩), .pointer (some ⟨lg, 0, none⟩), .slice none 0 0] w fun e w' => e = .returned (.tuple #[]) ∧ ∃ ov' go, Flu w w' lo c fl p1 p2 k s sd rv pb lg wb (flC q times 1 rcv tries at_ has since twice (.slice none 0 0)) ov ov' gos (gos ++ [go]) := by
  have nd' := nd
  simp only [List.nodup_cons, List.mem_cons, List.not_mem_nil, or_false, not_or, not_false_eq_true, List.nodup_nil, and_true] at nd'
  obtain ⟨⟨n1, n2, n3⟩, ⟨n4, n5⟩, n6⟩ := nd'
  have HND : Keep ((c ≠ rv ∧ c ≠ lg ∧ c ≠ fl) ∧ (rv ≠ lg ∧ rv ≠ fl) ∧ lg ≠ fl ∧ g0 ≠ fl) := ⟨⟨n1, n2, n3⟩, ⟨n4, n5⟩, n6, hgf⟩
  have c0l : w.cell? ⟨lg, 0, none⟩ = some (.pointer (some ⟨fl, 0, none⟩)) := hl.c 0
  have FO := Keep.mk (fout_any hf (some ⟨g0, 0, none⟩) 1 c0 rfl)
  have HC := Keep.mk h
  have HL := Keep.mk hl
  have HR := Keep.mk hr
  have HG := Keep.mk hg
  have HO := Lib.hid ho
  have HOV : Keep (∀ kb, ov.ownBlock = some kb → lo ≤ kb ∧ kb < w.heap.size ∧ kb ≠ c ∧ kb ≠ fl) := ⟨fun kb e => ⟨(hov.lt e).1, (hov.lt e).2, hov.ne h (by decide) e, hov.ne hf (by decide) e⟩⟩
  have HOW := Keep.mk hov
  have HLO : Keep (lo ≤ w.heap.size ∧ gos.length ≤ 1000) := ⟨hlo, hgl⟩
  have HGT : Keep (∀ go ∈ gos, go ≠ c ∧ go ≠ fl ∧ go ∉ ov.ownBlock.toList) := ⟨fun go hgo => ⟨(hov.opt go hgo).ne_ty h (by decide), (hov.opt go hgo).ne_ty hf (by decide), fun e => hov.ne (hov.opt go hgo) (by decide) (by simpa using e) rfl⟩⟩
  clear h hl hr hf hg ho nd hgf hov hlo hgl n1 n2 n3 n4 n5 n6
  go_enter Tryz.func77, Tryz.ntmps77
  go_wp2_with (first
    | (go_at_call 99
       go_loud (refine FO.out.mono ?_; rintro e w1 ⟨rfl, f1, e1⟩)
       have C1 := Keep.mk (HC.out.fz e1 (by simp; exact HND.out.1.2.2))
       have L1 := Keep.mk (HL.out.fz e1 (by simp; exact HND.out.2.2.1))
       have R1 := Keep.mk (HR.out.fz e1 (by simp; exact HND.out.2.1.2))
       have G1 : Keep (∀ j u, (synO s)[j]? = some u → w1.cell? ⟨g0, j, none⟩ = some u) := ⟨fun j u hu => (World.cell?_of_block (e1.block g0 HG.out (by simp; exact HND.out.2.2.2))).trans (HO.out j u hu)⟩
       have F1 := Keep.mk f1
       have E1 := Keep.mk e1
       clear f1 e1)
    | fail)
  clear c0l
  go_loopw [17] (fun i wr => (i = .int .i64 0 ∧ wr = w1) ∨ (i = .int .i64 1 ∧ Keep (∃ ov' go, Flu w wr lo c fl p1 p2 k s sd rv pb lg wb (flC q times 1 rcv tries at_ has since twice (.slice none 0 0)) ov ov' gos (gos ++ [go])))) (fun i _ => 1 - (intOf i).toNat)
  case atStart => exact .inl ⟨rfl, rfl⟩
  case round =>
    rcases hrel with ⟨rfl, rfl⟩ | ⟨rfl, HP⟩
    · have o0 : wr.cell? ⟨g0, 0, none⟩ = some (.int .u32 s) := G1.out 0 _ rfl
      have o1 : wr.cell? ⟨g0, 1, none⟩ = some (.bool true) := G1.out 1 _ rfl
      have o2 : wr.cell? ⟨g0, 2, none⟩ = some (.bool false) := G1.out 2 _ rfl
      have o3 : wr.cell? ⟨g0, 3, none⟩ = some (.slice none 0 0) := G1.out 3 _ rfl
      have o4 : wr.cell? ⟨g0, 4, none⟩ = some (.int .i64 0) := G1.out 4 _ rfl
      have o5 : wr.cell? ⟨g0, 5, none⟩ = some (.bool false) := G1.out 5 _ rfl
      have o6 : wr.cell? ⟨g0, 6, none⟩ = some (.int .u32 0) := G1.out 6 _ rfl
      have o7 : wr.cell? ⟨g0, 7, none⟩ = some (.bool false) := G1.out 7 _ rfl
      have o8 : wr.cell? ⟨g0, 8, none⟩ = some (.bool false) := G1.out 8 _ rfl
      go_wp2_with fail
      obtain ⟨W, hW⟩ : ∃ W, wr.alloc (.cells #[.int .u32 s, .bool true, .bool false, .slice none 0 0, .int .i64 0, .bool false, .int .u32 0, .bool false, .bool false] 177) = W := ⟨_, rfl⟩
      have A0 : Fz wr W [] := hW ▸ Fz.alloc wr _
      have O2 : Keep (Bk W wr.heap.size (synO s).toArray 177) := ⟨hW ▸ Bk.new wr _ _⟩
      have C2 := Keep.mk (C1.out.fz A0 (by simp))
      have L2 := Keep.mk (L1.out.fz A0 (by simp))
      have R2 := Keep.mk (R1.out.fz A0 (by simp))
      have F2 := Keep.mk (F1.out.fz A0 (by simp))
      have E2 : Keep (Fz w W [fl]) := ⟨(E1.out.trans A0).mono (by simp)⟩
      have HS2 : Keep (wr.heap.size < W.heap.size) := ⟨O2.out.lt⟩
      rw [hW]
      clear hW A0 o0 o1 o2 o3 o4 o5 o6 o7 o8
      have AZ := (Fz.alloc W (.cells zeroS 39)).trans (Fz.drew _ 1)
      have O2b := Keep.mk (O2.out.fz AZ (by simp))
      have C2b := Keep.mk (C2.out.fz AZ (by simp))
      have L2b := Keep.mk (L2.out.fz AZ (by simp))
      have F2b := Keep.mk (F2.out.fz AZ (by simp))
      have Z2b := Keep.mk ((Bk.new W zeroS 39).fz (Fz.drew _ 1) (by simp))
      have E2b : Keep (Fz W (W.alloc (.cells zeroS 39)).drew []) := ⟨AZ.mono (by simp)⟩
      have WA := Keep.mk (win_any W.drew (R2.out.fz (Fz.drew _ 1) (by simp)))
      have WB := Keep.mk (win_any (W.alloc (.cells zeroS 39)).drew (R2.out.fz AZ (by simp)))
      have HON : Keep ((segZ p1 p2 s).all (fun x => x.oneCell') = true) := ⟨by simp [Value.oneCell']⟩
      clear AZ
      -- reg flush4
      refine wp_region_noPanic ?_
      refine wp_region_held_drew (S := fun X => X.cell? ⟨lg, 1, none⟩ = some (.int .i64 0) ∧ X.cell? ⟨lg, 2, none⟩ = some (.int .i64 1) ∧ X.cell? ⟨c, 5, none⟩ = some (.int .i64 p1) ∧ X.cell? ⟨c, 6, none⟩ = some (.int .i64 p2) ∧ X.cell? ⟨c, 10, none⟩ = some (.pointer (some ⟨rv, 0, none⟩)) ∧ X.cell? ⟨wr.heap.size, 0, none⟩ = some (.int .u32 s) ∧ X.cell? ⟨wr.heap.size, 1, none⟩ = some (.bool true) ∧ X.cell? ⟨wr.heap.size, 2, none⟩ = some (.bool false) ∧ X.cell? ⟨wr.heap.size, 3, none⟩ = some (.slice none 0 0) ∧ X.cell? ⟨wr.heap.size, 4, none⟩ = some (.int .i64 0) ∧ X.cell? ⟨wr.heap.size, 5, none⟩ = some (.bool false) ∧ X.cell? ⟨wr.heap.size, 6, none⟩ = some (.int .u32 0) ∧ X.cell? ⟨wr.heap.size, 7, none⟩ = some (.bool false) ∧ X.cell? ⟨wr.heap.size, 8, none⟩ = some (.bool false)) (by kernel_rfl) ⟨L2.out.c 1, L2.out.c 2, C2.out.c 5, C2.out.c 6, C2.out.c 10, O2.out.c 0, O2.out.c 1, O2.out.c 2, O2.out.c 3, O2.out.c 4, O2.out.c 5, O2.out.c 6, O2.out.c 7, O2.out.c 8⟩ (fun hHeld => ?_)
      refine wpAnyH_take (i := 0) (v := ?_) rfl (by kernel_rfl) (by kernel_rfl) (by kernel_rfl) (fun _ _ _ h => h) (Or.inl ⟨by rfl, ?_⟩) (by assumption) ?_
      rotate_left
      · intro w hSw; go_simp; (try with_reducible rfl)
      try simp only [Act.put, List.setIfInBounds_toArray, List.set_cons_zero, List.set_cons_succ, List.getElem_toArray, List.getElem_cons_zero, List.getElem_cons_succ]
      refine wpAnyH_take (i := 1) (v := ?_) rfl (by kernel_rfl) (by kernel_rfl) (by kernel_rfl) (fun _ _ _ h => h) (Or.inl ⟨by rfl, ?_⟩) (by assumption) ?_
      rotate_left
      · intro w hSw; go_simp; (try with_reducible rfl)
      try simp only [Act.put, List.setIfInBounds_toArray, List.set_cons_zero, List.set_cons_succ, List.getElem_toArray, List.getElem_cons_zero, List.getElem_cons_succ]
      refine wpAnyH_take (i := 2) (v := ?_) rfl (by kernel_rfl) (by kernel_rfl) (by kernel_rfl) (fun _ _ _ h => h) (Or.inl ⟨by rfl, ?_⟩) (by assumption) ?_
      rotate_left
      · intro w hSw; go_simp; (try with_reducible rfl)
      try simp only [Act.put, List.setIfInBounds_toArray, List.set_cons_zero, List.set_cons_succ, List.getElem_toArray, List.getElem_cons_zero, List.getElem_cons_succ]
      refine wpAnyH_take (i := 3) (v := ?_) rfl (by kernel_rfl) (by kernel_rfl) (by kernel_rfl) (fun _ _ _ h => h) (Or.inl ⟨by rfl, ?_⟩) (by assumption) ?_
      rotate_left
      · intro w hSw; go_simp; (try with_reducible rfl)
      try simp only [Act.put, List.setIfInBounds_toArray, List.set_cons_zero, List.set_cons_succ, List.getElem_toArray, List.getElem_cons_zero, List.getElem_cons_succ]
      refine wpAnyH_take (i := 4) (v := ?_) rfl (by kernel_rfl) (by kernel_rfl) (by kernel_rfl) (fun _ _ _ h => h) (Or.inl ⟨by rfl, ?_⟩) (by assumption) ?_
      rotate_left
      · intro w hSw; go_simp; (try with_reducible rfl)
      try simp only [Act.put, List.setIfInBounds_toArray, List.set_cons_zero, List.set_cons_succ, List.getElem_toArray, List.getElem_cons_zero, List.getElem_cons_succ]
      refine wpAnyH_take (i := 5) (v := ?_) rfl (by kernel_rfl) (by kernel_rfl) (by kernel_rfl) (fun _ _ _ h => h) (Or.inl ⟨by rfl, ?_⟩) (by assumption) ?_
      rotate_left
      · intro w hSw; go_simp; (try with_reducible rfl)
      try simp only [Act.put, List.setIfInBounds_toArray, List.set_cons_zero, List.set_cons_succ, List.getElem_toArray, List.getElem_cons_zero, List.getElem_cons_succ]
      refine wpAnyH_take (i := 6) (v := ?_) rfl (by kernel_rfl) (by kernel_rfl) (by kernel_rfl) (fun _ _ _ h => h) (Or.inl ⟨by rfl, ?_⟩) (by assumption) ?_
      rotate_left
      · intro w hSw; go_simp; (try with_reducible rfl)
      try simp only [Act.put, List.setIfInBounds_toArray, List.set_cons_zero, List.set_cons_succ, List.getElem_toArray, List.getElem_cons_zero, List.getElem_cons_succ]
      refine wpAnyH_take (i := 7) (v := ?_) rfl (by kernel_rfl) (by kernel_rfl) (by kernel_rfl) (fun _ _ _ h => h) (Or.inl ⟨by rfl, ?_⟩) (by assumption) ?_
      rotate_left
      · intro w hSw; go_simp; (try with_reducible rfl)
      try simp only [Act.put, List.setIfInBounds_toArray, List.set_cons_zero, List.set_cons_succ, List.getElem_toArray, List.getElem_cons_zero, List.getElem_cons_succ]
      refine wpAnyH_take (i := 8) (v := ?_) rfl (by kernel_rfl) (by kernel_rfl) (by kernel_rfl) (fun _ _ _ h => h) (Or.inl ⟨by rfl, ?_⟩) (by assumption) ?_
      rotate_left
      · intro w hSw; go_simp; (try with_reducible rfl)
      try simp only [Act.put, List.setIfInBounds_toArray, List.set_cons_zero, List.set_cons_succ, List.getElem_toArray, List.getElem_cons_zero, List.getElem_cons_succ]
      refine wpAnyH_take (i := 9) (v := ?_) rfl (by kernel_rfl) (by kernel_rfl) (by kernel_rfl) (fun _ _ _ h => h) (Or.inl ⟨by rfl, ?_⟩) (by assumption) ?_
      rotate_left
      · intro w hSw; go_simp; (try with_reducible rfl)
      try simp only [Act.put, List.setIfInBounds_toArray, List.set_cons_zero, List.set_cons_succ, List.getElem_toArray, List.getElem_cons_zero, List.getElem_cons_succ]
      refine wpAnyH_take (i := 10) (v := ?_) rfl (by kernel_rfl) (by kernel_rfl) (by kernel_rfl) (fun _ _ _ h => h) (Or.inl ⟨by rfl, ?_⟩) (by assumption) ?_
      rotate_left
      · intro w hSw; go_simp; (try with_reducible rfl)
      try simp only [Act.put, List.setIfInBounds_toArray, List.set_cons_zero, List.set_cons_succ, List.getElem_toArray, List.getElem_cons_zero, List.getElem_cons_succ]
      refine wpAnyH_take (i := 11) (v := ?_) rfl (by kernel_rfl) (by kernel_rfl) (by kernel_rfl) (fun _ _ _ h => h) (Or.inl ⟨by rfl, ?_⟩) (by assumption) ?_
      rotate_left
      · intro w hSw; go_simp; (try with_reducible rfl)
      try simp only [Act.put, List.setIfInBounds_toArray, List.set_cons_zero, List.set_cons_succ, List.getElem_toArray, List.getElem_cons_zero, List.getElem_cons_succ]
      refine wpAnyH_take (i := 12) (v := ?_) rfl (by kernel_rfl) (by kernel_rfl) (by kernel_rfl) (fun _ _ _ h => h) (Or.inl ⟨by rfl, ?_⟩) (by assumption) ?_
      rotate_left
      · intro w hSw; go_simp; (try with_reducible rfl)
      try simp only [Act.put, List.setIfInBounds_toArray, List.set_cons_zero, List.set_cons_succ, List.getElem_toArray, List.getElem_cons_zero, List.getElem_cons_succ]
      refine wpAnyH_take (i := 13) (v := ?_) rfl (by kernel_rfl) (by kernel_rfl) (by kernel_rfl) (fun _ _ _ h => h) (Or.inl ⟨by rfl, ?_⟩) (by assumption) ?_
      rotate_left
      · intro w hSw; go_simp; (try with_reducible rfl)
      try simp only [Act.put, List.setIfInBounds_toArray, List.set_cons_zero, List.set_cons_succ, List.getElem_toArray, List.getElem_cons_zero, List.getElem_cons_succ]
      refine wpAnyH_take (i := 14) (v := ?_) rfl (by kernel_rfl) (by kernel_rfl) (by kernel_rfl) (fun _ _ _ h => h) (Or.inl ⟨by rfl, ?_⟩) (by assumption) ?_
      rotate_left
      · intro w hSw; go_simp; (try with_reducible rfl)
      try simp only [Act.put, List.setIfInBounds_toArray, List.set_cons_zero, List.set_cons_succ, List.getElem_toArray, List.getElem_cons_zero, List.getElem_cons_succ]
      refine wpAnyH_take (i := 15) (v := ?_) rfl (by kernel_rfl) (by kernel_rfl) (by kernel_rfl) (fun _ _ _ h => h) (Or.inl ⟨by rfl, ?_⟩) (by assumption) ?_
      rotate_left
      · intro w hSw; go_simp; (try with_reducible rfl)
      try simp only [Act.put, List.setIfInBounds_toArray, List.set_cons_zero, List.set_cons_succ, List.getElem_toArray, List.getElem_cons_zero, List.getElem_cons_succ]
      refine wpAnyH_take (i := 16) (v := ?_) rfl (by kernel_rfl) (by kernel_rfl) (by kernel_rfl) (fun _ _ _ h => h) (Or.inl ⟨by rfl, ?_⟩) (by assumption) ?_
      rotate_left
      · intro w hSw; go_simp; (try with_reducible rfl)
      try simp only [Act.put, List.setIfInBounds_toArray, List.set_cons_zero, List.set_cons_succ, List.getElem_toArray, List.getElem_cons_zero, List.getElem_cons_succ]
      refine wpAnyH_take (i := 17) (v := ?_) rfl (by kernel_rfl) (by kernel_rfl) (by kernel_rfl) (fun _ _ _ h => h) (Or.inl ⟨by rfl, ?_⟩) (by assumption) ?_
      rotate_left
      · intro w hSw; go_simp; (try with_reducible rfl)
      try simp only [Act.put, List.setIfInBounds_toArray, List.set_cons_zero, List.set_cons_succ, List.getElem_toArray, List.getElem_cons_zero, List.getElem_cons_succ]
      refine wpAnyH_take (i := 18) (v := ?_) rfl (by kernel_rfl) (by kernel_rfl) (by kernel_rfl) (fun _ _ _ h => h) (Or.inl ⟨by rfl, ?_⟩) (by assumption) ?_
      rotate_left
      · intro w hSw; go_simp; (try with_reducible rfl)
      try simp only [Act.put, List.setIfInBounds_toArray, List.set_cons_zero, List.set_cons_succ, List.getElem_toArray, List.getElem_cons_zero, List.getElem_cons_succ]
      refine wpAnyH_take (i := 19) (v := ?_) rfl (by kernel_rfl) (by kernel_rfl) (by kernel_rfl) (fun _ _ _ h => h) (Or.inl ⟨by rfl, ?_⟩) (by assumption) ?_
      rotate_left
      · intro w hSw; go_simp; (try with_reducible rfl)
      try simp only [Act.put, List.setIfInBounds_toArray, List.set_cons_zero, List.set_cons_succ, List.getElem_toArray, List.getElem_cons_zero, List.getElem_cons_succ]
      refine wpAnyH_take (i := 20) (v := ?_) rfl (by kernel_rfl) (by kernel_rfl) (by kernel_rfl) (fun _ _ _ h => h) (Or.inl ⟨by rfl, ?_⟩) (by assumption) ?_
      rotate_left
      · intro w hSw; go_simp; (try with_reducible rfl)
      try simp only [Act.put, List.setIfInBounds_toArray, List.set_cons_zero, List.set_cons_succ, List.getElem_toArray, List.getElem_cons_zero, List.getElem_cons_succ]
      refine wpAnyH_take (i := 21) (v := ?_) rfl (by kernel_rfl) (by kernel_rfl) (by kernel_rfl) (fun _ _ _ h => h) (Or.inl ⟨by rfl, ?_⟩) (by assumption) ?_
      rotate_left
      · intro w hSw; go_simp; (try with_reducible rfl)
      try simp only [Act.put, List.setIfInBounds_toArray, List.set_cons_zero, List.set_cons_succ, List.getElem_toArray, List.getElem_cons_zero, List.getElem_cons_succ]
      refine wpAnyH_take (i := 22) (v := ?_) rfl (by kernel_rfl) (by kernel_rfl) (by kernel_rfl) (fun _ _ _ h => h) (Or.inl ⟨by rfl, ?_⟩) (by assumption) ?_
      rotate_left
      · intro w hSw; go_simp; (try with_reducible rfl)
      try simp only [Act.put, List.setIfInBounds_toArray, List.set_cons_zero, List.set_cons_succ, List.getElem_toArray, List.getElem_cons_zero, List.getElem_cons_succ]
      refine wpAnyH_take (i := 23) (v := ?_) rfl (by kernel_rfl) (by kernel_rfl) (by kernel_rfl) (fun _ _ _ h => h) (Or.inl ⟨by rfl, ?_⟩) (by assumption) ?_
      rotate_left
      · intro w hSw; go_simp; (try with_reducible rfl)
      try simp only [Act.put, List.setIfInBounds_toArray, List.set_cons_zero, List.set_cons_succ, List.getElem_toArray, List.getElem_cons_zero, List.getElem_cons_succ]
      refine wpAnyH_take (i := 24) (v := ?_) rfl (by kernel_rfl) (by kernel_rfl) (by kernel_rfl) (fun _ _ _ h => h) (Or.inl ⟨by rfl, ?_⟩) (by assumption) ?_
      rotate_left
      · intro w hSw; go_simp; (try with_reducible rfl)
      try simp only [Act.put, List.setIfInBounds_toArray, List.set_cons_zero, List.set_cons_succ, List.getElem_toArray, List.getElem_cons_zero, List.getElem_cons_succ]
      refine wpAnyH_take (i := 25) (v := ?_) rfl (by kernel_rfl) (by kernel_rfl) (by kernel_rfl) (fun _ _ _ h => h) (Or.inl ⟨by rfl, ?_⟩) (by assumption) ?_
      rotate_left
      · intro w hSw; go_simp; (try with_reducible rfl)
      try simp only [Act.put, List.setIfInBounds_toArray, List.set_cons_zero, List.set_cons_succ, List.getElem_toArray, List.getElem_cons_zero, List.getElem_cons_succ]
      refine wpAnyH_take (i := 26) (v := ?_) rfl (by kernel_rfl) (by kernel_rfl) (by kernel_rfl) (fun _ _ _ h => h) (Or.inl ⟨by rfl, ?_⟩) (by assumption) ?_
      rotate_left
      · intro w hSw; go_simp; (try with_reducible rfl)
      try simp only [Act.put, List.setIfInBounds_toArray, List.set_cons_zero, List.set_cons_succ, List.getElem_toArray, List.getElem_cons_zero, List.getElem_cons_succ]
      refine wpAnyH_take (i := 27) (v := ?_) rfl (by kernel_rfl) (by kernel_rfl) (by kernel_rfl) (fun _ _ _ h => h) (Or.inl ⟨by rfl, ?_⟩) (by assumption) ?_
      rotate_left
      · intro w hSw; go_simp; (try with_reducible rfl)
      try simp only [Act.put, List.setIfInBounds_toArray, List.set_cons_zero, List.set_cons_succ, List.getElem_toArray, List.getElem_cons_zero, List.getElem_cons_succ]
      refine wpAnyH_take (i := 28) (v := ?_) rfl (by kernel_rfl) (by kernel_rfl) (by kernel_rfl) (fun _ _ _ h => h) (Or.inl ⟨by rfl, ?_⟩) (by assumption) ?_
      rotate_left
      · intro w hSw; go_simp; (try with_reducible rfl)
      try simp only [Act.put, List.setIfInBounds_toArray, List.set_cons_zero, List.set_cons_succ, List.getElem_toArray, List.getElem_cons_zero, List.getElem_cons_succ]
      refine wpAnyH_take (i := 29) (v := ?_) rfl (by kernel_rfl) (by kernel_rfl) (by kernel_rfl) (fun _ _ _ h => h) (Or.inl ⟨by rfl, ?_⟩) (by assumption) ?_
      rotate_left
      · intro w hSw; go_simp; (try with_reducible rfl)
      try simp only [Act.put, List.setIfInBounds_toArray, List.set_cons_zero, List.set_cons_succ, List.getElem_toArray, List.getElem_cons_zero, List.getElem_cons_succ]
      refine wpAnyH_take (i := 30) (v := ?_) rfl (by kernel_rfl) (by kernel_rfl) (by kernel_rfl) (fun _ _ _ h => h) (Or.inl ⟨by rfl, ?_⟩) (by assumption) ?_
      rotate_left
      · intro w hSw; go_simp; (try with_reducible rfl)
      try simp only [Act.put, List.setIfInBounds_toArray, List.set_cons_zero, List.set_cons_succ, List.getElem_toArray, List.getElem_cons_zero, List.getElem_cons_succ]
      refine wpAnyH_take (i := 31) (v := ?_) rfl (by kernel_rfl) (by kernel_rfl) (by kernel_rfl) (fun _ _ _ h => h) (Or.inl ⟨by rfl, ?_⟩) (by assumption) ?_
      rotate_left
      · intro w hSw; go_simp; (try with_reducible rfl)
      try simp only [Act.put, List.setIfInBounds_toArray, List.set_cons_zero, List.set_cons_succ, List.getElem_toArray, List.getElem_cons_zero, List.getElem_cons_succ]
      refine wpAnyH_take (i := 32) (v := ?_) rfl (by kernel_rfl) (by kernel_rfl) (by kernel_rfl) (fun _ _ _ h => h) (Or.inl ⟨by rfl, ?_⟩) (by assumption) ?_
      rotate_left
      · intro w hSw; go_simp; (try with_reducible rfl)
      try simp only [Act.put, List.setIfInBounds_toArray, List.set_cons_zero, List.set_cons_succ, List.getElem_toArray, List.getElem_cons_zero, List.getElem_cons_succ]
      refine wpAnyH_take (i := 33) (v := ?_) rfl (by kernel_rfl) (by kernel_rfl) (by kernel_rfl) (fun _ _ _ h => h) (Or.inl ⟨by rfl, ?_⟩) (by assumption) ?_
      rotate_left
      · intro w hSw; go_simp; (try with_reducible rfl)
      try simp only [Act.put, List.setIfInBounds_toArray, List.set_cons_zero, List.set_cons_succ, List.getElem_toArray, List.getElem_cons_zero, List.getElem_cons_succ]
      refine wpAnyH_take (i := 34) (v := ?_) rfl (by kernel_rfl) (by kernel_rfl) (by kernel_rfl) (fun _ _ _ h => h) (Or.inl ⟨by rfl, ?_⟩) (by assumption) ?_
      rotate_left
      · intro w hSw; go_simp; (try with_reducible rfl)
      try simp only [Act.put, List.setIfInBounds_toArray, List.set_cons_zero, List.set_cons_succ, List.getElem_toArray, List.getElem_cons_zero, List.getElem_cons_succ]
      refine wpAnyH_take (i := 35) (v := ?_) rfl (by kernel_rfl) (by kernel_rfl) (by kernel_rfl) (fun _ _ _ h => h) (Or.inl ⟨by rfl, ?_⟩) (by assumption) ?_
      rotate_left
      · intro w hSw; go_simp; (try with_reducible rfl)
      try simp only [Act.put, List.setIfInBounds_toArray, List.set_cons_zero, List.set_cons_succ, List.getElem_toArray, List.getElem_cons_zero, List.getElem_cons_succ]
      refine wpAnyH_take (i := 36) (v := ?_) rfl (by kernel_rfl) (by kernel_rfl) (by kernel_rfl) (fun _ _ _ h => h) (Or.inl ⟨by rfl, ?_⟩) (by assumption) ?_
      rotate_left
      · intro w hSw; go_simp; (try with_reducible rfl)
      try simp only [Act.put, List.setIfInBounds_toArray, List.set_cons_zero, List.set_cons_succ, List.getElem_toArray, List.getElem_cons_zero, List.getElem_cons_succ]
      refine wpAnyH_take (i := 37) (v := ?_) rfl (by kernel_rfl) (by kernel_rfl) (by kernel_rfl) (fun _ _ _ h => h) (Or.inl ⟨by rfl, ?_⟩) (by assumption) ?_
      rotate_left
      · intro w hSw; go_simp; (try with_reducible rfl)
      try simp only [Act.put, List.setIfInBounds_toArray, List.set_cons_zero, List.set_cons_succ, List.getElem_toArray, List.getElem_cons_zero, List.getElem_cons_succ]
      refine wpAnyH_take (i := 38) (v := ?_) rfl (by kernel_rfl) (by kernel_rfl) (by kernel_rfl) (fun _ _ _ h => h) (Or.inl ⟨by rfl, ?_⟩) (by assumption) ?_
      rotate_left
      · intro w hSw; go_simp; (try with_reducible rfl)
      try simp only [Act.put, List.setIfInBounds_toArray, List.set_cons_zero, List.set_cons_succ, List.getElem_toArray, List.getElem_cons_zero, List.getElem_cons_succ]
      refine wpAnyH_take (i := 39) (v := ?_) rfl (by kernel_rfl) (by kernel_rfl) (by kernel_rfl) (fun _ _ _ h => h) (Or.inl ⟨by rfl, ?_⟩) (by assumption) ?_
      rotate_left
      · intro w hSw; go_simp; (try with_reducible rfl)
      try simp only [Act.put, List.setIfInBounds_toArray, List.set_cons_zero, List.set_cons_succ, List.getElem_toArray, List.getElem_cons_zero, List.getElem_cons_succ]
      refine wpAnyH_ready (rs := [40, 42]) (by kernel_rfl) (by simp) ?_
      refine AllReadyH.cons rfl (fun K hK => ?_) (AllReadyH.cons rfl (fun K hK => ?_) AllReadyH.nil)
      · go_simp
        refine WA.out.mono ?_
        rintro e w5 ⟨rfl, n5, hw5⟩
        have B5 : Fz (W.drew) w5 [] := hw5 ▸ (Fz.drew _ n5)
        have B5 := ((Fz.drew W 1).trans B5)
        have O5 := Keep.mk (O2.out.fz B5 (by simp))
        have C5 := Keep.mk (C2.out.fz B5 (by simp))
        have L5 := Keep.mk (L2.out.fz B5 (by simp))
        have F5 := Keep.mk (F2.out.fz B5 (by simp))
        have G5 : Keep (Fz W w5 []) := ⟨B5.mono (by simp)⟩
        clear hw5 B5
        refine hK.out _ _ ?_ (fun hHeld => ?_)
        · exact ⟨L5.out.c 1, L5.out.c 2, C5.out.c 5, C5.out.c 6, C5.out.c 10, O5.out.c 0, O5.out.c 1, O5.out.c 2, O5.out.c 3, O5.out.c 4, O5.out.c 5, O5.out.c 6, O5.out.c 7, O5.out.c 8⟩
        clear hK K
        try simp only [Act.put, List.setIfInBounds_toArray, List.set_cons_zero, List.set_cons_succ, List.getElem_toArray, List.getElem_cons_zero, List.getElem_cons_succ]
        refine wpAnyH_take (i := 41) (v := ?_) rfl (by kernel_rfl) (by kernel_rfl) (by kernel_rfl) (fun _ _ _ h => h) (Or.inl ⟨by rfl, ?_⟩) (by assumption) ?_
        rotate_left
        · intro w hSw; go_simp; (try with_reducible rfl)
        try simp only [Act.put, List.setIfInBounds_toArray, List.set_cons_zero, List.set_cons_succ, List.getElem_toArray, List.getElem_cons_zero, List.getElem_cons_succ]
        refine wpAnyH_ready (rs := [42]) (by kernel_rfl) (by simp) ?_
        refine AllReadyH.cons rfl (fun K hK => ?_) AllReadyH.nil
        go_simp
        refine hK.out _ _ ?_ (fun hHeld => ?_)
        · exact ⟨(L5.out.fz (Fz.alloc w5 (.cells zeroS 39)) (by simp)).c 1, (L5.out.fz (Fz.alloc w5 (.cells zeroS 39)) (by simp)).c 2, (C5.out.fz (Fz.alloc w5 (.cells zeroS 39)) (by simp)).c 5, (C5.out.fz (Fz.alloc w5 (.cells zeroS 39)) (by simp)).c 6, (C5.out.fz (Fz.alloc w5 (.cells zeroS 39)) (by simp)).c 10, (O5.out.fz (Fz.alloc w5 (.cells zeroS 39)) (by simp)).c 0, (O5.out.fz (Fz.alloc w5 (.cells zeroS 39)) (by simp)).c 1, (O5.out.fz (Fz.alloc w5 (.cells zeroS 39)) (by simp)).c 2, (O5.out.fz (Fz.alloc w5 (.cells zeroS 39)) (by simp)).c 3, (O5.out.fz (Fz.alloc w5 (.cells zeroS 39)) (by simp)).c 4, (O5.out.fz (Fz.alloc w5 (.cells zeroS 39)) (by simp)).c 5, (O5.out.fz (Fz.alloc w5 (.cells zeroS 39)) (by simp)).c 6, (O5.out.fz (Fz.alloc w5 (.cells zeroS 39)) (by simp)).c 7, (O5.out.fz (Fz.alloc w5 (.cells zeroS 39)) (by simp)).c 8⟩
        clear hK K
        try simp only [Act.put, List.setIfInBounds_toArray, List.set_cons_zero, List.set_cons_succ, List.getElem_toArray, List.getElem_cons_zero, List.getElem_cons_succ]
        refine wpAnyH_ready (rs := [43]) (by kernel_rfl) (by simp) ?_
        refine AllReadyH.cons rfl (fun K hK => ?_) AllReadyH.nil
        refine step_store_row rfl 39 (.tmp 9) (.tmp 63) rfl w5.heap.size (segZ p1 p2 s) rfl rfl 39 zeroS (heap_alloc_new _ _) (by kernel_rfl) rfl HON.out ?_
        rw [World.setRow_alloc_new]
        obtain ⟨w6, hw6⟩ : ∃ w6, w5.alloc (.cells (segZ p1 p2 s) 39) = w6 := ⟨_, rfl⟩
        have Z6 : Bk w6 w5.heap.size (segZ p1 p2 s) 39 := hw6 ▸ Bk.new w5 _ _
        have Y6 : Fz w5 w6 [] := hw6 ▸ Fz.alloc w5 _
        have X6 : Fz W w6 [] := (G5.out.trans Y6).mono (by simp)
        have O6 := O5.out.fz Y6 (by simp)
        have C6 := C5.out.fz Y6 (by simp)
        have L6 := L5.out.fz Y6 (by simp)
        have F6 := F5.out.fz Y6 (by simp)
        obtain ⟨sb, hsb⟩ : ∃ sb, w5.heap.size = sb := ⟨_, rfl⟩
        have HSB : W.heap.size ≤ sb := by have := G5.out.size; omega
        rw [hsb] at Z6
        rw [hw6]
        refine hK.out _ _ ?_ (fun hHeld => ?_)
        · exact ⟨L6.c 1, L6.c 2, C6.c 5, C6.c 6, C6.c 10, O6.c 0, O6.c 1, O6.c 2, O6.c 3, O6.c 4, O6.c 5, O6.c 6, O6.c 7, O6.c 8⟩
        clear hK K hHeld
        try simp only [Act.put, List.setIfInBounds_toArray, List.set_cons_zero, List.set_cons_succ, List.getElem_toArray, List.getElem_cons_zero, List.getElem_cons_succ]
        refine wpAnyH_done (by kernel_rfl) ?_ _
        refine NoPanic.normal ?_
        try rw [hsb]
        have KZ6 := Keep.mk Z6
        have KX6 := Keep.mk X6
        have KF6 := Keep.mk F6
        have KC6 := Keep.mk C6
        have KS := Keep.mk HSB
        have pp0 : w6.cell? ⟨wr.heap.size, 0, none⟩ = some (.int .u32 s) := O6.c 0
        have pp1 : w6.cell? ⟨wr.heap.size, 1, none⟩ = some (.bool true) := O6.c 1
        have pp2 : w6.cell? ⟨wr.heap.size, 2, none⟩ = some (.bool false) := O6.c 2
        have pp3 : w6.cell? ⟨wr.heap.size, 3, none⟩ = some (.slice none 0 0) := O6.c 3
        have pp4 : w6.cell? ⟨wr.heap.size, 4, none⟩ = some (.int .i64 0) := O6.c 4
        have pp5 : w6.cell? ⟨wr.heap.size, 5, none⟩ = some (.bool false) := O6.c 5
        have pp6 : w6.cell? ⟨wr.heap.size, 6, none⟩ = some (.int .u32 0) := O6.c 6
        have pp7 : w6.cell? ⟨wr.heap.size, 7, none⟩ = some (.bool false) := O6.c 7
        have pp8 : w6.cell? ⟨wr.heap.size, 8, none⟩ = some (.bool false) := O6.c 8
        have WI := Keep.mk (with_syn s C6 L6)
        clear Z6 X6 F6 C6 L6 O6 HSB Y6 hw6 hsb
        go_wp2_with (first
          | (go_at_call 133
             go_loud (refine WI.out.mono ?_; rintro e w7 ⟨go, rfl, lo7, k7, hb7⟩)
             have B7 := Fz.below hb7 (Nat.le_refl _)
             have Z7 := KZ6.out.fz B7 (by simp)
             have c11 : w7.cell? ⟨sb, 11, none⟩ = some (.slice none 0 0) := Z7.c 11
             have f11 := Z7.free 11
             have KZ7 := Keep.mk Z7
             have KB7 := Keep.mk B7
             have K7 := Keep.mk k7
             have LO7 := Keep.mk lo7
             have d11 : (w7.setCell ⟨sb, 11, none⟩ (.slice (some ⟨go, 0, none⟩) 1 1)).cell? ⟨sb, 11, none⟩ = some (.slice (some ⟨go, 0, none⟩) 1 1) := (Z7.set 11 _).c 11
             have g11 := (Z7.set 11 (.slice (some ⟨go, 0, none⟩) 1 1)).free 11
             clear lo7 k7 hb7 B7 Z7)
          | fail)
        obtain ⟨w8, hw8⟩ : ∃ w8, (w7.setCell ⟨sb, 11, none⟩ (.slice (some ⟨go, 0, none⟩) 1 1)).setCell ⟨sb, 11, none⟩ (.slice (some ⟨go, 0, none⟩) 1 1) = w8 := ⟨_, rfl⟩
        have Y8 : Fz w7 w8 [sb] := hw8 ▸ ((Fz.set w7 sb 11 _).trans (Fz.set _ sb 11 _)).mono (by simp)
        have z8 := (KZ7.out.set 11 (.slice (some ⟨go, 0, none⟩) 1 1)).set 11 (.slice (some ⟨go, 0, none⟩) 1 1)
        rw [hw8] at z8
        have Z8 : Bk w8 sb (segS p1 p2 s go).toArray 39 := z8
        have HCS : c ≠ sb := by have := C2.out.lt; have := KS.out; omega
        have HFS : fl ≠ sb := by have := F2.out.lt; have := KS.out; omega
        have HGS : go ≠ sb := by have := LO7.out; have := KZ6.out.lt; omega
        have C8 := (KC6.out.fz KB7.out (by simp)).fz Y8 (by simp; exact HCS)
        have F8 := (KF6.out.fz KB7.out (by simp)).fz Y8 (by simp; exact HFS)
        have G8 := K7.out.fz Y8 (by simp; exact HGS)
        have X8 : Fz W w8 [] := ((KX6.out.trans KB7.out).trans Y8).mono (by simp; have := KS.out; omega)
        rw [hw8]
        have c29 : w8.drew.cell? ⟨c, 29, none⟩ = some ov := C8.c 29
        have AB := (Fz.alloc w8 (.cells (segS p1 p2 s go).toArray 39)).trans (Fz.drew _ 1)
        have C8b := C8.fz AB (by simp)
        have c29b : (w8.alloc (.cells #[.int .i64 0, .int .i64 1, .int .i64 p1, .int .i64 p2, .int .u32 s, .int .u32 0, .bool true, .bool false, .bool false, .bool false, .int .i64 32, .slice (some ⟨go, 0, none⟩) 1 1, .slice none 0 0] 39)).drew.cell? ⟨c, 29, none⟩ = some ov := C8b.c 29
        have KC8 := Keep.mk C8b
        have KF8 := Keep.mk (F8.fz AB (by simp))
        have KG8 := Keep.mk (G8.fz AB (by simp))
        have KZ8 := Keep.mk Z8
        have KZ8b := Keep.mk (Z8.fz AB (by simp))
        have KX8 : Keep (Fz W (w8.alloc (.cells (segS p1 p2 s go).toArray 39)).drew []) := ⟨(X8.trans AB).mono (by simp)⟩
        have KLG : Keep (W.heap.size ≤ go ∧ c ≠ sb ∧ w.heap.size ≤ W.heap.size ∧ W.heap.size ≤ sb) := ⟨by have := LO7.out; have := KX6.out.size; omega, HCS, E2.out.size, KS.out⟩
        have KRW : Keep ((w8.alloc (.cells (segS p1 p2 s go).toArray 39)).drew.ownsRow lo 39 13 ov gos.length (gos.flatMap (segS p1 p2 s))) := ⟨own_blockW HOW.out.row fun kb e => (KX8.out.block kb (by have := HOV.out kb e; have := E2.out.size; omega) (by simp)).trans (E2.out.block kb (HOV.out kb e).2.1 (by simp; exact (HOV.out kb e).2.2.2))⟩
        have KSZ : Keep (W.heap.size ≤ (w8.alloc (.cells (segS p1 p2 s go).toArray 39)).drew.heap.size) := ⟨KX8.out.size⟩
        clear Y8 z8 Z8 HCS HFS HGS C8 F8 G8 X8 AB C8b hw8 d11 g11 c11 f11
        refine wp_region_noPanic ?_
        refine wp_region_held_drew (S := fun X => X.cell? ⟨sb, 0, none⟩ = some (.int .i64 0) ∧ X.cell? ⟨sb, 1, none⟩ = some (.int .i64 1) ∧ X.cell? ⟨sb, 2, none⟩ = some (.int .i64 p1) ∧ X.cell? ⟨sb, 3, none⟩ = some (.int .i64 p2) ∧ X.cell? ⟨sb, 4, none⟩ = some (.int .u32 s) ∧ X.cell? ⟨sb, 5, none⟩ = some (.int .u32 0) ∧ X.cell? ⟨sb, 6, none⟩ = some (.bool true) ∧ X.cell? ⟨sb, 7, none⟩ = some (.bool false) ∧ X.cell? ⟨sb, 8, none⟩ = some (.bool false) ∧ X.cell? ⟨sb, 9, none⟩ = some (.bool false) ∧ X.cell? ⟨sb, 10, none⟩ = some (.int .i64 32) ∧ X.cell? ⟨sb, 11, none⟩ = some (.slice (some ⟨go, 0, none⟩) 1 1) ∧ X.cell? ⟨sb, 12, none⟩ = some (.slice none 0 0)) (by kernel_rfl) ⟨KZ8.out.c 0, KZ8.out.c 1, KZ8.out.c 2, KZ8.out.c 3, KZ8.out.c 4, KZ8.out.c 5, KZ8.out.c 6, KZ8.out.c 7, KZ8.out.c 8, KZ8.out.c 9, KZ8.out.c 10, KZ8.out.c 11, KZ8.out.c 12⟩ (fun hHeld => ?_)
        refine wpAnyH_take (i := 0) (v := ?_) rfl (by kernel_rfl) (by kernel_rfl) (by kernel_rfl) (fun _ _ _ h => h) (Or.inl ⟨by rfl, ?_⟩) (by assumption) ?_
        rotate_left
        · intro w hSw; go_simp; (try with_reducible rfl)
        try simp only [Act.put, List.setIfInBounds_toArray, List.set_cons_zero, List.set_cons_succ, List.getElem_toArray, List.getElem_cons_zero, List.getElem_cons_succ]
        refine wpAnyH_take (i := 1) (v := ?_) rfl (by kernel_rfl) (by kernel_rfl) (by kernel_rfl) (fun _ _ _ h => h) (Or.inl ⟨by rfl, ?_⟩) (by assumption) ?_
        rotate_left
        · intro w hSw; go_simp; (try with_reducible rfl)
        try simp only [Act.put, List.setIfInBounds_toArray, List.set_cons_zero, List.set_cons_succ, List.getElem_toArray, List.getElem_cons_zero, List.getElem_cons_succ]
        refine wpAnyH_take (i := 2) (v := ?_) rfl (by kernel_rfl) (by kernel_rfl) (by kernel_rfl) (fun _ _ _ h => h) (Or.inl ⟨by rfl, ?_⟩) (by assumption) ?_
        rotate_left
        · intro w hSw; go_simp; (try with_reducible rfl)
        try simp only [Act.put, List.setIfInBounds_toArray, List.set_cons_zero, List.set_cons_succ, List.getElem_toArray, List.getElem_cons_zero, List.getElem_cons_succ]
        refine wpAnyH_take (i := 3) (v := ?_) rfl (by kernel_rfl) (by kernel_rfl) (by kernel_rfl) (fun _ _ _ h => h) (Or.inl ⟨by rfl, ?_⟩) (by assumption) ?_
        rotate_left
        · intro w hSw; go_simp; (try with_reducible rfl)
        try simp only [Act.put, List.setIfInBounds_toArray, List.set_cons_zero, List.set_cons_succ, List.getElem_toArray, List.getElem_cons_zero, List.getElem_cons_succ]
        refine wpAnyH_take (i := 5) (v := ?_) rfl (by kernel_rfl) (by kernel_rfl) (by kernel_rfl) (fun _ _ _ h => h) (Or.inl ⟨by rfl, ?_⟩) (by assumption) ?_
        rotate_left
        · intro w hSw; go_simp; (try with_reducible rfl)
        try simp only [Act.put, List.setIfInBounds_toArray, List.set_cons_zero, List.set_cons_succ, List.getElem_toArray, List.getElem_cons_zero, List.getElem_cons_succ]
        refine wpAnyH_ready (rs := [4, 6]) (by kernel_rfl) (by simp) ?_
        refine AllReadyH.cons rfl (fun K hK => ?_) (AllReadyH.cons rfl (fun K hK => ?_) AllReadyH.nil)
        · go_simp
          refine hK.out _ _ ?_ (fun hHeld => ?_)
          · first | exact ⟨KZ8.out.c 0, KZ8.out.c 1, KZ8.out.c 2, KZ8.out.c 3, KZ8.out.c 4, KZ8.out.c 5, KZ8.out.c 6, KZ8.out.c 7, KZ8.out.c 8, KZ8.out.c 9, KZ8.out.c 10, KZ8.out.c 11, KZ8.out.c 12⟩ | exact ⟨KZ8b.out.c 0, KZ8b.out.c 1, KZ8b.out.c 2, KZ8b.out.c 3, KZ8b.out.c 4, KZ8b.out.c 5, KZ8b.out.c 6, KZ8b.out.c 7, KZ8b.out.c 8, KZ8b.out.c 9, KZ8b.out.c 10, KZ8b.out.c 11, KZ8b.out.c 12⟩ | exact ⟨Z9.out.c 0, Z9.out.c 1, Z9.out.c 2, Z9.out.c 3, Z9.out.c 4, Z9.out.c 5, Z9.out.c 6, Z9.out.c 7, Z9.out.c 8, Z9.out.c 9, Z9.out.c 10, Z9.out.c 11, Z9.out.c 12⟩ | exact ⟨(Z9.out.fz (Fz.set w9 c 29 v') (by simp; exact (Ne.symm KLG.out.2.1))).c 0, (Z9.out.fz (Fz.set w9 c 29 v') (by simp; exact (Ne.symm KLG.out.2.1))).c 1, (Z9.out.fz (Fz.set w9 c 29 v') (by simp; exact (Ne.symm KLG.out.2.1))).c 2, (Z9.out.fz (Fz.set w9 c 29 v') (by simp; exact (Ne.symm KLG.out.2.1))).c 3, (Z9.out.fz (Fz.set w9 c 29 v') (by simp; exact (Ne.symm KLG.out.2.1))).c 4, (Z9.out.fz (Fz.set w9 c 29 v') (by simp; exact (Ne.symm KLG.out.2.1))).c 5, (Z9.out.fz (Fz.set w9 c 29 v') (by simp; exact (Ne.symm KLG.out.2.1))).c 6, (Z9.out.fz (Fz.set w9 c 29 v') (by simp; exact (Ne.symm KLG.out.2.1))).c 7, (Z9.out.fz (Fz.set w9 c 29 v') (by simp; exact (Ne.symm KLG.out.2.1))).c 8, (Z9.out.fz (Fz.set w9 c 29 v') (by simp; exact (Ne.symm KLG.out.2.1))).c 9, (Z9.out.fz (Fz.set w9 c 29 v') (by simp; exact (Ne.symm KLG.out.2.1))).c 10, (Z9.out.fz (Fz.set w9 c 29 v') (by simp; exact (Ne.symm KLG.out.2.1))).c 11, (Z9.out.fz (Fz.set w9 c 29 v') (by simp; exact (Ne.symm KLG.out.2.1))).c 12⟩
          clear hK K
          try simp only [Act.put, List.setIfInBounds_toArray, List.set_cons_zero, List.set_cons_succ, List.getElem_toArray, List.getElem_cons_zero, List.getElem_cons_succ]
          refine wpAnyH_ready (rs := [6]) (by kernel_rfl) (by simp) ?_
          refine AllReadyH.cons rfl (fun K hK => ?_) AllReadyH.nil
          go_simp
          refine hK.out _ _ ?_ (fun hHeld => ?_)
          · first | exact ⟨KZ8.out.c 0, KZ8.out.c 1, KZ8.out.c 2, KZ8.out.c 3, KZ8.out.c 4, KZ8.out.c 5, KZ8.out.c 6, KZ8.out.c 7, KZ8.out.c 8, KZ8.out.c 9, KZ8.out.c 10, KZ8.out.c 11, KZ8.out.c 12⟩ | exact ⟨KZ8b.out.c 0, KZ8b.out.c 1, KZ8b.out.c 2, KZ8b.out.c 3, KZ8b.out.c 4, KZ8b.out.c 5, KZ8b.out.c 6, KZ8b.out.c 7, KZ8b.out.c 8, KZ8b.out.c 9, KZ8b.out.c 10, KZ8b.out.c 11, KZ8b.out.c 12⟩ | exact ⟨Z9.out.c 0, Z9.out.c 1, Z9.out.c 2, Z9.out.c 3, Z9.out.c 4, Z9.out.c 5, Z9.out.c 6, Z9.out.c 7, Z9.out.c 8, Z9.out.c 9, Z9.out.c 10, Z9.out.c 11, Z9.out.c 12⟩ | exact ⟨(Z9.out.fz (Fz.set w9 c 29 v') (by simp; exact (Ne.symm KLG.out.2.1))).c 0, (Z9.out.fz (Fz.set w9 c 29 v') (by simp; exact (Ne.symm KLG.out.2.1))).c 1, (Z9.out.fz (Fz.set w9 c 29 v') (by simp; exact (Ne.symm KLG.out.2.1))).c 2, (Z9.out.fz (Fz.set w9 c 29 v') (by simp; exact (Ne.symm KLG.out.2.1))).c 3, (Z9.out.fz (Fz.set w9 c 29 v') (by simp; exact (Ne.symm KLG.out.2.1))).c 4, (Z9.out.fz (Fz.set w9 c 29 v') (by simp; exact (Ne.symm KLG.out.2.1))).c 5, (Z9.out.fz (Fz.set w9 c 29 v') (by simp; exact (Ne.symm KLG.out.2.1))).c 6, (Z9.out.fz (Fz.set w9 c 29 v') (by simp; exact (Ne.symm KLG.out.2.1))).c 7, (Z9.out.fz (Fz.set w9 c 29 v') (by simp; exact (Ne.symm KLG.out.2.1))).c 8, (Z9.out.fz (Fz.set w9 c 29 v') (by simp; exact (Ne.symm KLG.out.2.1))).c 9, (Z9.out.fz (Fz.set w9 c 29 v') (by simp; exact (Ne.symm KLG.out.2.1))).c 10, (Z9.out.fz (Fz.set w9 c 29 v') (by simp; exact (Ne.symm KLG.out.2.1))).c 11, (Z9.out.fz (Fz.set w9 c 29 v') (by simp; exact (Ne.symm KLG.out.2.1))).c 12⟩
          clear hK K
          try simp only [Act.put, List.setIfInBounds_toArray, List.set_cons_zero, List.set_cons_succ, List.getElem_toArray, List.getElem_cons_zero, List.getElem_cons_succ]
          refine wpAnyH_ready (rs := [7]) (by kernel_rfl) (by simp) ?_
          refine AllReadyH.cons rfl (fun K hK => ?_) AllReadyH.nil
          refine step_more rfl (.tmp 83) (.tmp 85) 31 39 rfl Tryz.underlying31 infoSeg rfl (by omega) (by omega) ov rfl _ (segS p1 p2 s go) rfl rfl (fun j u hu => ?_) ?_ (by simp [Value.oneCell']) lo gos.length _ KRW.out (Nat.le_trans (Nat.le_trans HLO.out.1 KLG.out.2.2.1) KSZ.out) (by have := HLO.out.2; omega) ?_
          · exact ((Bk.new w8 (segS p1 p2 s go).toArray 39).c j).trans (Array.getElem?_toList.symm.trans hu)
          · show w8.heap.size < (w8.alloc (.cells (segS p1 p2 s go).toArray 39)).heap.size
            simp
          intro v' w9 ho9 hg9 hv9
          obtain ⟨A9, n9, k9, rfl⟩ : ∃ A n k, v' = Value.slice A n k := by
            rcases ho9.2 with ⟨h, _⟩ | ⟨g, cap, _, h, _⟩
            · exact ⟨_, _, _, h⟩
            · exact ⟨_, _, _, h⟩
          have B9 := Fz.grown hg9
          have NOV : ∀ x, w.heap.size ≤ x ∨ x = c ∨ x = fl → x ∉ ov.ownBlock.toList := fun x hx e => by
            have := HOV.out x (by simpa using e)
            rcases hx with h1 | h1 | h1
            · omega
            · exact this.2.2.1 h1
            · exact this.2.2.2 h1
          have C9 := Keep.mk (KC8.out.fz B9 (NOV _ (.inr (.inl rfl))))
          have F9 := Keep.mk (KF8.out.fz B9 (NOV _ (.inr (.inr rfl))))
          have G9 := Keep.mk (KG8.out.fz B9 (NOV _ (.inl (by have := KLG.out; omega))))
          have Z9 := Keep.mk (KZ8b.out.fz B9 (NOV _ (.inl (by have := KLG.out; omega))))
          have X9 : Keep (Fz W w9 ov.ownBlock.toList) := ⟨(KX8.out.trans B9).mono (by simp)⟩
          have HO9 := Keep.mk ho9
          have HV9 : Keep ((Value.slice A9 n9 k9).ownBlock = ov.ownBlock ∨ ∃ kb, (Value.slice A9 n9 k9).ownBlock = some kb ∧ W.heap.size ≤ kb) := ⟨hv9.imp id fun e => ⟨_, e, KSZ.out⟩⟩
          have d29 : w9.cell? ⟨c, 29, none⟩ = some ov := C9.out.c 29
          have e29 := C9.out.free 29
          clear ho9 hg9 hv9 B9 NOV
          refine hK.out _ _ ?_ (fun hHeld => ?_)
          · first | exact ⟨KZ8.out.c 0, KZ8.out.c 1, KZ8.out.c 2, KZ8.out.c 3, KZ8.out.c 4, KZ8.out.c 5, KZ8.out.c 6, KZ8.out.c 7, KZ8.out.c 8, KZ8.out.c 9, KZ8.out.c 10, KZ8.out.c 11, KZ8.out.c 12⟩ | exact ⟨KZ8b.out.c 0, KZ8b.out.c 1, KZ8b.out.c 2, KZ8b.out.c 3, KZ8b.out.c 4, KZ8b.out.c 5, KZ8b.out.c 6, KZ8b.out.c 7, KZ8b.out.c 8, KZ8b.out.c 9, KZ8b.out.c 10, KZ8b.out.c 11, KZ8b.out.c 12⟩ | exact ⟨Z9.out.c 0, Z9.out.c 1, Z9.out.c 2, Z9.out.c 3, Z9.out.c 4, Z9.out.c 5, Z9.out.c 6, Z9.out.c 7, Z9.out.c 8, Z9.out.c 9, Z9.out.c 10, Z9.out.c 11, Z9.out.c 12⟩ | exact ⟨(Z9.out.fz (Fz.set w9 c 29 (Value.slice A9 n9 k9)) (by simp; exact (Ne.symm KLG.out.2.1))).c 0, (Z9.out.fz (Fz.set w9 c 29 (Value.slice A9 n9 k9)) (by simp; exact (Ne.symm KLG.out.2.1))).c 1, (Z9.out.fz (Fz.set w9 c 29 (Value.slice A9 n9 k9)) (by simp; exact (Ne.symm KLG.out.2.1))).c 2, (Z9.out.fz (Fz.set w9 c 29 (Value.slice A9 n9 k9)) (by simp; exact (Ne.symm KLG.out.2.1))).c 3, (Z9.out.fz (Fz.set w9 c 29 (Value.slice A9 n9 k9)) (by simp; exact (Ne.symm KLG.out.2.1))).c 4, (Z9.out.fz (Fz.set w9 c 29 (Value.slice A9 n9 k9)) (by simp; exact (Ne.symm KLG.out.2.1))).c 5, (Z9.out.fz (Fz.set w9 c 29 (Value.slice A9 n9 k9)) (by simp; exact (Ne.symm KLG.out.2.1))).c 6, (Z9.out.fz (Fz.set w9 c 29 (Value.slice A9 n9 k9)) (by simp; exact (Ne.symm KLG.out.2.1))).c 7, (Z9.out.fz (Fz.set w9 c 29 (Value.slice A9 n9 k9)) (by simp; exact (Ne.symm KLG.out.2.1))).c 8, (Z9.out.fz (Fz.set w9 c 29 (Value.slice A9 n9 k9)) (by simp; exact (Ne.symm KLG.out.2.1))).c 9, (Z9.out.fz (Fz.set w9 c 29 (Value.slice A9 n9 k9)) (by simp; exact (Ne.symm KLG.out.2.1))).c 10, (Z9.out.fz (Fz.set w9 c 29 (Value.slice A9 n9 k9)) (by simp; exact (Ne.symm KLG.out.2.1))).c 11, (Z9.out.fz (Fz.set w9 c 29 (Value.slice A9 n9 k9)) (by simp; exact (Ne.symm KLG.out.2.1))).c 12⟩
          clear hK K
          try simp only [Act.put, List.setIfInBounds_toArray, List.set_cons_zero, List.set_cons_succ, List.getElem_toArray, List.getElem_cons_zero, List.getElem_cons_succ]
          refine wpAnyH_take (i := 8) (v := ?_) rfl (by kernel_rfl) (by kernel_rfl) (by kernel_rfl) (fun _ _ _ h => h) (Or.inl ⟨by rfl, ?_⟩) (by assumption) ?_
          rotate_left
          · intro w hSw; go_simp; (try with_reducible rfl)
          try simp only [Act.put, List.setIfInBounds_toArray, List.set_cons_zero, List.set_cons_succ, List.getElem_toArray, List.getElem_cons_zero, List.getElem_cons_succ]
          refine wpAnyH_take (i := 9) (v := ?_) rfl (by kernel_rfl) (by kernel_rfl) (by kernel_rfl) (fun _ _ _ h => h) (Or.inl ⟨by rfl, ?_⟩) (by assumption) ?_
          rotate_left
          · intro w hSw; go_simp; (try with_reducible rfl)
          try simp only [Act.put, List.setIfInBounds_toArray, List.set_cons_zero, List.set_cons_succ, List.getElem_toArray, List.getElem_cons_zero, List.getElem_cons_succ]
          refine wpAnyH_ready (rs := [10]) (by kernel_rfl) (by simp) ?_
          refine AllReadyH.cons rfl (fun K hK => ?_) AllReadyH.nil
          go_simp
          refine hK.out _ _ ?_ (fun hHeld => ?_)
          · first | exact ⟨KZ8.out.c 0, KZ8.out.c 1, KZ8.out.c 2, KZ8.out.c 3, KZ8.out.c 4, KZ8.out.c 5, KZ8.out.c 6, KZ8.out.c 7, KZ8.out.c 8, KZ8.out.c 9, KZ8.out.c 10, KZ8.out.c 11, KZ8.out.c 12⟩ | exact ⟨KZ8b.out.c 0, KZ8b.out.c 1, KZ8b.out.c 2, KZ8b.out.c 3, KZ8b.out.c 4, KZ8b.out.c 5, KZ8b.out.c 6, KZ8b.out.c 7, KZ8b.out.c 8, KZ8b.out.c 9, KZ8b.out.c 10, KZ8b.out.c 11, KZ8b.out.c 12⟩ | exact ⟨Z9.out.c 0, Z9.out.c 1, Z9.out.c 2, Z9.out.c 3, Z9.out.c 4, Z9.out.c 5, Z9.out.c 6, Z9.out.c 7, Z9.out.c 8, Z9.out.c 9, Z9.out.c 10, Z9.out.c 11, Z9.out.c 12⟩ | exact ⟨(Z9.out.fz (Fz.set w9 c 29 (Value.slice A9 n9 k9)) (by simp; exact (Ne.symm KLG.out.2.1))).c 0, (Z9.out.fz (Fz.set w9 c 29 (Value.slice A9 n9 k9)) (by simp; exact (Ne.symm KLG.out.2.1))).c 1, (Z9.out.fz (Fz.set w9 c 29 (Value.slice A9 n9 k9)) (by simp; exact (Ne.symm KLG.out.2.1))).c 2, (Z9.out.fz (Fz.set w9 c 29 (Value.slice A9 n9 k9)) (by simp; exact (Ne.symm KLG.out.2.1))).c 3, (Z9.out.fz (Fz.set w9 c 29 (Value.slice A9 n9 k9)) (by simp; exact (Ne.symm KLG.out.2.1))).c 4, (Z9.out.fz (Fz.set w9 c 29 (Value.slice A9 n9 k9)) (by simp; exact (Ne.symm KLG.out.2.1))).c 5, (Z9.out.fz (Fz.set w9 c 29 (Value.slice A9 n9 k9)) (by simp; exact (Ne.symm KLG.out.2.1))).c 6, (Z9.out.fz (Fz.set w9 c 29 (Value.slice A9 n9 k9)) (by simp; exact (Ne.symm KLG.out.2.1))).c 7, (Z9.out.fz (Fz.set w9 c 29 (Value.slice A9 n9 k9)) (by simp; exact (Ne.symm KLG.out.2.1))).c 8, (Z9.out.fz (Fz.set w9 c 29 (Value.slice A9 n9 k9)) (by simp; exact (Ne.symm KLG.out.2.1))).c 9, (Z9.out.fz (Fz.set w9 c 29 (Value.slice A9 n9 k9)) (by simp; exact (Ne.symm KLG.out.2.1))).c 10, (Z9.out.fz (Fz.set w9 c 29 (Value.slice A9 n9 k9)) (by simp; exact (Ne.symm KLG.out.2.1))).c 11, (Z9.out.fz (Fz.set w9 c 29 (Value.slice A9 n9 k9)) (by simp; exact (Ne.symm KLG.out.2.1))).c 12⟩
          clear hK K
          try simp only [Act.put, List.setIfInBounds_toArray, List.set_cons_zero, List.set_cons_succ, List.getElem_toArray, List.getElem_cons_zero, List.getElem_cons_succ]
          refine wpAnyH_done (by kernel_rfl) ?_ _
          refine NoPanic.normal ?_
          go_wp2_with fail
          go_roundw
          case rel =>
            refine .inr ⟨by go_num, ⟨(Value.slice A9 n9 k9), go, ?_⟩⟩
            have LC := C2.out.lt
            have LF := F2.out.lt
            have LW := HS2.out
            have LE := E2.out.size
            have T9 := Fz.set w9 c 29 (Value.slice A9 n9 k9)
            have FT : Fz w (w9.setCell ⟨c, 29, none⟩ (Value.slice A9 n9 k9)) (c :: fl :: ov.ownBlock.toList) := ((E2.out.trans X9.out).trans T9).mono (fun x _ hx => by
              simp only [List.mem_append, List.mem_cons, List.not_mem_nil, or_false] at hx
              rcases hx with (rfl | hx) | rfl
              · simp
              · simp only [List.mem_cons]; exact .inr (.inr hx)
              · simp)
            refine ⟨C9.out.set 29 _, F9.out.fz T9 (by simp; exact fun e => HND.out.1.2.2 e.symm), ⟨?_, fun x hx => ?_⟩, fun x hx => ?_, fun kb e => ?_, FT⟩
            · have hr := own_blockW HO9.out (w' := w9.setCell ⟨c, 29, none⟩ (Value.slice A9 n9 k9)) fun kb e => T9.block kb (let ⟨_, _, h2⟩ := own_ty HO9.out e; h2.lt) (by
                rcases HV9.out with h1 | ⟨kb', h1, h2⟩
                · simp; exact (HOV.out kb (h1 ▸ e)).2.2.1
                · rw [h1] at e; injection e with e; subst e; simp; omega)
              rw [List.length_append, List.flatMap_append]
              simpa using hr
            · rcases List.mem_append.1 hx with h1 | h1
              · exact (HOW.out.opt x h1).fz FT (by simp only [List.mem_cons, not_or]; exact HGT.out x h1)
              · obtain rfl : x = go := by simpa using h1
                exact G9.out.fz T9 (by simp; have := KLG.out.1; omega)
            · rcases List.mem_append.1 hx with h1 | h1
              · exact .inl h1
              · obtain rfl : x = go := by simpa using h1
                exact .inr (by have := KLG.out; omega)
            · rcases HV9.out with h1 | ⟨kb', h1, h2⟩
              · exact .inl (h1 ▸ e)
              · rw [h1] at e; injection e with e; subst e; exact .inr (by omega)
          case measure => simp [intOf]
        · go_simp
          refine hK.out _ _ ?_ (fun hHeld => ?_)
          · first | exact ⟨KZ8.out.c 0, KZ8.out.c 1, KZ8.out.c 2, KZ8.out.c 3, KZ8.out.c 4, KZ8.out.c 5, KZ8.out.c 6, KZ8.out.c 7, KZ8.out.c 8, KZ8.out.c 9, KZ8.out.c 10, KZ8.out.c 11, KZ8.out.c 12⟩ | exact ⟨KZ8b.out.c 0, KZ8b.out.c 1, KZ8b.out.c 2, KZ8b.out.c 3, KZ8b.out.c 4, KZ8b.out.c 5, KZ8b.out.c 6, KZ8b.out.c 7, KZ8b.out.c 8, KZ8b.out.c 9, KZ8b.out.c 10, KZ8b.out.c 11, KZ8b.out.c 12⟩ | exact ⟨Z9.out.c 0, Z9.out.c 1, Z9.out.c 2, Z9.out.c 3, Z9.out.c 4, Z9.out.c 5, Z9.out.c 6, Z9.out.c 7, Z9.out.c 8, Z9.out.c 9, Z9.out.c 10, Z9.out.c 11, Z9.out.c 12⟩ | exact ⟨(Z9.out.fz (Fz.set w9 c 29 (Value.slice A9 n9 k9)) (by simp; exact (Ne.symm KLG.out.2.1))).c 0, (Z9.out.fz (Fz.set w9 c 29 (Value.slice A9 n9 k9)) (by simp; exact (Ne.symm KLG.out.2.1))).c 1, (Z9.out.fz (Fz.set w9 c 29 (Value.slice A9 n9 k9)) (by simp; exact (Ne.symm KLG.out.2.1))).c 2, (Z9.out.fz (Fz.set w9 c 29 (Value.slice A9 n9 k9)) (by simp; exact (Ne.symm KLG.out.2.1))).c 3, (Z9.out.fz (Fz.set w9 c 29 (Value.slice A9 n9 k9)) (by simp; exact (Ne.symm KLG.out.2.1))).c 4, (Z9.out.fz (Fz.set w9 c 29 (Value.slice A9 n9 k9)) (by simp; exact (Ne.symm KLG.out.2.1))).c 5, (Z9.out.fz (Fz.set w9 c 29 (Value.slice A9 n9 k9)) (by simp; exact (Ne.symm KLG.out.2.1))).c 6, (Z9.out.fz (Fz.set w9 c 29 (Value.slice A9 n9 k9)) (by simp; exact (Ne.symm KLG.out.2.1))).c 7, (Z9.out.fz (Fz.set w9 c 29 (Value.slice A9 n9 k9)) (by simp; exact (Ne.symm KLG.out.2.1))).c 8, (Z9.out.fz (Fz.set w9 c 29 (Value.slice A9 n9 k9)) (by simp; exact (Ne.symm KLG.out.2.1))).c 9, (Z9.out.fz (Fz.set w9 c 29 (Value.slice A9 n9 k9)) (by simp; exact (Ne.symm KLG.out.2.1))).c 10, (Z9.out.fz (Fz.set w9 c 29 (Value.slice A9 n9 k9)) (by simp; exact (Ne.symm KLG.out.2.1))).c 11, (Z9.out.fz (Fz.set w9 c 29 (Value.slice A9 n9 k9)) (by simp; exact (Ne.symm KLG.out.2.1))).c 12⟩
          clear hK K
          try simp only [Act.put, List.setIfInBounds_toArray, List.set_cons_zero, List.set_cons_succ, List.getElem_toArray, List.getElem_cons_zero, List.getElem_cons_succ]
          refine wpAnyH_ready (rs := [4]) (by kernel_rfl) (by simp) ?_
          refine AllReadyH.cons rfl (fun K hK => ?_) AllReadyH.nil
          go_simp
          refine hK.out _ _ ?_ (fun hHeld => ?_)
          · first | exact ⟨KZ8.out.c 0, KZ8.out.c 1, KZ8.out.c 2, KZ8.out.c 3, KZ8.out.c 4, KZ8.out.c 5, KZ8.out.c 6, KZ8.out.c 7, KZ8.out.c 8, KZ8.out.c 9, KZ8.out.c 10, KZ8.out.c 11, KZ8.out.c 12⟩ | exact ⟨KZ8b.out.c 0, KZ8b.out.c 1, KZ8b.out.c 2, KZ8b.out.c 3, KZ8b.out.c 4, KZ8b.out.c 5, KZ8b.out.c 6, KZ8b.out.c 7, KZ8b.out.c 8, KZ8b.out.c 9, KZ8b.out.c 10, KZ8b.out.c 11, KZ8b.out.c 12⟩ | exact ⟨Z9.out.c 0, Z9.out.c 1, Z9.out.c 2, Z9.out.c 3, Z9.out.c 4, Z9.out.c 5, Z9.out.c 6, Z9.out.c 7, Z9.out.c 8, Z9.out.c 9, Z9.out.c 10, Z9.out.c 11, Z9.out.c 12⟩ | exact ⟨(Z9.out.fz (Fz.set w9 c 29 (Value.slice A9 n9 k9)) (by simp; exact (Ne.symm KLG.out.2.1))).c 0, (Z9.out.fz (Fz.set w9 c 29 (Value.slice A9 n9 k9)) (by simp; exact (Ne.symm KLG.out.2.1))).c 1, (Z9.out.fz (Fz.set w9 c 29 (Value.slice A9 n9 k9)) (by simp; exact (Ne.symm KLG.out.2.1))).c 2, (Z9.out.fz (Fz.set w9 c 29 (Value.slice A9 n9 k9)) (by simp; exact (Ne.symm KLG.out.2.1))).c 3, (Z9.out.fz (Fz.set w9 c 29 (Value.slice A9 n9 k9)) (by simp; exact (Ne.symm KLG.out.2.1))).c 4, (Z9.out.fz (Fz.set w9 c 29 (Value.slice A9 n9 k9)) (by simp; exact (Ne.symm KLG.out.2.1))).c 5, (Z9.out.fz (Fz.set w9 c 29 (Value.slice A9 n9 k9)) (by simp; exact (Ne.symm KLG.out.2.1))).c 6, (Z9.out.fz (Fz.set w9 c 29 (Value.slice A9 n9 k9)) (by simp; exact (Ne.symm KLG.out.2.1))).c 7, (Z9.out.fz (Fz.set w9 c 29 (Value.slice A9 n9 k9)) (by simp; exact (Ne.symm KLG.out.2.1))).c 8, (Z9.out.fz (Fz.set w9 c 29 (Value.slice A9 n9 k9)) (by simp; exact (Ne.symm KLG.out.2.1))).c 9, (Z9.out.fz (Fz.set w9 c 29 (Value.slice A9 n9 k9)) (by simp; exact (Ne.symm KLG.out.2.1))).c 10, (Z9.out.fz (Fz.set w9 c 29 (Value.slice A9 n9 k9)) (by simp; exact (Ne.symm KLG.out.2.1))).c 11, (Z9.out.fz (Fz.set w9 c 29 (Value.slice A9 n9 k9)) (by simp; exact (Ne.symm KLG.out.2.1))).c 12⟩
          clear hK K
          try simp only [Act.put, List.setIfInBounds_toArray, List.set_cons_zero, List.set_cons_succ, List.getElem_toArray, List.getElem_cons_zero, List.getElem_cons_succ]
          refine wpAnyH_ready (rs := [7]) (by kernel_rfl) (by simp) ?_
          refine AllReadyH.cons rfl (fun K hK => ?_) AllReadyH.nil
          refine step_more rfl (.tmp 83) (.tmp 85) 31 39 rfl Tryz.underlying31 infoSeg rfl (by omega) (by omega) ov rfl _ (segS p1 p2 s go) rfl rfl (fun j u hu => ?_) ?_ (by simp [Value.oneCell']) lo gos.length _ KRW.out (Nat.le_trans (Nat.le_trans HLO.out.1 KLG.out.2.2.1) KSZ.out) (by have := HLO.out.2; omega) ?_
          · exact ((Bk.new w8 (segS p1 p2 s go).toArray 39).c j).trans (Array.getElem?_toList.symm.trans hu)
          · show w8.heap.size < (w8.alloc (.cells (segS p1 p2 s go).toArray 39)).heap.size
            simp
          intro v' w9 ho9 hg9 hv9
          obtain ⟨A9, n9, k9, rfl⟩ : ∃ A n k, v' = Value.slice A n k := by
            rcases ho9.2 with ⟨h, _⟩ | ⟨g, cap, _, h, _⟩
            · exact ⟨_, _, _, h⟩
            · exact ⟨_, _, _, h⟩
          have B9 := Fz.grown hg9
          have NOV : ∀ x, w.heap.size ≤ x ∨ x = c ∨ x = fl → x ∉ ov.ownBlock.toList := fun x hx e => by
            have := HOV.out x (by simpa using e)
            rcases hx with h1 | h1 | h1
            · omega
            · exact this.2.2.1 h1
            · exact this.2.2.2 h1
          have C9 := Keep.mk (KC8.out.fz B9 (NOV _ (.inr (.inl rfl))))
          have F9 := Keep.mk (KF8.out.fz B9 (NOV _ (.inr (.inr rfl))))
          have G9 := Keep.mk (KG8.out.fz B9 (NOV _ (.inl (by have := KLG.out; omega))))
          have Z9 := Keep.mk (KZ8b.out.fz B9 (NOV _ (.inl (by have := KLG.out; omega))))
          have X9 : Keep (Fz W w9 ov.ownBlock.toList) := ⟨(KX8.out.trans B9).mono (by simp)⟩
          have HO9 := Keep.mk ho9
          have HV9 : Keep ((Value.slice A9 n9 k9).ownBlock = ov.ownBlock ∨ ∃ kb, (Value.slice A9 n9 k9).ownBlock = some kb ∧ W.heap.size ≤ kb) := ⟨hv9.imp id fun e => ⟨_, e, KSZ.out⟩⟩
          have d29 : w9.cell? ⟨c, 29, none⟩ = some ov := C9.out.c 29
          have e29 := C9.out.free 29
          clear ho9 hg9 hv9 B9 NOV
          refine hK.out _ _ ?_ (fun hHeld => ?_)
          · first | exact ⟨KZ8.out.c 0, KZ8.out.c 1, KZ8.out.c 2, KZ8.out.c 3, KZ8.out.c 4, KZ8.out.c 5, KZ8.out.c 6, KZ8.out.c 7, KZ8.out.c 8, KZ8.out.c 9, KZ8.out.c 10, KZ8.out.c 11, KZ8.out.c 12⟩ | exact ⟨KZ8b.out.c 0, KZ8b.out.c 1, KZ8b.out.c 2, KZ8b.out.c 3, KZ8b.out.c 4, KZ8b.out.c 5, KZ8b.out.c 6, KZ8b.out.c 7, KZ8b.out.c 8, KZ8b.out.c 9, KZ8b.out.c 10, KZ8b.out.c 11, KZ8b.out.c 12⟩ | exact ⟨Z9.out.c 0, Z9.out.c 1, Z9.out.c 2, Z9.out.c 3, Z9.out.c 4, Z9.out.c 5, Z9.out.c 6, Z9.out.c 7, Z9.out.c 8, Z9.out.c 9, Z9.out.c 10, Z9.out.c 11, Z9.out.c 12⟩ | exact ⟨(Z9.out.fz (Fz.set w9 c 29 (Value.slice A9 n9 k9)) (by simp; exact (Ne.symm KLG.out.2.1))).c 0, (Z9.out.fz (Fz.set w9 c 29 (Value.slice A9 n9 k9)) (by simp; exact (Ne.symm KLG.out.2.1))).c 1, (Z9.out.fz (Fz.set w9 c 29 (Value.slice A9 n9 k9)) (by simp; exact (Ne.symm KLG.out.2.1))).c 2, (Z9.out.fz (Fz.set w9 c 29 (Value.slice A9 n9 k9)) (by simp; exact (Ne.symm KLG.out.2.1))).c 3, (Z9.out.fz (Fz.set w9 c 29 (Value.slice A9 n9 k9)) (by simp; exact (Ne.symm KLG.out.2.1))).c 4, (Z9.out.fz (Fz.set w9 c 29 (Value.slice A9 n9 k9)) (by simp; exact (Ne.symm KLG.out.2.1))).c 5, (Z9.out.fz (Fz.set w9 c 29 (Value.slice A9 n9 k9)) (by simp; exact (Ne.symm KLG.out.2.1))).c 6, (Z9.out.fz (Fz.set w9 c 29 (Value.slice A9 n9 k9)) (by simp; exact (Ne.symm KLG.out.2.1))).c 7, (Z9.out.fz (Fz.set w9 c 29 (Value.slice A9 n9 k9)) (by simp; exact (Ne.symm KLG.out.2.1))).c 8, (Z9.out.fz (Fz.set w9 c 29 (Value.slice A9 n9 k9)) (by simp; exact (Ne.symm KLG.out.2.1))).c 9, (Z9.out.fz (Fz.set w9 c 29 (Value.slice A9 n9 k9)) (by simp; exact (Ne.symm KLG.out.2.1))).c 10, (Z9.out.fz (Fz.set w9 c 29 (Value.slice A9 n9 k9)) (by simp; exact (Ne.symm KLG.out.2.1))).c 11, (Z9.out.fz (Fz.set w9 c 29 (Value.slice A9 n9 k9)) (by simp; exact (Ne.symm KLG.out.2.1))).c 12⟩
          clear hK K
          try simp only [Act.put, List.setIfInBounds_toArray, List.set_cons_zero, List.set_cons_succ, List.getElem_toArray, List.getElem_cons_zero, List.getElem_cons_succ]
          refine wpAnyH_take (i := 8) (v := ?_) rfl (by kernel_rfl) (by kernel_rfl) (by kernel_rfl) (fun _ _ _ h => h) (Or.inl ⟨by rfl, ?_⟩) (by assumption) ?_
          rotate_left
          · intro w hSw; go_simp; (try with_reducible rfl)
          try simp only [Act.put, List.setIfInBounds_toArray, List.set_cons_zero, List.set_cons_succ, List.getElem_toArray, List.getElem_cons_zero, List.getElem_cons_succ]
          refine wpAnyH_take (i := 9) (v := ?_) rfl (by kernel_rfl) (by kernel_rfl) (by kernel_rfl) (fun _ _ _ h => h) (Or.inl ⟨by rfl, ?_⟩) (by assumption) ?_
          rotate_left
          · intro w hSw; go_simp; (try with_reducible rfl)
          try simp only [Act.put, List.setIfInBounds_toArray, List.set_cons_zero, List.set_cons_succ, List.getElem_toArray, List.getElem_cons_zero, List.getElem_cons_succ]
          refine wpAnyH_ready (rs := [10]) (by kernel_rfl) (by simp) ?_
          refine AllReadyH.cons rfl (fun K hK => ?_) AllReadyH.nil
          go_simp
          refine hK.out _ _ ?_ (fun hHeld => ?_)
          · first | exact ⟨KZ8.out.c 0, KZ8.out.c 1, KZ8.out.c 2, KZ8.out.c 3, KZ8.out.c 4, KZ8.out.c 5, KZ8.out.c 6, KZ8.out.c 7, KZ8.out.c 8, KZ8.out.c 9, KZ8.out.c 10, KZ8.out.c 11, KZ8.out.c 12⟩ | exact ⟨KZ8b.out.c 0, KZ8b.out.c 1, KZ8b.out.c 2, KZ8b.out.c 3, KZ8b.out.c 4, KZ8b.out.c 5, KZ8b.out.c 6, KZ8b.out.c 7, KZ8b.out.c 8, KZ8b.out.c 9, KZ8b.out.c 10, KZ8b.out.c 11, KZ8b.out.c 12⟩ | exact ⟨Z9.out.c 0, Z9.out.c 1, Z9.out.c 2, Z9.out.c 3, Z9.out.c 4, Z9.out.c 5, Z9.out.c 6, Z9.out.c 7, Z9.out.c 8, Z9.out.c 9, Z9.out.c 10, Z9.out.c 11, Z9.out.c 12⟩ | exact ⟨(Z9.out.fz (Fz.set w9 c 29 (Value.slice A9 n9 k9)) (by simp; exact (Ne.symm KLG.out.2.1))).c 0, (Z9.out.fz (Fz.set w9 c 29 (Value.slice A9 n9 k9)) (by simp; exact (Ne.symm KLG.out.2.1))).c 1, (Z9.out.fz (Fz.set w9 c 29 (Value.slice A9 n9 k9)) (by simp; exact (Ne.symm KLG.out.2.1))).c 2, (Z9.out.fz (Fz.set w9 c 29 (Value.slice A9 n9 k9)) (by simp; exact (Ne.symm KLG.out.2.1))).c 3, (Z9.out.fz (Fz.set w9 c 29 (Value.slice A9 n9 k9)) (by simp; exact (Ne.symm KLG.out.2.1))).c 4, (Z9.out.fz (Fz.set w9 c 29 (Value.slice A9 n9 k9)) (by simp; exact (Ne.symm KLG.out.2.1))).c 5, (Z9.out.fz (Fz.set w9 c 29 (Value.slice A9 n9 k9)) (by simp; exact (Ne.symm KLG.out.2.1))).c 6, (Z9.out.fz (Fz.set w9 c 29 (Value.slice A9 n9 k9)) (by simp; exact (Ne.symm KLG.out.2.1))).c 7, (Z9.out.fz (Fz.set w9 c 29 (Value.slice A9 n9 k9)) (by simp; exact (Ne.symm KLG.out.2.1))).c 8, (Z9.out.fz (Fz.set w9 c 29 (Value.slice A9 n9 k9)) (by simp; exact (Ne.symm KLG.out.2.1))).c 9, (Z9.out.fz (Fz.set w9 c 29 (Value.slice A9 n9 k9)) (by simp; exact (Ne.symm KLG.out.2.1))).c 10, (Z9.out.fz (Fz.set w9 c 29 (Value.slice A9 n9 k9)) (by simp; exact (Ne.symm KLG.out.2.1))).c 11, (Z9.out.fz (Fz.set w9 c 29 (Value.slice A9 n9 k9)) (by simp; exact (Ne.symm KLG.out.2.1))).c 12⟩
          clear hK K
          try simp only [Act.put, List.setIfInBounds_toArray, List.set_cons_zero, List.set_cons_succ, List.getElem_toArray, List.getElem_cons_zero, List.getElem_cons_succ]
          refine wpAnyH_done (by kernel_rfl) ?_ _
          refine NoPanic.normal ?_
          go_wp2_with fail
          go_roundw
          case rel =>
            refine .inr ⟨by go_num, ⟨(Value.slice A9 n9 k9), go, ?_⟩⟩
            have LC := C2.out.lt
            have LF := F2.out.lt
            have LW := HS2.out
            have LE := E2.out.size
            have T9 := Fz.set w9 c 29 (Value.slice A9 n9 k9)
            have FT : Fz w (w9.setCell ⟨c, 29, none⟩ (Value.slice A9 n9 k9)) (c :: fl :: ov.ownBlock.toList) := ((E2.out.trans X9.out).trans T9).mono (fun x _ hx => by
              simp only [List.mem_append, List.mem_cons, List.not_mem_nil, or_false] at hx
              rcases hx with (rfl | hx) | rfl
              · simp
              · simp only [List.mem_cons]; exact .inr (.inr hx)
              · simp)
            refine ⟨C9.out.set 29 _, F9.out.fz T9 (by simp; exact fun e => HND.out.1.2.2 e.symm), ⟨?_, fun x hx => ?_⟩, fun x hx => ?_, fun kb e => ?_, FT⟩
            · have hr := own_blockW HO9.out (w' := w9.setCell ⟨c, 29, none⟩ (Value.slice A9 n9 k9)) fun kb e => T9.block kb (let ⟨_, _, h2⟩ := own_ty HO9.out e; h2.lt) (by
                rcases HV9.out with h1 | ⟨kb', h1, h2⟩
                · simp; exact (HOV.out kb (h1 ▸ e)).2.2.1
                · rw [h1] at e; injection e with e; subst e; simp; omega)
              rw [List.length_append, List.flatMap_append]
              simpa using hr
            · rcases List.mem_append.1 hx with h1 | h1
              · exact (HOW.out.opt x h1).fz FT (by simp only [List.mem_cons, not_or]; exact HGT.out x h1)
              · obtain rfl : x = go := by simpa using h1
                exact G9.out.fz T9 (by simp; have := KLG.out.1; omega)
            · rcases List.mem_append.1 hx with h1 | h1
              · exact .inl h1
              · obtain rfl : x = go := by simpa using h1
                exact .inr (by have := KLG.out; omega)
            · rcases HV9.out with h1 | ⟨kb', h1, h2⟩
              · exact .inl (h1 ▸ e)
              · rw [h1] at e; injection e with e; subst e; exact .inr (by omega)
          case measure => simp [intOf]
      · go_simp
        refine hK.out _ _ ?_ (fun hHeld => ?_)
        · exact ⟨L2b.out.c 1, L2b.out.c 2, C2b.out.c 5, C2b.out.c 6, C2b.out.c 10, O2b.out.c 0, O2b.out.c 1, O2b.out.c 2, O2b.out.c 3, O2b.out.c 4, O2b.out.c 5, O2b.out.c 6, O2b.out.c 7, O2b.out.c 8⟩
        clear hK K
        try simp only [Act.put, List.setIfInBounds_toArray, List.set_cons_zero, List.set_cons_succ, List.getElem_toArray, List.getElem_cons_zero, List.getElem_cons_succ]
        refine wpAnyH_ready (rs := [40]) (by kernel_rfl) (by simp) ?_
        refine AllReadyH.cons rfl (fun K hK => ?_) AllReadyH.nil
        go_simp
        refine WB.out.mono ?_
        rintro e w5 ⟨rfl, n5, hw5⟩
        have B5 : Fz ((W.alloc (.cells zeroS 39)).drew) w5 [] := hw5 ▸ (Fz.drew _ n5)
        have O5 := Keep.mk (O2b.out.fz B5 (by simp))
        have C5 := Keep.mk (C2b.out.fz B5 (by simp))
        have L5 := Keep.mk (L2b.out.fz B5 (by simp))
        have F5 := Keep.mk (F2b.out.fz B5 (by simp))
        have Z5 := Keep.mk (Z2b.out.fz B5 (by simp))
        have G5 : Keep (Fz W w5 []) := ⟨(E2b.out.trans B5).mono (by simp)⟩
        clear hw5 B5
        refine hK.out _ _ ?_ (fun hHeld => ?_)
        · exact ⟨L5.out.c 1, L5.out.c 2, C5.out.c 5, C5.out.c 6, C5.out.c 10, O5.out.c 0, O5.out.c 1, O5.out.c 2, O5.out.c 3, O5.out.c 4, O5.out.c 5, O5.out.c 6, O5.out.c 7, O5.out.c 8⟩
        clear hK K
        try simp only [Act.put, List.setIfInBounds_toArray, List.set_cons_zero, List.set_cons_succ, List.getElem_toArray, List.getElem_cons_zero, List.getElem_cons_succ]
        refine wpAnyH_take (i := 41) (v := ?_) rfl (by kernel_rfl) (by kernel_rfl) (by kernel_rfl) (fun _ _ _ h => h) (Or.inl ⟨by rfl, ?_⟩) (by assumption) ?_
        rotate_left
        · intro w hSw; go_simp; (try with_reducible rfl)
        try simp only [Act.put, List.setIfInBounds_toArray, List.set_cons_zero, List.set_cons_succ, List.getElem_toArray, List.getElem_cons_zero, List.getElem_cons_succ]
        refine wpAnyH_ready (rs := [43]) (by kernel_rfl) (by simp) ?_
        refine AllReadyH.cons rfl (fun K hK => ?_) AllReadyH.nil
        refine step_store_row rfl 39 (.tmp 9) (.tmp 63) rfl W.heap.size (segZ p1 p2 s) rfl rfl 39 zeroS Z5.out.eq (by kernel_rfl) rfl HON.out ?_
        obtain ⟨w6, hw6⟩ : ∃ w6, w5.setRow W.heap.size (segZ p1 p2 s) = w6 := ⟨_, rfl⟩
        have Z6 : Bk w6 W.heap.size (segZ p1 p2 s) 39 := hw6 ▸ ⟨setRow_heap _ _ _ _ _ _ Z5.out.eq⟩
        have X6 : Fz W w6 [] := hw6 ▸ (G5.out.trans (Fz.row w5 W.heap.size (segZ p1 p2 s))).mono (by simp; omega)
        have NS := O5.out.lt
        have Y6 : Fz w5 w6 [W.heap.size] := hw6 ▸ Fz.row w5 W.heap.size (segZ p1 p2 s)
        have O6 := O5.out.fz Y6 (by simp; have := O2.out.lt; omega)
        have C6 := C5.out.fz Y6 (by simp; have := C2.out.lt; omega)
        have L6 := L5.out.fz Y6 (by simp; have := L2.out.lt; omega)
        have F6 := F5.out.fz Y6 (by simp; have := F2.out.lt; omega)
        obtain ⟨sb, hsb⟩ : ∃ sb, W.heap.size = sb := ⟨_, rfl⟩
        have HSB : W.heap.size ≤ sb := by have := G5.out.size; omega
        rw [hsb] at Z6
        rw [hw6]
        refine hK.out _ _ ?_ (fun hHeld => ?_)
        · exact ⟨L6.c 1, L6.c 2, C6.c 5, C6.c 6, C6.c 10, O6.c 0, O6.c 1, O6.c 2, O6.c 3, O6.c 4, O6.c 5, O6.c 6, O6.c 7, O6.c 8⟩
        clear hK K hHeld
        try simp only [Act.put, List.setIfInBounds_toArray, List.set_cons_zero, List.set_cons_succ, List.getElem_toArray, List.getElem_cons_zero, List.getElem_cons_succ]
        refine wpAnyH_done (by kernel_rfl) ?_ _
        refine NoPanic.normal ?_
        try rw [hsb]
        have KZ6 := Keep.mk Z6
        have KX6 := Keep.mk X6
        have KF6 := Keep.mk F6
        have KC6 := Keep.mk C6
        have KS := Keep.mk HSB
        have pp0 : w6.cell? ⟨wr.heap.size, 0, none⟩ = some (.int .u32 s) := O6.c 0
        have pp1 : w6.cell? ⟨wr.heap.size, 1, none⟩ = some (.bool true) := O6.c 1
        have pp2 : w6.cell? ⟨wr.heap.size, 2, none⟩ = some (.bool false) := O6.c 2
        have pp3 : w6.cell? ⟨wr.heap.size, 3, none⟩ = some (.slice none 0 0) := O6.c 3
        have pp4 : w6.cell? ⟨wr.heap.size, 4, none⟩ = some (.int .i64 0) := O6.c 4
        have pp5 : w6.cell? ⟨wr.heap.size, 5, none⟩ = some (.bool false) := O6.c 5
        have pp6 : w6.cell? ⟨wr.heap.size, 6, none⟩ = some (.int .u32 0) := O6.c 6
        have pp7 : w6.cell? ⟨wr.heap.size, 7, none⟩ = some (.bool false) := O6.c 7
        have pp8 : w6.cell? ⟨wr.heap.size, 8, none⟩ = some (.bool false) := O6.c 8
        have WI := Keep.mk (with_syn s C6 L6)
        clear Z6 X6 F6 C6 L6 O6 HSB Y6 hw6 hsb
        go_wp2_with (first
          | (go_at_call 133
             go_loud (refine WI.out.mono ?_; rintro e w7 ⟨go, rfl, lo7, k7, hb7⟩)
             have B7 := Fz.below hb7 (Nat.le_refl _)
             have Z7 := KZ6.out.fz B7 (by simp)
             have c11 : w7.cell? ⟨sb, 11, none⟩ = some (.slice none 0 0) := Z7.c 11
             have f11 := Z7.free 11
             have KZ7 := Keep.mk Z7
             have KB7 := Keep.mk B7
             have K7 := Keep.mk k7
             have LO7 := Keep.mk lo7
             have d11 : (w7.setCell ⟨sb, 11, none⟩ (.slice (some ⟨go, 0, none⟩) 1 1)).cell? ⟨sb, 11, none⟩ = some (.slice (some ⟨go, 0, none⟩) 1 1) := (Z7.set 11 _).c 11
             have g11 := (Z7.set 11 (.slice (some ⟨go, 0, none⟩) 1 1)).free 11
             clear lo7 k7 hb7 B7 Z7)
          | fail)
        obtain ⟨w8, hw8⟩ : ∃ w8, (w7.setCell ⟨sb, 11, none⟩ (.slice (some ⟨go, 0, none⟩) 1 1)).setCell ⟨sb, 11, none⟩ (.slice (some ⟨go, 0, none⟩) 1 1) = w8 := ⟨_, rfl⟩
        have Y8 : Fz w7 w8 [sb] := hw8 ▸ ((Fz.set w7 sb 11 _).trans (Fz.set _ sb 11 _)).mono (by simp)
        have z8 := (KZ7.out.set 11 (.slice (some ⟨go, 0, none⟩) 1 1)).set 11 (.slice (some ⟨go, 0, none⟩) 1 1)
        rw [hw8] at z8
        have Z8 : Bk w8 sb (segS p1 p2 s go).toArray 39 := z8
        have HCS : c ≠ sb := by have := C2.out.lt; have := KS.out; omega
        have HFS : fl ≠ sb := by have := F2.out.lt; have := KS.out; omega
        have HGS : go ≠ sb := by have := LO7.out; have := KZ6.out.lt; omega
        have C8 := (KC6.out.fz KB7.out (by simp)).fz Y8 (by simp; exact HCS)
        have F8 := (KF6.out.fz KB7.out (by simp)).fz Y8 (by simp; exact HFS)
        have G8 := K7.out.fz Y8 (by simp; exact HGS)
        have X8 : Fz W w8 [] := ((KX6.out.trans KB7.out).trans Y8).mono (by simp; have := KS.out; omega)
        rw [hw8]
        have c29 : w8.drew.cell? ⟨c, 29, none⟩ = some ov := C8.c 29
        have AB := (Fz.alloc w8 (.cells (segS p1 p2 s go).toArray 39)).trans (Fz.drew _ 1)
        have C8b := C8.fz AB (by simp)
        have c29b : (w8.alloc (.cells #[.int .i64 0, .int .i64 1, .int .i64 p1, .int .i64 p2, .int .u32 s, .int .u32 0, .bool true, .bool false, .bool false, .bool false, .int .i64 32, .slice (some ⟨go, 0, none⟩) 1 1, .slice none 0 0] 39)).drew.cell? ⟨c, 29, none⟩ = some ov := C8b.c 29
        have KC8 := Keep.mk C8b
        have KF8 := Keep.mk (F8.fz AB (by simp))
        have KG8 := Keep.mk (G8.fz AB (by simp))
        have KZ8 := Keep.mk Z8
        have KZ8b := Keep.mk (Z8.fz AB (by simp))
        have KX8 : Keep (Fz W (w8.alloc (.cells (segS p1 p2 s go).toArray 39)).drew []) := ⟨(X8.trans AB).mono (by simp)⟩
        have KLG : Keep (W.heap.size ≤ go ∧ c ≠ sb ∧ w.heap.size ≤ W.heap.size ∧ W.heap.size ≤ sb) := ⟨by have := LO7.out; have := KX6.out.size; omega, HCS, E2.out.size, KS.out⟩
        have KRW : Keep ((w8.alloc (.cells (segS p1 p2 s go).toArray 39)).drew.ownsRow lo 39 13 ov gos.length (gos.flatMap (segS p1 p2 s))) := ⟨own_blockW HOW.out.row fun kb e => (KX8.out.block kb (by have := HOV.out kb e; have := E2.out.size; omega) (by simp)).trans (E2.out.block kb (HOV.out kb e).2.1 (by simp; exact (HOV.out kb e).2.2.2))⟩
        have KSZ : Keep (W.heap.size ≤ (w8.alloc (.cells (segS p1 p2 s go).toArray 39)).drew.heap.size) := ⟨KX8.out.size⟩
        clear Y8 z8 Z8 HCS HFS HGS C8 F8 G8 X8 AB C8b hw8 d11 g11 c11 f11
        refine wp_region_noPanic ?_
        refine wp_region_held_drew (S := fun X => X.cell? ⟨sb, 0, none⟩ = some (.int .i64 0) ∧ X.cell? ⟨sb, 1, none⟩ = some (.int .i64 1) ∧ X.cell? ⟨sb, 2, none⟩ = some (.int .i64 p1) ∧ X.cell? ⟨sb, 3, none⟩ = some (.int .i64 p2) ∧ X.cell? ⟨sb, 4, none⟩ = some (.int .u32 s) ∧ X.cell? ⟨sb, 5, none⟩ = some (.int .u32 0) ∧ X.cell? ⟨sb, 6, none⟩ = some (.bool true) ∧ X.cell? ⟨sb, 7, none⟩ = some (.bool false) ∧ X.cell? ⟨sb, 8, none⟩ = some (.bool false) ∧ X.cell? ⟨sb, 9, none⟩ = some (.bool false) ∧ X.cell? ⟨sb, 10, none⟩ = some (.int .i64 32) ∧ X.cell? ⟨sb, 11, none⟩ = some (.slice (some ⟨go, 0, none⟩) 1 1) ∧ X.cell? ⟨sb, 12, none⟩ = some (.slice none 0 0)) (by kernel_rfl) ⟨KZ8.out.c 0, KZ8.out.c 1, KZ8.out.c 2, KZ8.out.c 3, KZ8.out.c 4, KZ8.out.c 5, KZ8.out.c 6, KZ8.out.c 7, KZ8.out.c 8, KZ8.out.c 9, KZ8.out.c 10, KZ8.out.c 11, KZ8.out.c 12⟩ (fun hHeld => ?_)
        refine wpAnyH_take (i := 0) (v := ?_) rfl (by kernel_rfl) (by kernel_rfl) (by kernel_rfl) (fun _ _ _ h => h) (Or.inl ⟨by rfl, ?_⟩) (by assumption) ?_
        rotate_left
        · intro w hSw; go_simp; (try with_reducible rfl)
        try simp only [Act.put, List.setIfInBounds_toArray, List.set_cons_zero, List.set_cons_succ, List.getElem_toArray, List.getElem_cons_zero, List.getElem_cons_succ]
        refine wpAnyH_take (i := 1) (v := ?_) rfl (by kernel_rfl) (by kernel_rfl) (by kernel_rfl) (fun _ _ _ h => h) (Or.inl ⟨by rfl, ?_⟩) (by assumption) ?_
        rotate_left
        · intro w hSw; go_simp; (try with_reducible rfl)
        try simp only [Act.put, List.setIfInBounds_toArray, List.set_cons_zero, List.set_cons_succ, List.getElem_toArray, List.getElem_cons_zero, List.getElem_cons_succ]
        refine wpAnyH_take (i := 2) (v := ?_) rfl (by kernel_rfl) (by kernel_rfl) (by kernel_rfl) (fun _ _ _ h => h) (Or.inl ⟨by rfl, ?_⟩) (by assumption) ?_
        rotate_left
        · intro w hSw; go_simp; (try with_reducible rfl)
        try simp only [Act.put, List.setIfInBounds_toArray, List.set_cons_zero, List.set_cons_succ, List.getElem_toArray, List.getElem_cons_zero, List.getElem_cons_succ]
        refine wpAnyH_take (i := 3) (v := ?_) rfl (by kernel_rfl) (by kernel_rfl) (by kernel_rfl) (fun _ _ _ h => h) (Or.inl ⟨by rfl, ?_⟩) (by assumption) ?_
        rotate_left
        · intro w hSw; go_simp; (try with_reducible rfl)
        try simp only [Act.put, List.setIfInBounds_toArray, List.set_cons_zero, List.set_cons_succ, List.getElem_toArray, List.getElem_cons_zero, List.getElem_cons_succ]
        refine wpAnyH_take (i := 5) (v := ?_) rfl (by kernel_rfl) (by kernel_rfl) (by kernel_rfl) (fun _ _ _ h => h) (Or.inl ⟨by rfl, ?_⟩) (by assumption) ?_
        rotate_left
        · intro w hSw; go_simp; (try with_reducible rfl)
        try simp only [Act.put, List.setIfInBounds_toArray, List.set_cons_zero, List.set_cons_succ, List.getElem_toArray, List.getElem_cons_zero, List.getElem_cons_succ]
        refine wpAnyH_ready (rs := [4, 6]) (by kernel_rfl) (by simp) ?_
        refine AllReadyH.cons rfl (fun K hK => ?_) (AllReadyH.cons rfl (fun K hK => ?_) AllReadyH.nil)
        · go_simp
          refine hK.out _ _ ?_ (fun hHeld => ?_)
          · first | exact ⟨KZ8.out.c 0, KZ8.out.c 1, KZ8.out.c 2, KZ8.out.c 3, KZ8.out.c 4, KZ8.out.c 5, KZ8.out.c 6, KZ8.out.c 7, KZ8.out.c 8, KZ8.out.c 9, KZ8.out.c 10, KZ8.out.c 11, KZ8.out.c 12⟩ | exact ⟨KZ8b.out.c 0, KZ8b.out.c 1, KZ8b.out.c 2, KZ8b.out.c 3, KZ8b.out.c 4, KZ8b.out.c 5, KZ8b.out.c 6, KZ8b.out.c 7, KZ8b.out.c 8, KZ8b.out.c 9, KZ8b.out.c 10, KZ8b.out.c 11, KZ8b.out.c 12⟩ | exact ⟨Z9.out.c 0, Z9.out.c 1, Z9.out.c 2, Z9.out.c 3, Z9.out.c 4, Z9.out.c 5, Z9.out.c 6, Z9.out.c 7, Z9.out.c 8, Z9.out.c 9, Z9.out.c 10, Z9.out.c 11, Z9.out.c 12⟩ | exact ⟨(Z9.out.fz (Fz.set w9 c 29 (Value.slice A9 n9 k9)) (by simp; exact (Ne.symm KLG.out.2.1))).c 0, (Z9.out.fz (Fz.set w9 c 29 (Value.slice A9 n9 k9)) (by simp; exact (Ne.symm KLG.out.2.1))).c 1, (Z9.out.fz (Fz.set w9 c 29 (Value.slice A9 n9 k9)) (by simp; exact (Ne.symm KLG.out.2.1))).c 2, (Z9.out.fz (Fz.set w9 c 29 (Value.slice A9 n9 k9)) (by simp; exact (Ne.symm KLG.out.2.1))).c 3, (Z9.out.fz (Fz.set w9 c 29 (Value.slice A9 n9 k9)) (by simp; exact (Ne.symm KLG.out.2.1))).c 4, (Z9.out.fz (Fz.set w9 c 29 (Value.slice A9 n9 k9)) (by simp; exact (Ne.symm KLG.out.2.1))).c 5, (Z9.out.fz (Fz.set w9 c 29 (Value.slice A9 n9 k9)) (by simp; exact (Ne.symm KLG.out.2.1))).c 6, (Z9.out.fz (Fz.set w9 c 29 (Value.slice A9 n9 k9)) (by simp; exact (Ne.symm KLG.out.2.1))).c 7, (Z9.out.fz (Fz.set w9 c 29 (Value.slice A9 n9 k9)) (by simp; exact (Ne.symm KLG.out.2.1))).c 8, (Z9.out.fz (Fz.set w9 c 29 (Value.slice A9 n9 k9)) (by simp; exact (Ne.symm KLG.out.2.1))).c 9, (Z9.out.fz (Fz.set w9 c 29 (Value.slice A9 n9 k9)) (by simp; exact (Ne.symm KLG.out.2.1))).c 10, (Z9.out.fz (Fz.set w9 c 29 (Value.slice A9 n9 k9)) (by simp; exact (Ne.symm KLG.out.2.1))).c 11, (Z9.out.fz (Fz.set w9 c 29 (Value.slice A9 n9 k9)) (by simp; exact (Ne.symm KLG.out.2.1))).c 12⟩
          clear hK K
          try simp only [Act.put, List.setIfInBounds_toArray, List.set_cons_zero, List.set_cons_succ, List.getElem_toArray, List.getElem_cons_zero, List.getElem_cons_succ]
          refine wpAnyH_ready (rs := [6]) (by kernel_rfl) (by simp) ?_
          refine AllReadyH.cons rfl (fun K hK => ?_) AllReadyH.nil
          go_simp
          refine hK.out _ _ ?_ (fun hHeld => ?_)
          · first | exact ⟨KZ8.out.c 0, KZ8.out.c 1, KZ8.out.c 2, KZ8.out.c 3, KZ8.out.c 4, KZ8.out.c 5, KZ8.out.c 6, KZ8.out.c 7, KZ8.out.c 8, KZ8.out.c 9, KZ8.out.c 10, KZ8.out.c 11, KZ8.out.c 12⟩ | exact ⟨KZ8b.out.c 0, KZ8b.out.c 1, KZ8b.out.c 2, KZ8b.out.c 3, KZ8b.out.c 4, KZ8b.out.c 5, KZ8b.out.c 6, KZ8b.out.c 7, KZ8b.out.c 8, KZ8b.out.c 9, KZ8b.out.c 10, KZ8b.out.c 11, KZ8b.out.c 12⟩ | exact ⟨Z9.out.c 0, Z9.out.c 1, Z9.out.c 2, Z9.out.c 3, Z9.out.c 4, Z9.out.c 5, Z9.out.c 6, Z9.out.c 7, Z9.out.c 8, Z9.out.c 9, Z9.out.c 10, Z9.out.c 11, Z9.out.c 12⟩ | exact ⟨(Z9.out.fz (Fz.set w9 c 29 (Value.slice A9 n9 k9)) (by simp; exact (Ne.symm KLG.out.2.1))).c 0, (Z9.out.fz (Fz.set w9 c 29 (Value.slice A9 n9 k9)) (by simp; exact (Ne.symm KLG.out.2.1))).c 1, (Z9.out.fz (Fz.set w9 c 29 (Value.slice A9 n9 k9)) (by simp; exact (Ne.symm KLG.out.2.1))).c 2, (Z9.out.fz (Fz.set w9 c 29 (Value.slice A9 n9 k9)) (by simp; exact (Ne.symm KLG.out.2.1))).c 3, (Z9.out.fz (Fz.set w9 c 29 (Value.slice A9 n9 k9)) (by simp; exact (Ne.symm KLG.out.2.1))).c 4, (Z9.out.fz (Fz.set w9 c 29 (Value.slice A9 n9 k9)) (by simp; exact (Ne.symm KLG.out.2.1))).c 5, (Z9.out.fz (Fz.set w9 c 29 (Value.slice A9 n9 k9)) (by simp; exact (Ne.symm KLG.out.2.1))).c 6, (Z9.out.fz (Fz.set w9 c 29 (Value.slice A9 n9 k9)) (by simp; exact (Ne.symm KLG.out.2.1))).c 7, (Z9.out.fz (Fz.set w9 c 29 (Value.slice A9 n9 k9)) (by simp; exact (Ne.symm KLG.out.2.1))).c 8, (Z9.out.fz (Fz.set w9 c 29 (Value.slice A9 n9 k9)) (by simp; exact (Ne.symm KLG.out.2.1))).c 9, (Z9.out.fz (Fz.set w9 c 29 (Value.slice A9 n9 k9)) (by simp; exact (Ne.symm KLG.out.2.1))).c 10, (Z9.out.fz (Fz.set w9 c 29 (Value.slice A9 n9 k9)) (by simp; exact (Ne.symm KLG.out.2.1))).c 11, (Z9.out.fz (Fz.set w9 c 29 (Value.slice A9 n9 k9)) (by simp; exact (Ne.symm KLG.out.2.1))).c 12⟩
          clear hK K
          try simp only [Act.put, List.setIfInBounds_toArray, List.set_cons_zero, List.set_cons_succ, List.getElem_toArray, List.getElem_cons_zero, List.getElem_cons_succ]
          refine wpAnyH_ready (rs := [7]) (by kernel_rfl) (by simp) ?_
          refine AllReadyH.cons rfl (fun K hK => ?_) AllReadyH.nil
          refine step_more rfl (.tmp 83) (.tmp 85) 31 39 rfl Tryz.underlying31 infoSeg rfl (by omega) (by omega) ov rfl _ (segS p1 p2 s go) rfl rfl (fun j u hu => ?_) ?_ (by simp [Value.oneCell']) lo gos.length _ KRW.out (Nat.le_trans (Nat.le_trans HLO.out.1 KLG.out.2.2.1) KSZ.out) (by have := HLO.out.2; omega) ?_
          · exact ((Bk.new w8 (segS p1 p2 s go).toArray 39).c j).trans (Array.getElem?_toList.symm.trans hu)
          · show w8.heap.size < (w8.alloc (.cells (segS p1 p2 s go).toArray 39)).heap.size
            simp
          intro v' w9 ho9 hg9 hv9
          obtain ⟨A9, n9, k9, rfl⟩ : ∃ A n k, v' = Value.slice A n k := by
            rcases ho9.2 with ⟨h, _⟩ | ⟨g, cap, _, h, _⟩
            · exact ⟨_, _, _, h⟩
            · exact ⟨_, _, _, h⟩
          have B9 := Fz.grown hg9
          have NOV : ∀ x, w.heap.size ≤ x ∨ x = c ∨ x = fl → x ∉ ov.ownBlock.toList := fun x hx e => by
            have := HOV.out x (by simpa using e)
            rcases hx with h1 | h1 | h1
            · omega
            · exact this.2.2.1 h1
            · exact this.2.2.2 h1
          have C9 := Keep.mk (KC8.out.fz B9 (NOV _ (.inr (.inl rfl))))
          have F9 := Keep.mk (KF8.out.fz B9 (NOV _ (.inr (.inr rfl))))
          have G9 := Keep.mk (KG8.out.fz B9 (NOV _ (.inl (by have := KLG.out; omega))))
          have Z9 := Keep.mk (KZ8b.out.fz B9 (NOV _ (.inl (by have := KLG.out; omega))))
          have X9 : Keep (Fz W w9 ov.ownBlock.toList) := ⟨(KX8.out.trans B9).mono (by simp)⟩
          have HO9 := Keep.mk ho9
          have HV9 : Keep ((Value.slice A9 n9 k9).ownBlock = ov.ownBlock ∨ ∃ kb, (Value.slice A9 n9 k9).ownBlock = some kb ∧ W.heap.size ≤ kb) := ⟨hv9.imp id fun e => ⟨_, e, KSZ.out⟩⟩
          have d29 : w9.cell? ⟨c, 29, none⟩ = some ov := C9.out.c 29
          have e29 := C9.out.free 29
          clear ho9 hg9 hv9 B9 NOV
          refine hK.out _ _ ?_ (fun hHeld => ?_)
          · first | exact ⟨KZ8.out.c 0, KZ8.out.c 1, KZ8.out.c 2, KZ8.out.c 3, KZ8.out.c 4, KZ8.out.c 5, KZ8.out.c 6, KZ8.out.c 7, KZ8.out.c 8, KZ8.out.c 9, KZ8.out.c 10, KZ8.out.c 11, KZ8.out.c 12⟩ | exact ⟨KZ8b.out.c 0, KZ8b.out.c 1, KZ8b.out.c 2, KZ8b.out.c 3, KZ8b.out.c 4, KZ8b.out.c 5, KZ8b.out.c 6, KZ8b.out.c 7, KZ8b.out.c 8, KZ8b.out.c 9, KZ8b.out.c 10, KZ8b.out.c 11, KZ8b.out.c 12⟩ | exact ⟨Z9.out.c 0, Z9.out.c 1, Z9.out.c 2, Z9.out.c 3, Z9.out.c 4, Z9.out.c 5, Z9.out.c 6, Z9.out.c 7, Z9.out.c 8, Z9.out.c 9, Z9.out.c 10, Z9.out.c 11, Z9.out.c 12⟩ | exact ⟨(Z9.out.fz (Fz.set w9 c 29 (Value.slice A9 n9 k9)) (by simp; exact (Ne.symm KLG.out.2.1))).c 0, (Z9.out.fz (Fz.set w9 c 29 (Value.slice A9 n9 k9)) (by simp; exact (Ne.symm KLG.out.2.1))).c 1, (Z9.out.fz (Fz.set w9 c 29 (Value.slice A9 n9 k9)) (by simp; exact (Ne.symm KLG.out.2.1))).c 2, (Z9.out.fz (Fz.set w9 c 29 (Value.slice A9 n9 k9)) (by simp; exact (Ne.symm KLG.out.2.1))).c 3, (Z9.out.fz (Fz.set w9 c 29 (Value.slice A9 n9 k9)) (by simp; exact (Ne.symm KLG.out.2.1))).c 4, (Z9.out.fz (Fz.set w9 c 29 (Value.slice A9 n9 k9)) (by simp; exact (Ne.symm KLG.out.2.1))).c 5, (Z9.out.fz (Fz.set w9 c 29 (Value.slice A9 n9 k9)) (by simp; exact (Ne.symm KLG.out.2.1))).c 6, (Z9.out.fz (Fz.set w9 c 29 (Value.slice A9 n9 k9)) (by simp; exact (Ne.symm KLG.out.2.1))).c 7, (Z9.out.fz (Fz.set w9 c 29 (Value.slice A9 n9 k9)) (by simp; exact (Ne.symm KLG.out.2.1))).c 8, (Z9.out.fz (Fz.set w9 c 29 (Value.slice A9 n9 k9)) (by simp; exact (Ne.symm KLG.out.2.1))).c 9, (Z9.out.fz (Fz.set w9 c 29 (Value.slice A9 n9 k9)) (by simp; exact (Ne.symm KLG.out.2.1))).c 10, (Z9.out.fz (Fz.set w9 c 29 (Value.slice A9 n9 k9)) (by simp; exact (Ne.symm KLG.out.2.1))).c 11, (Z9.out.fz (Fz.set w9 c 29 (Value.slice A9 n9 k9)) (by simp; exact (Ne.symm KLG.out.2.1))).c 12⟩
          clear hK K
          try simp only [Act.put, List.setIfInBounds_toArray, List.set_cons_zero, List.set_cons_succ, List.getElem_toArray, List.getElem_cons_zero, List.getElem_cons_succ]
          refine wpAnyH_take (i := 8) (v := ?_) rfl (by kernel_rfl) (by kernel_rfl) (by kernel_rfl) (fun _ _ _ h => h) (Or.inl ⟨by rfl, ?_⟩) (by assumption) ?_
          rotate_left
          · intro w hSw; go_simp; (try with_reducible rfl)
          try simp only [Act.put, List.setIfInBounds_toArray, List.set_cons_zero, List.set_cons_succ, List.getElem_toArray, List.getElem_cons_zero, List.getElem_cons_succ]
          refine wpAnyH_take (i := 9) (v := ?_) rfl (by kernel_rfl) (by kernel_rfl) (by kernel_rfl) (fun _ _ _ h => h) (Or.inl ⟨by rfl, ?_⟩) (by assumption) ?_
          rotate_left
          · intro w hSw; go_simp; (try with_reducible rfl)
          try simp only [Act.put, List.setIfInBounds_toArray, List.set_cons_zero, List.set_cons_succ, List.getElem_toArray, List.getElem_cons_zero, List.getElem_cons_succ]
          refine wpAnyH_ready (rs := [10]) (by kernel_rfl) (by simp) ?_
          refine AllReadyH.cons rfl (fun K hK => ?_) AllReadyH.nil
          go_simp
          refine hK.out _ _ ?_ (fun hHeld => ?_)
          · first | exact ⟨KZ8.out.c 0, KZ8.out.c 1, KZ8.out.c 2, KZ8.out.c 3, KZ8.out.c 4, KZ8.out.c 5, KZ8.out.c 6, KZ8.out.c 7, KZ8.out.c 8, KZ8.out.c 9, KZ8.out.c 10, KZ8.out.c 11, KZ8.out.c 12⟩ | exact ⟨KZ8b.out.c 0, KZ8b.out.c 1, KZ8b.out.c 2, KZ8b.out.c 3, KZ8b.out.c 4, KZ8b.out.c 5, KZ8b.out.c 6, KZ8b.out.c 7, KZ8b.out.c 8, KZ8b.out.c 9, KZ8b.out.c 10, KZ8b.out.c 11, KZ8b.out.c 12⟩ | exact ⟨Z9.out.c 0, Z9.out.c 1, Z9.out.c 2, Z9.out.c 3, Z9.out.c 4, Z9.out.c 5, Z9.out.c 6, Z9.out.c 7, Z9.out.c 8, Z9.out.c 9, Z9.out.c 10, Z9.out.c 11, Z9.out.c 12⟩ | exact ⟨(Z9.out.fz (Fz.set w9 c 29 (Value.slice A9 n9 k9)) (by simp; exact (Ne.symm KLG.out.2.1))).c 0, (Z9.out.fz (Fz.set w9 c 29 (Value.slice A9 n9 k9)) (by simp; exact (Ne.symm KLG.out.2.1))).c 1, (Z9.out.fz (Fz.set w9 c 29 (Value.slice A9 n9 k9)) (by simp; exact (Ne.symm KLG.out.2.1))).c 2, (Z9.out.fz (Fz.set w9 c 29 (Value.slice A9 n9 k9)) (by simp; exact (Ne.symm KLG.out.2.1))).c 3, (Z9.out.fz (Fz.set w9 c 29 (Value.slice A9 n9 k9)) (by simp; exact (Ne.symm KLG.out.2.1))).c 4, (Z9.out.fz (Fz.set w9 c 29 (Value.slice A9 n9 k9)) (by simp; exact (Ne.symm KLG.out.2.1))).c 5, (Z9.out.fz (Fz.set w9 c 29 (Value.slice A9 n9 k9)) (by simp; exact (Ne.symm KLG.out.2.1))).c 6, (Z9.out.fz (Fz.set w9 c 29 (Value.slice A9 n9 k9)) (by simp; exact (Ne.symm KLG.out.2.1))).c 7, (Z9.out.fz (Fz.set w9 c 29 (Value.slice A9 n9 k9)) (by simp; exact (Ne.symm KLG.out.2.1))).c 8, (Z9.out.fz (Fz.set w9 c 29 (Value.slice A9 n9 k9)) (by simp; exact (Ne.symm KLG.out.2.1))).c 9, (Z9.out.fz (Fz.set w9 c 29 (Value.slice A9 n9 k9)) (by simp; exact (Ne.symm KLG.out.2.1))).c 10, (Z9.out.fz (Fz.set w9 c 29 (Value.slice A9 n9 k9)) (by simp; exact (Ne.symm KLG.out.2.1))).c 11, (Z9.out.fz (Fz.set w9 c 29 (Value.slice A9 n9 k9)) (by simp; exact (Ne.symm KLG.out.2.1))).c 12⟩
          clear hK K
          try simp only [Act.put, List.setIfInBounds_toArray, List.set_cons_zero, List.set_cons_succ, List.getElem_toArray, List.getElem_cons_zero, List.getElem_cons_succ]
          refine wpAnyH_done (by kernel_rfl) ?_ _
          refine NoPanic.normal ?_
          go_wp2_with fail
          go_roundw
          case rel =>
            refine .inr ⟨by go_num, ⟨(Value.slice A9 n9 k9), go, ?_⟩⟩
            have LC := C2.out.lt
            have LF := F2.out.lt
            have LW := HS2.out
            have LE := E2.out.size
            have T9 := Fz.set w9 c 29 (Value.slice A9 n9 k9)
            have FT : Fz w (w9.setCell ⟨c, 29, none⟩ (Value.slice A9 n9 k9)) (c :: fl :: ov.ownBlock.toList) := ((E2.out.trans X9.out).trans T9).mono (fun x _ hx => by
              simp only [List.mem_append, List.mem_cons, List.not_mem_nil, or_false] at hx
              rcases hx with (rfl | hx) | rfl
              · simp
              · simp only [List.mem_cons]; exact .inr (.inr hx)
              · simp)
            refine ⟨C9.out.set 29 _, F9.out.fz T9 (by simp; exact fun e => HND.out.1.2.2 e.symm), ⟨?_, fun x hx => ?_⟩, fun x hx => ?_, fun kb e => ?_, FT⟩
            · have hr := own_blockW HO9.out (w' := w9.setCell ⟨c, 29, none⟩ (Value.slice A9 n9 k9)) fun kb e => T9.block kb (let ⟨_, _, h2⟩ := own_ty HO9.out e; h2.lt) (by
                rcases HV9.out with h1 | ⟨kb', h1, h2⟩
                · simp; exact (HOV.out kb (h1 ▸ e)).2.2.1
                · rw [h1] at e; injection e with e; subst e; simp; omega)
              rw [List.length_append, List.flatMap_append]
              simpa using hr
            · rcases List.mem_append.1 hx with h1 | h1
              · exact (HOW.out.opt x h1).fz FT (by simp only [List.mem_cons, not_or]; exact HGT.out x h1)
              · obtain rfl : x = go := by simpa using h1
                exact G9.out.fz T9 (by simp; have := KLG.out.1; omega)
            · rcases List.mem_append.1 hx with h1 | h1
              · exact .inl h1
              · obtain rfl : x = go := by simpa using h1
                exact .inr (by have := KLG.out; omega)
            · rcases HV9.out with h1 | ⟨kb', h1, h2⟩
              · exact .inl (h1 ▸ e)
              · rw [h1] at e; injection e with e; subst e; exact .inr (by omega)
          case measure => simp [intOf]
        · go_simp
          refine hK.out _ _ ?_ (fun hHeld => ?_)
          · first | exact ⟨KZ8.out.c 0, KZ8.out.c 1, KZ8.out.c 2, KZ8.out.c 3, KZ8.out.c 4, KZ8.out.c 5, KZ8.out.c 6, KZ8.out.c 7, KZ8.out.c 8, KZ8.out.c 9, KZ8.out.c 10, KZ8.out.c 11, KZ8.out.c 12⟩ | exact ⟨KZ8b.out.c 0, KZ8b.out.c 1, KZ8b.out.c 2, KZ8b.out.c 3, KZ8b.out.c 4, KZ8b.out.c 5, KZ8b.out.c 6, KZ8b.out.c 7, KZ8b.out.c 8, KZ8b.out.c 9, KZ8b.out.c 10, KZ8b.out.c 11, KZ8b.out.c 12⟩ | exact ⟨Z9.out.c 0, Z9.out.c 1, Z9.out.c 2, Z9.out.c 3, Z9.out.c 4, Z9.out.c 5, Z9.out.c 6, Z9.out.c 7, Z9.out.c 8, Z9.out.c 9, Z9.out.c 10, Z9.out.c 11, Z9.out.c 12⟩ | exact ⟨(Z9.out.fz (Fz.set w9 c 29 (Value.slice A9 n9 k9)) (by simp; exact (Ne.symm KLG.out.2.1))).c 0, (Z9.out.fz (Fz.set w9 c 29 (Value.slice A9 n9 k9)) (by simp; exact (Ne.symm KLG.out.2.1))).c 1, (Z9.out.fz (Fz.set w9 c 29 (Value.slice A9 n9 k9)) (by simp; exact (Ne.symm KLG.out.2.1))).c 2, (Z9.out.fz (Fz.set w9 c 29 (Value.slice A9 n9 k9)) (by simp; exact (Ne.symm KLG.out.2.1))).c 3, (Z9.out.fz (Fz.set w9 c 29 (Value.slice A9 n9 k9)) (by simp; exact (Ne.symm KLG.out.2.1))).c 4, (Z9.out.fz (Fz.set w9 c 29 (Value.slice A9 n9 k9)) (by simp; exact (Ne.symm KLG.out.2.1))).c 5, (Z9.out.fz (Fz.set w9 c 29 (Value.slice A9 n9 k9)) (by simp; exact (Ne.symm KLG.out.2.1))).c 6, (Z9.out.fz (Fz.set w9 c 29 (Value.slice A9 n9 k9)) (by simp; exact (Ne.symm KLG.out.2.1))).c 7, (Z9.out.fz (Fz.set w9 c 29 (Value.slice A9 n9 k9)) (by simp; exact (Ne.symm KLG.out.2.1))).c 8, (Z9.out.fz (Fz.set w9 c 29 (Value.slice A9 n9 k9)) (by simp; exact (Ne.symm KLG.out.2.1))).c 9, (Z9.out.fz (Fz.set w9 c 29 (Value.slice A9 n9 k9)) (by simp; exact (Ne.symm KLG.out.2.1))).c 10, (Z9.out.fz (Fz.set w9 c 29 (Value.slice A9 n9 k9)) (by simp; exact (Ne.symm KLG.out.2.1))).c 11, (Z9.out.fz (Fz.set w9 c 29 (Value.slice A9 n9 k9)) (by simp; exact (Ne.symm KLG.out.2.1))).c 12⟩
          clear hK K
          try simp only [Act.put, List.setIfInBounds_toArray, List.set_cons_zero, List.set_cons_succ, List.getElem_toArray, List.getElem_cons_zero, List.getElem_cons_succ]
          refine wpAnyH_ready (rs := [4]) (by kernel_rfl) (by simp) ?_
          refine AllReadyH.cons rfl (fun K hK => ?_) AllReadyH.nil
          go_simp
          refine hK.out _ _ ?_ (fun hHeld => ?_)
          · first | exact ⟨KZ8.out.c 0, KZ8.out.c 1, KZ8.out.c 2, KZ8.out.c 3, KZ8.out.c 4, KZ8.out.c 5, KZ8.out.c 6, KZ8.out.c 7, KZ8.out.c 8, KZ8.out.c 9, KZ8.out.c 10, KZ8.out.c 11, KZ8.out.c 12⟩ | exact ⟨KZ8b.out.c 0, KZ8b.out.c 1, KZ8b.out.c 2, KZ8b.out.c 3, KZ8b.out.c 4, KZ8b.out.c 5, KZ8b.out.c 6, KZ8b.out.c 7, KZ8b.out.c 8, KZ8b.out.c 9, KZ8b.out.c 10, KZ8b.out.c 11, KZ8b.out.c 12⟩ | exact ⟨Z9.out.c 0, Z9.out.c 1, Z9.out.c 2, Z9.out.c 3, Z9.out.c 4, Z9.out.c 5, Z9.out.c 6, Z9.out.c 7, Z9.out.c 8, Z9.out.c 9, Z9.out.c 10, Z9.out.c 11, Z9.out.c 12⟩ | exact ⟨(Z9.out.fz (Fz.set w9 c 29 (Value.slice A9 n9 k9)) (by simp; exact (Ne.symm KLG.out.2.1))).c 0, (Z9.out.fz (Fz.set w9 c 29 (Value.slice A9 n9 k9)) (by simp; exact (Ne.symm KLG.out.2.1))).c 1, (Z9.out.fz (Fz.set w9 c 29 (Value.slice A9 n9 k9)) (by simp; exact (Ne.symm KLG.out.2.1))).c 2, (Z9.out.fz (Fz.set w9 c 29 (Value.slice A9 n9 k9)) (by simp; exact (Ne.symm KLG.out.2.1))).c 3, (Z9.out.fz (Fz.set w9 c 29 (Value.slice A9 n9 k9)) (by simp; exact (Ne.symm KLG.out.2.1))).c 4, (Z9.out.fz (Fz.set w9 c 29 (Value.slice A9 n9 k9)) (by simp; exact (Ne.symm KLG.out.2.1))).c 5, (Z9.out.fz (Fz.set w9 c 29 (Value.slice A9 n9 k9)) (by simp; exact (Ne.symm KLG.out.2.1))).c 6, (Z9.out.fz (Fz.set w9 c 29 (Value.slice A9 n9 k9)) (by simp; exact (Ne.symm KLG.out.2.1))).c 7, (Z9.out.fz (Fz.set w9 c 29 (Value.slice A9 n9 k9)) (by simp; exact (Ne.symm KLG.out.2.1))).c 8, (Z9.out.fz (Fz.set w9 c 29 (Value.slice A9 n9 k9)) (by simp; exact (Ne.symm KLG.out.2.1))).c 9, (Z9.out.fz (Fz.set w9 c 29 (Value.slice A9 n9 k9)) (by simp; exact (Ne.symm KLG.out.2.1))).c 10, (Z9.out.fz (Fz.set w9 c 29 (Value.slice A9 n9 k9)) (by simp; exact (Ne.symm KLG.out.2.1))).c 11, (Z9.out.fz (Fz.set w9 c 29 (Value.slice A9 n9 k9)) (by simp; exact (Ne.symm KLG.out.2.1))).c 12⟩
          clear hK K
          try simp only [Act.put, List.setIfInBounds_toArray, List.set_cons_zero, List.set_cons_succ, List.getElem_toArray, List.getElem_cons_zero, List.getElem_cons_succ]
          refine wpAnyH_ready (rs := [7]) (by kernel_rfl) (by simp) ?_
          refine AllReadyH.cons rfl (fun K hK => ?_) AllReadyH.nil
          refine step_more rfl (.tmp 83) (.tmp 85) 31 39 rfl Tryz.underlying31 infoSeg rfl (by omega) (by omega) ov rfl _ (segS p1 p2 s go) rfl rfl (fun j u hu => ?_) ?_ (by simp [Value.oneCell']) lo gos.length _ KRW.out (Nat.le_trans (Nat.le_trans HLO.out.1 KLG.out.2.2.1) KSZ.out) (by have := HLO.out.2; omega) ?_
          · exact ((Bk.new w8 (segS p1 p2 s go).toArray 39).c j).trans (Array.getElem?_toList.symm.trans hu)
          · show w8.heap.size < (w8.alloc (.cells (segS p1 p2 s go).toArray 39)).heap.size
            simp
          intro v' w9 ho9 hg9 hv9
          obtain ⟨A9, n9, k9, rfl⟩ : ∃ A n k, v' = Value.slice A n k := by
            rcases ho9.2 with ⟨h, _⟩ | ⟨g, cap, _, h, _⟩
            · exact ⟨_, _, _, h⟩
            · exact ⟨_, _, _, h⟩
          have B9 := Fz.grown hg9
          have NOV : ∀ x, w.heap.size ≤ x ∨ x = c ∨ x = fl → x ∉ ov.ownBlock.toList := fun x hx e => by
            have := HOV.out x (by simpa using e)
            rcases hx with h1 | h1 | h1
            · omega
            · exact this.2.2.1 h1
            · exact this.2.2.2 h1
          have C9 := Keep.mk (KC8.out.fz B9 (NOV _ (.inr (.inl rfl))))
          have F9 := Keep.mk (KF8.out.fz B9 (NOV _ (.inr (.inr rfl))))
          have G9 := Keep.mk (KG8.out.fz B9 (NOV _ (.inl (by have := KLG.out; omega))))
          have Z9 := Keep.mk (KZ8b.out.fz B9 (NOV _ (.inl (by have := KLG.out; omega))))
          have X9 : Keep (Fz W w9 ov.ownBlock.toList) := ⟨(KX8.out.trans B9).mono (by simp)⟩
          have HO9 := Keep.mk ho9
          have HV9 : Keep ((Value.slice A9 n9 k9).ownBlock = ov.ownBlock ∨ ∃ kb, (Value.slice A9 n9 k9).ownBlock = some kb ∧ W.heap.size ≤ kb) := ⟨hv9.imp id fun e => ⟨_, e, KSZ.out⟩⟩
          have d29 : w9.cell? ⟨c, 29, none⟩ = some ov := C9.out.c 29
          have e29 := C9.out.free 29
          clear ho9 hg9 hv9 B9 NOV
          refine hK.out _ _ ?_ (fun hHeld => ?_)
          · first | exact ⟨KZ8.out.c 0, KZ8.out.c 1, KZ8.out.c 2, KZ8.out.c 3, KZ8.out.c 4, KZ8.out.c 5, KZ8.out.c 6, KZ8.out.c 7, KZ8.out.c 8, KZ8.out.c 9, KZ8.out.c 10, KZ8.out.c 11, KZ8.out.c 12⟩ | exact ⟨KZ8b.out.c 0, KZ8b.out.c 1, KZ8b.out.c 2, KZ8b.out.c 3, KZ8b.out.c 4, KZ8b.out.c 5, KZ8b.out.c 6, KZ8b.out.c 7, KZ8b.out.c 8, KZ8b.out.c 9, KZ8b.out.c 10, KZ8b.out.c 11, KZ8b.out.c 12⟩ | exact ⟨Z9.out.c 0, Z9.out.c 1, Z9.out.c 2, Z9.out.c 3, Z9.out.c 4, Z9.out.c 5, Z9.out.c 6, Z9.out.c 7, Z9.out.c 8, Z9.out.c 9, Z9.out.c 10, Z9.out.c 11, Z9.out.c 12⟩ | exact ⟨(Z9.out.fz (Fz.set w9 c 29 (Value.slice A9 n9 k9)) (by simp; exact (Ne.symm KLG.out.2.1))).c 0, (Z9.out.fz (Fz.set w9 c 29 (Value.slice A9 n9 k9)) (by simp; exact (Ne.symm KLG.out.2.1))).c 1, (Z9.out.fz (Fz.set w9 c 29 (Value.slice A9 n9 k9)) (by simp; exact (Ne.symm KLG.out.2.1))).c 2, (Z9.out.fz (Fz.set w9 c 29 (Value.slice A9 n9 k9)) (by simp; exact (Ne.symm KLG.out.2.1))).c 3, (Z9.out.fz (Fz.set w9 c 29 (Value.slice A9 n9 k9)) (by simp; exact (Ne.symm KLG.out.2.1))).c 4, (Z9.out.fz (Fz.set w9 c 29 (Value.slice A9 n9 k9)) (by simp; exact (Ne.symm KLG.out.2.1))).c 5, (Z9.out.fz (Fz.set w9 c 29 (Value.slice A9 n9 k9)) (by simp; exact (Ne.symm KLG.out.2.1))).c 6, (Z9.out.fz (Fz.set w9 c 29 (Value.slice A9 n9 k9)) (by simp; exact (Ne.symm KLG.out.2.1))).c 7, (Z9.out.fz (Fz.set w9 c 29 (Value.slice A9 n9 k9)) (by simp; exact (Ne.symm KLG.out.2.1))).c 8, (Z9.out.fz (Fz.set w9 c 29 (Value.slice A9 n9 k9)) (by simp; exact (Ne.symm KLG.out.2.1))).c 9, (Z9.out.fz (Fz.set w9 c 29 (Value.slice A9 n9 k9)) (by simp; exact (Ne.symm KLG.out.2.1))).c 10, (Z9.out.fz (Fz.set w9 c 29 (Value.slice A9 n9 k9)) (by simp; exact (Ne.symm KLG.out.2.1))).c 11, (Z9.out.fz (Fz.set w9 c 29 (Value.slice A9 n9 k9)) (by simp; exact (Ne.symm KLG.out.2.1))).c 12⟩
          clear hK K
          try simp only [Act.put, List.setIfInBounds_toArray, List.set_cons_zero, List.set_cons_succ, List.getElem_toArray, List.getElem_cons_zero, List.getElem_cons_succ]
          refine wpAnyH_take (i := 8) (v := ?_) rfl (by kernel_rfl) (by kernel_rfl) (by kernel_rfl) (fun _ _ _ h => h) (Or.inl ⟨by rfl, ?_⟩) (by assumption) ?_
          rotate_left
          · intro w hSw; go_simp; (try with_reducible rfl)
          try simp only [Act.put, List.setIfInBounds_toArray, List.set_cons_zero, List.set_cons_succ, List.getElem_toArray, List.getElem_cons_zero, List.getElem_cons_succ]
          refine wpAnyH_take (i := 9) (v := ?_) rfl (by kernel_rfl) (by kernel_rfl) (by kernel_rfl) (fun _ _ _ h => h) (Or.inl ⟨by rfl, ?_⟩) (by assumption) ?_
          rotate_left
          · intro w hSw; go_simp; (try with_reducible rfl)
          try simp only [Act.put, List.setIfInBounds_toArray, List.set_cons_zero, List.set_cons_succ, List.getElem_toArray, List.getElem_cons_zero, List.getElem_cons_succ]
          refine wpAnyH_ready (rs := [10]) (by kernel_rfl) (by simp) ?_
          refine AllReadyH.cons rfl (fun K hK => ?_) AllReadyH.nil
          go_simp
          refine hK.out _ _ ?_ (fun hHeld => ?_)
          · first | exact ⟨KZ8.out.c 0, KZ8.out.c 1, KZ8.out.c 2, KZ8.out.c 3, KZ8.out.c 4, KZ8.out.c 5, KZ8.out.c 6, KZ8.out.c 7, KZ8.out.c 8, KZ8.out.c 9, KZ8.out.c 10, KZ8.out.c 11, KZ8.out.c 12⟩ | exact ⟨KZ8b.out.c 0, KZ8b.out.c 1, KZ8b.out.c 2, KZ8b.out.c 3, KZ8b.out.c 4, KZ8b.out.c 5, KZ8b.out.c 6, KZ8b.out.c 7, KZ8b.out.c 8, KZ8b.out.c 9, KZ8b.out.c 10, KZ8b.out.c 11, KZ8b.out.c 12⟩ | exact ⟨Z9.out.c 0, Z9.out.c 1, Z9.out.c 2, Z9.out.c 3, Z9.out.c 4, Z9.out.c 5, Z9.out.c 6, Z9.out.c 7, Z9.out.c 8, Z9.out.c 9, Z9.out.c 10, Z9.out.c 11, Z9.out.c 12⟩ | exact ⟨(Z9.out.fz (Fz.set w9 c 29 (Value.slice A9 n9 k9)) (by simp; exact (Ne.symm KLG.out.2.1))).c 0, (Z9.out.fz (Fz.set w9 c 29 (Value.slice A9 n9 k9)) (by simp; exact (Ne.symm KLG.out.2.1))).c 1, (Z9.out.fz (Fz.set w9 c 29 (Value.slice A9 n9 k9)) (by simp; exact (Ne.symm KLG.out.2.1))).c 2, (Z9.out.fz (Fz.set w9 c 29 (Value.slice A9 n9 k9)) (by simp; exact (Ne.symm KLG.out.2.1))).c 3, (Z9.out.fz (Fz.set w9 c 29 (Value.slice A9 n9 k9)) (by simp; exact (Ne.symm KLG.out.2.1))).c 4, (Z9.out.fz (Fz.set w9 c 29 (Value.slice A9 n9 k9)) (by simp; exact (Ne.symm KLG.out.2.1))).c 5, (Z9.out.fz (Fz.set w9 c 29 (Value.slice A9 n9 k9)) (by simp; exact (Ne.symm KLG.out.2.1))).c 6, (Z9.out.fz (Fz.set w9 c 29 (Value.slice A9 n9 k9)) (by simp; exact (Ne.symm KLG.out.2.1))).c 7, (Z9.out.fz (Fz.set w9 c 29 (Value.slice A9 n9 k9)) (by simp; exact (Ne.symm KLG.out.2.1))).c 8, (Z9.out.fz (Fz.set w9 c 29 (Value.slice A9 n9 k9)) (by simp; exact (Ne.symm KLG.out.2.1))).c 9, (Z9.out.fz (Fz.set w9 c 29 (Value.slice A9 n9 k9)) (by simp; exact (Ne.symm KLG.out.2.1))).c 10, (Z9.out.fz (Fz.set w9 c 29 (Value.slice A9 n9 k9)) (by simp; exact (Ne.symm KLG.out.2.1))).c 11, (Z9.out.fz (Fz.set w9 c 29 (Value.slice A9 n9 k9)) (by simp; exact (Ne.symm KLG.out.2.1))).c 12⟩
          clear hK K
          try simp only [Act.put, List.setIfInBounds_toArray, List.set_cons_zero, List.set_cons_succ, List.getElem_toArray, List.getElem_cons_zero, List.getElem_cons_succ]
          refine wpAnyH_done (by kernel_rfl) ?_ _
          refine NoPanic.normal ?_
          go_wp2_with fail
          go_roundw
          case rel =>
            refine .inr ⟨by go_num, ⟨(Value.slice A9 n9 k9), go, ?_⟩⟩
            have LC := C2.out.lt
            have LF := F2.out.lt
            have LW := HS2.out
            have LE := E2.out.size
            have T9 := Fz.set w9 c 29 (Value.slice A9 n9 k9)
            have FT : Fz w (w9.setCell ⟨c, 29, none⟩ (Value.slice A9 n9 k9)) (c :: fl :: ov.ownBlock.toList) := ((E2.out.trans X9.out).trans T9).mono (fun x _ hx => by
              simp only [List.mem_append, List.mem_cons, List.not_mem_nil, or_false] at hx
              rcases hx with (rfl | hx) | rfl
              · simp
              · simp only [List.mem_cons]; exact .inr (.inr hx)
              · simp)
            refine ⟨C9.out.set 29 _, F9.out.fz T9 (by simp; exact fun e => HND.out.1.2.2 e.symm), ⟨?_, fun x hx => ?_⟩, fun x hx => ?_, fun kb e => ?_, FT⟩
            · have hr := own_blockW HO9.out (w' := w9.setCell ⟨c, 29, none⟩ (Value.slice A9 n9 k9)) fun kb e => T9.block kb (let ⟨_, _, h2⟩ := own_ty HO9.out e; h2.lt) (by
                rcases HV9.out with h1 | ⟨kb', h1, h2⟩
                · simp; exact (HOV.out kb (h1 ▸ e)).2.2.1
                · rw [h1] at e; injection e with e; subst e; simp; omega)
              rw [List.length_append, List.flatMap_append]
              simpa using hr
            · rcases List.mem_append.1 hx with h1 | h1
              · exact (HOW.out.opt x h1).fz FT (by simp only [List.mem_cons, not_or]; exact HGT.out x h1)
              · obtain rfl : x = go := by simpa using h1
                exact G9.out.fz T9 (by simp; have := KLG.out.1; omega)
            · rcases List.mem_append.1 hx with h1 | h1
              · exact .inl h1
              · obtain rfl : x = go := by simpa using h1
                exact .inr (by have := KLG.out; omega)
            · rcases HV9.out with h1 | ⟨kb', h1, h2⟩
              · exact .inl (h1 ▸ e)
              · rw [h1] at e; injection e with e; subst e; exact .inr (by omega)
          case measure => simp [intOf]
      -- end reg
    · go_wp2_with fail
      go_end0
      exact ⟨rfl, HP.out⟩
set_option maxRecDepth 100000 in
set_option maxHeartbeats 1600000 in
theorem flush_nil (s : Int) (h : Bk w c (conD p1 p2 k sd rv pb lg wb ov) 68) (hl : Bk w lg (legC fl) 61) (hf : Bk w fl (flC q times 1 rcv tries at_ has since twice (.slice none 0 0)) 105) (hne : c ≠ fl) (hov : Outs w lo p1 p2 k s ov gos) :
    Calls Tryz.prog 77 #[.pointer (some ⟨c, 0, none⟩), .pointer (some ⟨lg, 0, none⟩), .slice none 0 0] w fun e w' => e = .returned (.tuple #[]) ∧ Flu w w' lo c fl p1 p2 k s sd rv pb lg wb (flC q times 1 rcv tries at_ has since twice (.slice none 0 0)) ov ov gos gos := by
  have c0l : w.cell? ⟨lg, 0, none⟩ = some (.pointer (some ⟨fl, 0, none⟩)) := hl.c 0
  have FO := Keep.mk (fout_any hf none 0 0 rfl)
  have HK : Keep (∀ w1, Bk w1 fl (flC q times 1 rcv tries at_ has since twice (.slice none 0 0)) 105 → Fz w w1 [fl] → Flu w w1 lo c fl p1 p2 k s sd rv pb lg wb (flC q times 1 rcv tries at_ has since twice (.slice none 0 0)) ov ov gos gos) := ⟨fun w1 f1 e1 => ⟨h.fz e1 (by simp; exact hne), f1, hov.keep (fun kb hk => e1.block kb (hov.lt' hk) (by simp; exact hov.ne' hf (by decide) (by decide) hk)), fun _ h => Or.inl h, fun _ h => Or.inl h, e1.mono (fun x _ hx => by simp at hx; subst hx; simp)⟩⟩
  clear h hl hf hne hov
  go_enter Tryz.func77, Tryz.ntmps77
  go_wp2_with (first
    | (go_at_call 99
       go_loud (refine FO.out.mono ?_; rintro e w1 ⟨rfl, f1, e1⟩)
       have K1 := Keep.mk (HK.out w1 f1 e1)
       clear f1 e1)
    | fail)
  clear c0l
  go_loopw [17] (fun i wr => i = .int .i64 0 ∧ wr = w1) (fun i _ => 1 - (intOf i).toNat)
  case atStart => exact ⟨rfl, rfl⟩
  case round =>
    obtain ⟨rfl, rfl⟩ := hrel
    go_wp2_with fail
    go_end0
    exact ⟨rfl, K1.out⟩
end
end Go.Proofs.YtcjanieeepcddaaGreatDoor
