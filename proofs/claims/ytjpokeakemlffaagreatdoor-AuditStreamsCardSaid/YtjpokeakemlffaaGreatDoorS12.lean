/-
  Walks and laws, one behind the other (part 12).
-/
import Derived.Deep.RegionHeld3
import Derived.Deep.RegionLaw
import Derived.IntWalk
import Derived.Test.YtjpokeakemlffaaGreatDoorS10
import Derived.Test.YtjpokeakemlffaaGreatDoorS11
set_option linter.unusedSimpArgs false
set_option linter.unusedVariables false
/-
  The contract of nested.lay.
-/
namespace Go.Proofs.YtjpokeakemlffaaGreatDoor
open Go.RowKit
def layN (now : Int) (N : Nat → List Due) : List Due → Nat → List Due
  | [] => N
  | d :: l => layN now (put N (pl now d.2) (N (pl now d.2) ++ [d])) l
theorem layN_snoc (now : Int) (d : Due) : ∀ (l : List Due) (N : Nat → List Due), layN now N (l ++ [d]) = put (layN now N l) (pl now d.2) (layN now N l (pl now d.2) ++ [d])
  | [], _ => rfl
  | _ :: r, _ => layN_snoc now d r _
theorem layN_length (now : Int) (K : Nat) : ∀ (l : List Due) (N : Nat → List Due), (∀ i, (N i).length ≤ K) → ∀ i, (layN now N l i).length ≤ K + l.length
  | [], N, h, i => h i
  | x :: r, N, h, i => by
    have := layN_length now (K + 1) r (put N (pl now x.2) (N (pl now x.2) ++ [x])) (fun j => by
      by_cases e : j = pl now x.2
      · subst e; rw [put_same]; have := h (pl now x.2); simp; omega
      · rw [put_other _ _ e]; have := h j; omega) i
    simp only [layN, List.length_cons]
    omega
structure Fr (w w' : World) (b : Nat) (S S' : Nat → Value) : Prop where
  os : w'.os = w.os
  tape : w'.tape = w.tape
  output : w'.output = w.output
  size : w.heap.size ≤ w'.heap.size
  block : ∀ k, k < w.heap.size → k ≠ b → (∀ i, i < 49 → (S i).ownBlock ≠ some k) → w'.heap[k]? = w.heap[k]?
  new : ∀ i, i < 49 → ∀ k, (S' i).ownBlock = some k → (∃ j, j < 49 ∧ (S j).ownBlock = some k) ∨ w.heap.size ≤ k
theorem Fr.refl (w : World) (b : Nat) (S : Nat → Value) : Fr w w b S S := ⟨rfl, rfl, rfl, Nat.le_refl _, fun _ _ _ _ => rfl, fun i hi _ e => .inl ⟨i, hi, e⟩⟩
theorem Fr.trans {w w' w'' : World} {b : Nat} {S S' S'' : Nat → Value} (h : Fr w w' b S S') (h' : Fr w' w'' b S' S'') : Fr w w'' b S S'' where
  os := h'.os.trans h.os
  tape := h'.tape.trans h.tape
  output := h'.output.trans h.output
  size := Nat.le_trans h.size h'.size
  block := fun k hk hb hS => (h'.block k (Nat.lt_of_lt_of_le hk h.size) hb (fun i hi e => by
    rcases h.new i hi k e with ⟨j, hj, ej⟩ | hl
    · exact hS j hj ej
    · omega)).trans (h.block k hk hb hS)
  new := fun i hi k e => by
    rcases h'.new i hi k e with ⟨j, hj, ej⟩ | hl
    · exact h.new j hj k ej
    · exact .inr (Nat.le_trans h.size hl)
theorem Fr.below {w w' : World} {base b : Nat} {S S' : Nat → Value} (h : Fr w w' b S S') (hb : base ≤ b) (hS : ∀ i, i < 49 → ∀ k, (S i).ownBlock = some k → base ≤ k) (hbase : base ≤ w.heap.size) : Below base w w' where
  os := h.os
  tape := h.tape
  output := h.output
  size := h.size
  block := fun k hk => h.block k (by omega) (by omega) (fun i hi e => by have := hS i hi k e; omega)
theorem Fr.quiet {w w' : World} (h : Below w.heap.size w w') (b : Nat) (S : Nat → Value) : Fr w w' b S S :=
  ⟨h.os, h.tape, h.output, h.size, fun k hk _ _ => h.block k hk, fun i hi _ e => .inl ⟨i, hi, e⟩⟩
theorem Fr.appended {w w' : World} {base b m : Nat} {S : Nat → Value} {N : Nat → List Due} {now : Int} (_ : WSt w base b m S N now) {i : Nat} (hi : i < 49) {v' : Value}
    (hg : w.grownBy w' (S i).ownBlock) (hbl : v'.ownBlock = none ∨ v'.ownBlock = (S i).ownBlock ∨ v'.ownBlock = some w.heap.size) : Fr w (w'.setCell ⟨b, i, none⟩ v') b S (put S i v') where
  os := hg.os
  tape := hg.tape
  output := hg.output
  size := by simpa using hg.size
  block := fun k hk hkb hS => (Below.heap_setCell w' _ v' k hkb).trans (hg.block k hk (fun e => hS i hi e.symm))
  new := fun j hj k e => by
    by_cases ej : j = i
    · subst ej
      rw [put_same] at e
      rcases hbl with h | h | h
      · rw [h] at e; cases e
      · exact .inl ⟨j, hj, h ▸ e⟩
      · rw [h] at e; cases e; exact .inr (Nat.le_refl _)
    · rw [put_other S v' ej] at e; exact .inl ⟨j, hj, e⟩
theorem infoD : (Tryz.prog.info? 195).map (fun i => (i.zero, i.size, i.bytes)) = some (some (.agg #[.int .i64 0, .int .i64 0]), 2, 16) := by kernel_rfl
theorem dueOne (d : Due) : ∀ u ∈ dueC d, u.oneCell' = true := by simp [dueC, Value.oneCell']
theorem step_append_due {ops : Array Oper} {o : Oper} {a : Act} {K : Act → World → Prop} {Q : Exit → Act → World → Prop} {E : Prop} {w : World} (hgd : o.guard = none) (s x : Operand) (t : TypeId)
    (ho : o.op = .call { callee := .builtin .append, args := #[s, x], argTypes := #[t, t] }) (ht : Tryz.prog.underlying t = some (.slice 195))
    (base : Nat) (v : Value) (n : Nat) (xs : List Due) (hs : a.eval s = v) (hown : w.ownsRow base 195 2 v n (xs.flatMap dueC))
    (g : Nat) (d : Due) (hx : a.eval x = .slice (some ⟨g, 0, none⟩) 1 1) (tt : TypeId) (hg : w.heap[g]? = some (.cells #[.int .i64 d.1, .int .i64 d.2] tt (0, 0)))
    (hn : n ≤ 1000000) (hbase : base ≤ w.heap.size)
    (h : ∀ v' w', w'.ownsRow base 195 2 v' (n + 1) ((xs ++ [d]).flatMap dueC) → w.grownBy w' v.ownBlock → (v'.ownBlock = v.ownBlock ∨ v'.ownBlock = some w.heap.size) → K (a.put o.dst v') w') :
    if Region.wanted o (yielded ops a.tmps) = true then Oper.wp Tryz.prog o a w K Q else E := by
  obtain ⟨i0, hi, hz0, hz1, hz2⟩ := info_parts infoD
  have hr : Rd w w.heap.size 2 dueC (some ⟨g, 0, none⟩) [d] := fun _ => ⟨g, 0, rfl, lt_of_block hg, fun i y hy j u hu => by
    cases i with
    | zero =>
      have : d = y := by simpa using hy
      subst this
      rw [cell_of_row w g _ _ tt (0, 0) hg]
      simpa [dueC] using hu
    | succ i => simp at hy⟩
  refine step_append_rd (by simp [Region.wanted, hgd]) s x t ho base 195 i0 _ 2 16 ht hi hz0 hz1 hz2 rfl (by decide) v n _ hs hown _ 1 1 _ dueC [d] hx (by intro e; cases e) rfl dueC_length hr dueOne (by unfold maxLen; omega) (by omega) hbase ?_
  intro v' w' h1 h2 h3
  exact h v' w' (by rw [List.flatMap_append]; exact h1) h2 h3
set_option maxHeartbeats 1600000 in
theorem lay_any (base b m : Nat) (S : Nat → Value) (N : Nat → List Due) (now : Int) (A : Option Addr) (c : Nat) (l : List Due) (w : World) (h : WSt w base b m S N now) (hbase : base ≤ w.heap.size)
    (hn : 0 ≤ now) (hn2 : now < 4611686018427387904) (hl : ∀ d ∈ l, 0 ≤ d.2 ∧ d.2 < 4611686018427387904) (K : Nat) (hK : ∀ i, (N i).length ≤ K) (hKl : K + l.length ≤ 1000000)
    (hA : l ≠ [] → ∃ g off, A = some ⟨g, off, none⟩ ∧ g < w.heap.size ∧ g ≠ b ∧ (∀ i, i < 49 → (S i).ownBlock ≠ some g) ∧ ∀ i x, l[i]? = some x → ∀ j v, (dueC x)[j]? = some v → w.cell? ⟨g, off + i * 2 + j, none⟩ = some v) :
    Calls Tryz.prog 228 #[.pointer (some ⟨b, 0, none⟩), .slice A l.length c] w fun e w' => (∃ u, e = .returned u) ∧ ∃ S', WSt w' base b m S' (layN now N l) now ∧ Fr w w' b S S' := by
  obtain ⟨i0, hi, hz0, hz1, hz2⟩ := info_parts infoD
  have HH := Lib.hid h
  have HA := Lib.hid hA
  have HL := Lib.hid hl
  have HK := Lib.hid hK
  clear h hA hl hK
  go_enter Tryz.func228, Tryz.ntmps228
  go_wp2
  go_loopw [9] (fun i wr => ∃ (k : Nat) (S' : Nat → Value), k ≤ l.length ∧ i = .int .i64 k ∧ WSt wr base b m S' (layN now N (l.take k)) now ∧ Fr w wr b S S') (fun i _ => l.length - (intOf i).toNat)
  case atStart => exact ⟨0, S, by omega, rfl, HH.out, Fr.refl _ _ _⟩
  case round =>
    obtain ⟨k, S', hk, rfl, hst, hfr⟩ := hrel
    by_cases hlt : k < l.length
    · obtain ⟨g, off, rfl, hg, hgb, hgS, hc⟩ := HA.out (List.ne_nil_of_length_pos (by omega))
      obtain ⟨d, hd⟩ : ∃ d, l[k] = d := ⟨_, rfl⟩
      have hlk : l[k]? = some d := by rw [List.getElem?_eq_getElem hlt, hd]
      have hgw : wr.heap[g]? = w.heap[g]? := hfr.block g hg hgb hgS
      have c0 : wr.cell? ⟨g, off + k * 2, none⟩ = some (.int .i64 d.1) := (World.cell?_of_block hgw).trans (hc k d hlk 0 _ rfl)
      have c1 : wr.cell? ⟨g, off + k * 2 + 1, none⟩ = some (.int .i64 d.2) := (World.cell?_of_block hgw).trans (hc k d hlk 1 _ rfl)
      obtain ⟨hd0, hd1⟩ := HL.out d (List.mem_of_getElem? hlk)
      have HST := Lib.hid hst
      have HFR := Lib.hid hfr
      have hlti : ((k : Nat) : Int) < (l.length : Int) := by omega
      have hsz2 : (Tryz.prog.info? 195).map (·.size) = some 2 := by kernel_rfl
      clear hc hst hfr hgS hgw
      go_wp2_with (first
        | (go_at_call 282; refine (place_any b now d.2 _ hn hn2 hd0 hd1 ?_).mono ?_; rotate_left; rintro e w' ⟨rfl, rfl⟩)
        | fail)
      case refine_1 => exact (HST.out.alloc _).tickC
      have HST2 := Lib.hid (HST.out.alloc (.cells #[.int .i64 d.1, .int .i64 d.2] 195))
      have HFR2 := Lib.hid (HFR.out.trans (Fr.quiet ((Below.refl wr.heap.size wr).alloc (Nat.le_refl _) (.cells #[.int .i64 d.1, .int .i64 d.2] 195)) b S'))
      have e0 : (wr.alloc (.cells #[.int .i64 d.1, .int .i64 d.2] 195)).cell? ⟨wr.heap.size, 0, none⟩ = some (.int .i64 d.1) := by rw [World.cell?_alloc_new]; rfl
      have e1 : (wr.alloc (.cells #[.int .i64 d.1, .int .i64 d.2] 195)).cell? ⟨wr.heap.size, 1, none⟩ = some (.int .i64 d.2) := by rw [World.cell?_alloc_new]; rfl
      have hq := pl_lt now d.2
      obtain ⟨q, hqe⟩ : ∃ q, pl now d.2 = q := ⟨_, rfl⟩
      have HQ := Keep.mk hqe
      rw [hqe] at hq ⊢
      have hlen := layN_length now K (l.take k) N HK.out q
      rw [List.length_take] at hlen
      have hlen2 : (layN now N (l.take k) q).length ≤ 1000000 := by omega
      have cq := HST2.out.cell q hq
      have fq := HST2.out.free q
      obtain ⟨Aq, nq, cqq, hqv⟩ : ∃ A n c, S' q = .slice A n c := by obtain ⟨A, c, e, _⟩ := own_slice (HST2.out.rows q hq); exact ⟨A, _, c, e⟩
      clear hqe hlen c0 c1
      generalize hW : wr.alloc (.cells #[.int .i64 d.1, .int .i64 d.2] 195) = w2 at *
      have HSq : Keep (w2.ownsRow base 195 2 (.slice Aq nq cqq) _ _) := ⟨hqv ▸ HST2.out.rows q hq⟩
      have HNE : Keep (some b ≠ (Value.slice Aq nq cqq).ownBlock) := ⟨hqv ▸ fun e => (HST2.out.off q hq).1 e.symm⟩
      have HBL : Keep (b < w2.heap.size) := ⟨HST2.out.blt⟩
      have hw2s : wr.heap.size < w2.heap.size := by rw [← hW]; simp
      have cqA : (w2.alloc (.cells #[.int .i64 d.1, .int .i64 d.2] 195)).cell? ⟨b, q, none⟩ = some (S' q) := (HST2.out.alloc _).cell q hq
      have e0A : (w2.alloc (.cells #[.int .i64 d.1, .int .i64 d.2] 195)).cell? ⟨wr.heap.size, 0, none⟩ = some (.int .i64 d.1) := (World.cell?_alloc_lt w2 _ ⟨wr.heap.size, 0, none⟩ hw2s).trans e0
      have e1A : (w2.alloc (.cells #[.int .i64 d.1, .int .i64 d.2] 195)).cell? ⟨wr.heap.size, 1, none⟩ = some (.int .i64 d.2) := (World.cell?_alloc_lt w2 _ ⟨wr.heap.size, 1, none⟩ hw2s).trans e1
      have hbs2 : base ≤ w2.heap.size := by have := HFR2.out.size; omega
      go_region_law (first
        | (refine step_append_due rfl (.tmp 20) (.tmp 22) 192 rfl Tryz.underlying192 base (.slice Aq nq cqq) _ _ rfl (by first | exact (HSq.out.alloc _).drew | exact HSq.out.drew.alloc _) w2.heap.size d rfl 195 (heap_alloc_new _ _) hlen2 (by simp; omega) ?_
           intro v3 w3 hown3 hgr3 hat3
           obtain ⟨A3, c3, rfl, _⟩ := own_slice hown3
           have cq3 : w3.cell? ⟨b, q, none⟩ = some (S' q) := hgr3.cell (by first | exact ((HST2.out.alloc _).drew 1).cell q hq | exact ((HST2.out.drew 1).alloc _).cell q hq) HNE.out
           have fq3 : w3.frozen? ⟨b, q, none⟩ = false := (World.frozen?_of_block (hgr3.block b (by have := HBL.out; simp; omega) HNE.out)).trans (by first | exact ((HST2.out.alloc _).drew 1).free q | exact ((HST2.out.drew 1).alloc _).free q)
           have HO3 := Lib.hid hown3
           have HG3 := Keep.mk hgr3
           have HA3 := Keep.mk hat3
           clear hown3 hgr3 hat3)
        | fail)
      all_goals
        have hw : ∀ W4 : World, W4.heap = (w2.alloc (.cells #[.int .i64 d.1, .int .i64 d.2] 195)).heap → True := fun _ _ => trivial
        clear hw cqA e0A e1A e0 e1 cq fq hsz2
        go_wp2_with fail
        go_roundw
        case rel =>
          have H4 := (HST2.out.alloc (.cells #[.int .i64 d.1, .int .i64 d.2] 195)).drew 1
          have F4 := HFR2.out.trans (Fr.quiet (((Below.refl w2.heap.size w2).alloc (Nat.le_refl _) (.cells #[.int .i64 d.1, .int .i64 d.2] 195)).drew) b S')
          have hg4 := HG3.out
          have ha4 := HA3.out
          rw [← hqv] at hg4 ha4
          have hlq : (layN now N (l.take k) q ++ [d]).length = (layN now N (l.take k) q).length + 1 := by simp
          have ho := HO3.out
          have ha5 := ha4
          rw [← hlq] at ho ha5
          refine ⟨k + 1, put S' q _, by omega, by go_num, ?_, F4.trans (Fr.appended H4 hq hg4 (.inr ha4))⟩
          have hx := H4.appended hq ho hg4 (.inr ha5)
          have ht : l.take (k + 1) = l.take k ++ [d] := by rw [List.take_succ_eq_append_getElem hlt, hd]
          rw [ht, layN_snoc, HQ.out]
          rw [hlq] at hx
          exact hx
        case measure => simp [intOf] <;> omega
    · have hge : k = l.length := by omega
      have HST := Lib.hid hst
      have HFR := Lib.hid hfr
      clear hst hfr
      go_wp2
      refine bodyPost_end (results_none rfl _ _ _) rfl ?_
      exact ⟨⟨_, rfl⟩, S', by have := HST.out; rwa [hge, List.take_length] at this, HFR.out⟩
end Go.Proofs.YtjpokeakemlffaaGreatDoor
/-
  The contracts of ring.empty and nested.step.
-/
namespace Go.Proofs.YtjpokeakemlffaaGreatDoor
open Go.RowKit
def again (c : Prop) [Decidable c] (now : Int) (i : Nat) (N : Nat → List Due) : Nat → List Due := if c then layN now (put N i []) (N i) else N
def prep (n : Int) (N : Nat → List Due) : Nat → List Due :=
  again (n % 16 = 0) n (16 + (n / 16 % 16).toNat) (again (n % 256 = 0) n (32 + (n / 16 / 16 % 16).toNat) (again (n % 4096 = 0) n 48 N))
structure Stepped (w w' : World) (base b m : Nat) (S : Nat → Value) (N : Nat → List Due) (now : Int) (A : Option Addr) (n c : Nat) (S' : Nat → Value) : Prop where
  st : WSt w' base b m S' (put (prep now N) (now % 16).toNat []) now
  len : n = (prep now N (now % 16).toNat).length
  out : w'.ownsRow base 195 2 (.slice A n c) n ((prep now N (now % 16).toNat).flatMap dueC)
  apart : ∀ i, i < 49 → Apt (.slice A n c) (S' i)
  off : (Value.slice A n c).ownBlock ≠ some b ∧ (Value.slice A n c).ownBlock ≠ some m
  fr : Fr w w' b S S'
  new : ∀ k, (Value.slice A n c).ownBlock = some k → (∃ j, j < 49 ∧ (S j).ownBlock = some k) ∨ w.heap.size ≤ k
theorem Fr.drew (w : World) (b : Nat) (S : Nat → Value) (k : Nat) : Fr w (w.drewN k) b S S :=
  ⟨rfl, rfl, rfl, Nat.le_refl _, fun _ _ _ _ => rfl, fun i hi _ e => .inl ⟨i, hi, e⟩⟩
end Go.Proofs.YtjpokeakemlffaaGreatDoor
/-
  The contract of nested.step where a middle list is laid anew.
-/
namespace Go.Proofs.YtjpokeakemlffaaGreatDoor
open Go.RowKit
end Go.Proofs.YtjpokeakemlffaaGreatDoor
/-
  The contract of nested.step where outer lists are laid anew.
-/
namespace Go.Proofs.YtjpokeakemlffaaGreatDoor
open Go.RowKit
def relay (now : Int) (i : Nat) (N : Nat → List Due) : Nat → List Due := layN now (put N i []) (N i)
end Go.Proofs.YtjpokeakemlffaaGreatDoor
/-
  The contract of nested.step where what is far is laid anew; and of every step.
-/
namespace Go.Proofs.YtjpokeakemlffaaGreatDoor
open Go.RowKit
end Go.Proofs.YtjpokeakemlffaaGreatDoor
/-
  The contracts of Cancel's closure, and of slices.IndexFunc with it.
-/
namespace Go.Proofs.YtjpokeakemlffaaGreatDoor
open Go.RowKit
theorem same_any (g : Nat) (h : Int) (d : Due) (w : World) (hg : g < w.heap.size) (hc : w.cell? ⟨g, 0, none⟩ = some (.int .i64 h)) :
    Calls Tryz.prog 284 #[.agg #[.int .i64 d.1, .int .i64 d.2], .pointer (some ⟨g, 0, none⟩)] w fun e w' => e = .returned (.bool (decide (d.1 = h))) ∧ Below w.heap.size w w' := by
  have hne : g ≠ w.heap.size := by omega
  by_cases hd : d.1 = h
  · go_enter Tryz.func284, Tryz.ntmps284
    go_wp2_with fail
    go_ret
    exact ⟨by simp [hd], (Below.refl _ w).alloc (Nat.le_refl _) _⟩
  · go_enter Tryz.func284, Tryz.ntmps284
    go_wp2_with fail
    go_ret
    exact ⟨by simp [hd], (Below.refl _ w).alloc (Nat.le_refl _) _⟩
set_option maxHeartbeats 1600000 in
theorem index_any (g : Nat) (h : Int) (A : Option Addr) (c : Nat) (l : List Due) (w : World) (hg : g < w.heap.size) (hc : w.cell? ⟨g, 0, none⟩ = some (.int .i64 h))
    (hr : Rd w w.heap.size 2 dueC A l) (hl : l.length ≤ 1000000) :
    Calls Tryz.prog 328 #[.slice A l.length c, .func (.func 284) #[] #[.pointer (some ⟨g, 0, none⟩)]] w fun e w' => Below w.heap.size w w' ∧ ∃ i : Int, e = .returned (.int .i64 i) ∧
      ((i = -1 ∧ ∀ d ∈ l, d.1 ≠ h) ∨ ∃ k, k < l.length ∧ i = (k : Int) ∧ (∃ d, l[k]? = some d ∧ d.1 = h) ∧ ∀ d ∈ l.take k, d.1 ≠ h) := by
  have HR := Lib.hid hr
  have HC := Keep.mk hc
  clear hr hc
  go_enter Tryz.func328, Tryz.ntmps328
  go_wp2
  go_loopw [5, 8] (fun _ i wr => ∃ k : Nat, k ≤ l.length ∧ i = .int .i64 k ∧ Below w.heap.size w wr ∧ Keep (∀ d ∈ l.take k, d.1 ≠ h)) (fun _ i _ => l.length - (intOf i).toNat)
  case atStart => exact ⟨0, by omega, rfl, Below.refl _ _, ⟨by simp⟩⟩
  case round =>
    obtain ⟨k, hk, rfl, hb, HT⟩ := hrel
    by_cases hlt : k < l.length
    · obtain ⟨g1, off, rfl, hg1, hcs⟩ := HR.out (List.ne_nil_of_length_pos (by omega))
      obtain ⟨d, hd⟩ : ∃ d, l[k] = d := ⟨_, rfl⟩
      have hlk : l[k]? = some d := by rw [List.getElem?_eq_getElem hlt, hd]
      have c0 : wr.cell? ⟨g1, off + k * 2, none⟩ = some (.int .i64 d.1) := (hb.cell hg1).trans (hcs k d hlk 0 _ rfl)
      have c1 : wr.cell? ⟨g1, off + k * 2 + 1, none⟩ = some (.int .i64 d.2) := (hb.cell hg1).trans (hcs k d hlk 1 _ rfl)
      have hs := same_any g h d wr (Nat.lt_of_lt_of_le hg hb.size) ((hb.cell hg).trans HC.out)
      have HLK := Keep.mk hlk
      have HB := Keep.mk hb
      have hlti : ((k : Nat) : Int) < (l.length : Int) := by omega
      clear hcs hb hlk hd
      by_cases he : d.1 = h
      · rw [decide_eq_true he] at hs
        have HS := Keep.mk hs
        have HE := Keep.mk he
        clear hs he
        go_wp2_with (first | (go_at_call 284; go_loud (refine HS.out.mono ?_; rintro e w' ⟨rfl, hb'⟩); have HB' := Keep.mk hb'; clear hb') | fail)
        go_ret
        exact ⟨HB.out.trans (HB'.out.mono HB.out.size), k, rfl, .inr ⟨k, hlt, rfl, ⟨d, HLK.out, HE.out⟩, HT.out⟩⟩
      · rw [decide_eq_false he] at hs
        have HS := Keep.mk hs
        have HE := Keep.mk he
        clear hs he
        go_wp2_with (first | (go_at_call 284; go_loud (refine HS.out.mono ?_; rintro e w' ⟨rfl, hb'⟩); have HB' := Keep.mk hb'; clear hb') | fail)
        go_roundw
        case rel =>
          refine ⟨k + 1, by omega, by go_num, HB.out.trans (HB'.out.mono HB.out.size), ⟨fun x hx => ?_⟩⟩
          have ht : l.take (k + 1) = l.take k ++ [d] := by
            rw [List.take_add_one, HLK.out]; rfl
          rw [ht, List.mem_append] at hx
          rcases hx with hx | hx
          · exact HT.out x hx
          · simp only [List.mem_singleton] at hx; subst hx; exact HE.out
        case measure => simp [intOf] <;> omega
    · have hge : k = l.length := by omega
      subst hge
      go_wp2
      go_ret
      exact ⟨hb, -1, rfl, .inl ⟨rfl, by have := HT.out; rwa [List.take_length] at this⟩⟩
end Go.Proofs.YtjpokeakemlffaaGreatDoor
/-
  The contract of slices.DeleteFunc with Cancel's closure.
-/
namespace Go.Proofs.YtjpokeakemlffaaGreatDoor
open Go.RowKit
theorem flat_set (a b : Int) : ∀ (L : List Due) (i : Nat), i < L.length → ((L.flatMap dueC).set (i * 2) (.int .i64 a)).set (i * 2 + 1) (.int .i64 b) = (L.set i (a, b)).flatMap dueC
  | x :: r, 0, _ => rfl
  | x :: r, i + 1, h => by
    have := flat_set a b r i (by simpa using h)
    rw [List.set_cons_succ, List.flatMap_cons, List.flatMap_cons, ← this]
    rw [show (i + 1) * 2 = i * 2 + 1 + 1 by omega]
    rfl
theorem flat_take : ∀ (L : List Due) (i : Nat), (L.flatMap dueC).take (i * 2) = (L.take i).flatMap dueC
  | [], i => by simp
  | x :: r, 0 => by simp
  | x :: r, i + 1 => by
    have := flat_take r i
    rw [List.take_succ_cons, List.flatMap_cons, List.flatMap_cons, ← this, show (i + 1) * 2 = i * 2 + 1 + 1 by omega]
    rfl
section
variable {w w' : World} {base g n c : Nat} {L : List Due}
theorem own_set (h : w.ownsRow base 195 2 (.slice (some ⟨g, 0, none⟩) n c) n (L.flatMap dueC)) (hL : L.length = n) (i : Nat) (hi : i < n) (a b : Int) :
    ((w.setCell ⟨g, i * 2, none⟩ (.int .i64 a)).setCell ⟨g, i * 2 + 1, none⟩ (.int .i64 b)).ownsRow base 195 2 (.slice (some ⟨g, 0, none⟩) n c) n ((L.set i (a, b)).flatMap dueC) := by
  obtain ⟨hl, h⟩ := h
  have hl2 : ((L.set i (a, b)).flatMap dueC).length = n * 2 := by rw [← flat_set a b L i (by omega)]; simpa using hl
  refine ⟨hl2, ?_⟩
  rcases h with ⟨e, _⟩ | ⟨g', cap, cur, hv, hb, hg, h1, h2, h3, h4⟩
  · cases e
  · cases hv
    refine .inr ⟨g, c, _, rfl, hb, cells_set (cells_set hg (i * 2) _) (i * 2 + 1) _, h1, h2, by simpa using h3, ?_⟩
    rw [Array.toList_setIfInBounds, Array.toList_setIfInBounds, List.take_set, List.take_set, h4, flat_set a b L i (by omega)]
theorem own_cut (h : w.ownsRow base 195 2 (.slice (some ⟨g, 0, none⟩) n c) n (L.flatMap dueC)) (hL : L.length = n) (i : Nat) (hi : i ≤ n) :
    w.ownsRow base 195 2 (.slice (some ⟨g, 0, none⟩) i c) i ((L.take i).flatMap dueC) := by
  obtain ⟨hl, h⟩ := h
  have h5 : (L.take i).length = i := by rw [List.length_take]; omega
  have hl2 : ((L.take i).flatMap dueC).length = i * 2 := by rw [← flat_take, List.length_take, hl]; omega
  refine ⟨hl2, ?_⟩
  rcases h with ⟨e, _⟩ | ⟨g', cap, cur, hv, hb, hg, h1, h2, h3, h4⟩
  · cases e
  · cases hv
    refine .inr ⟨g, c, cur, rfl, hb, hg, by omega, h2, h3, ?_⟩
    rw [← flat_take, ← h4, List.take_take, Nat.min_eq_left (by omega)]
theorem setCells_block {t : TypeId} : ∀ (vs : List Value) (o : Nat) (w : World) (arr : Array Value), w.heap[g]? = some (.cells arr t (0, 0)) →
    ∃ arr' : Array Value, (w.setCells g o vs).heap[g]? = some (.cells arr' t (0, 0)) ∧ arr'.size = arr.size ∧ arr'.toList.take o = arr.toList.take o
  | [], o, w, arr, h => ⟨arr, h, rfl, rfl⟩
  | v :: r, o, w, arr, h => by
    obtain ⟨arr', h1, h2, h3⟩ := setCells_block r (o + 1) (w.setCell ⟨g, o, none⟩ v) _ (cells_set h o v)
    refine ⟨arr', h1, by simpa using h2, ?_⟩
    have := congrArg (List.take o) h3
    rw [List.take_take, List.take_take, Nat.min_eq_left (by omega), Array.toList_setIfInBounds, List.take_set] at this
    rw [this, List.set_eq_of_length_le (by simp; omega)]
theorem own_wiped (h : w.ownsRow base 195 2 (.slice (some ⟨g, 0, none⟩) n c) n (L.flatMap dueC)) (vs : List Value) :
    (w.setCells g (n * 2) vs).ownsRow base 195 2 (.slice (some ⟨g, 0, none⟩) n c) n (L.flatMap dueC) := by
  obtain ⟨hl, h⟩ := h
  refine ⟨hl, ?_⟩
  rcases h with ⟨e, _⟩ | ⟨g', cap, cur, hv, hb, hg, h1, h2, h3, h4⟩
  · cases e
  · cases hv
    obtain ⟨arr', e1, e2, e3⟩ := setCells_block vs (n * 2) w cur hg
    exact .inr ⟨g, c, arr', rfl, hb, e1, h1, h2, by rw [e2, h3], by rw [e3, h4]⟩
theorem own_there (h : w.ownsRow base 195 2 (.slice (some ⟨g, 0, none⟩) n c) n (L.flatMap dueC)) (j : Nat) (hj : j < c * 2) : (w.cell? ⟨g, j, none⟩).isSome = true ∧ w.frozen? ⟨g, j, none⟩ = false := by
  obtain ⟨hl, h⟩ := h
  rcases h with ⟨e, _⟩ | ⟨g', cap, cur, hv, hb, hg, h1, h2, h3, h4⟩
  · cases e
  · cases hv
    refine ⟨?_, by simp [World.frozen?, hg]⟩
    rw [cell_of_row w g j _ _ (0, 0) hg]
    simp [h3, hj]
end
theorem grown_setCells {w w' : World} {g : Nat} (h : w.grownBy w' (some g)) (o : Nat) (vs : List Value) : w.grownBy (w'.setCells g o vs) (some g) where
  os := (World.keptBut_setCells g (may := fun _ => True) vs o w' (fun _ _ => trivial)).1.trans h.os
  tape := by
    have : ∀ (vs : List Value) (o : Nat) (w : World), (w.setCells g o vs).tape = w.tape := fun vs => by
      induction vs with
      | nil => intro o w; rfl
      | cons v r ih => intro o w; exact (ih (o + 1) _).trans rfl
    exact (this vs o w').trans h.tape
  output := (World.keptBut_setCells g (may := fun _ => True) vs o w' (fun _ _ => trivial)).2.1.trans h.output
  size := by
    have : ∀ (vs : List Value) (o : Nat) (w : World), (w.setCells g o vs).heap.size = w.heap.size := fun vs => by
      induction vs with
      | nil => intro o w; rfl
      | cons v r ih => intro o w; exact (ih (o + 1) _).trans (by simp)
    rw [this]; exact h.size
  block := fun i hi hne => by
    have : ∀ (vs : List Value) (o : Nat) (w : World), (w.setCells g o vs).heap[i]? = w.heap[i]? := fun vs => by
      induction vs with
      | nil => intro o w; rfl
      | cons v r ih => intro o w; exact (ih (o + 1) _).trans (Below.heap_setCell _ _ _ _ (fun e => hne (by rw [e])))
    rw [this]; exact h.block i hi hne
theorem run_clear_due (w : World) (ty : TypeId) (g o n c : Nat) (hn : 0 < n) (hc : ∀ j, j < n * 2 → (w.cell? ⟨g, o + j, none⟩).isSome = true) (hf : ∀ j, j < n * 2 → w.frozen? ⟨g, o + j, none⟩ = false) :
    (Builtin.clear_ #[192] ty #[.slice (some ⟨g, o, none⟩) n c]).run Tryz.prog w = .ok (.tuple #[]) (w.setCells g o (List.replicate (n * 2) (.int .i64 0))) := by
  have hv : ∀ w, (zeroValue 195).run Tryz.prog w = .ok (.agg #[.int .i64 0, .int .i64 0]) w := Tryz.zeroValue195
  have hzc : (Builtin.zeroCells (Value.agg #[.int .i64 0, .int .i64 0]).cells n).toList = List.replicate (n * 2) (.int .i64 0) := by
    simp only [Builtin.zeroCells, Value.cells]
    apply List.ext_getElem
    · simp
    · intro i h1 h2
      have hm : i % 2 = 0 ∨ i % 2 = 1 := by omega
      rcases hm with hm | hm <;> simp [hm]
  have hst := run_storeCells_cells (P := Tryz.prog) g o (List.replicate (n * 2) (.int .i64 0)) 0 w (by simpa using hc) (by simpa using hf) (by intro v hv'; rw [List.eq_of_mem_replicate hv']; rfl)
  simp only [Nat.add_zero] at hst
  obtain ⟨m, rfl⟩ : ∃ m, n = m + 1 := ⟨n - 1, by omega⟩
  simp [Builtin.clear_, run_underlying Tryz.underlying192, hv, hzc, hst]
end Go.Proofs.YtjpokeakemlffaaGreatDoor
