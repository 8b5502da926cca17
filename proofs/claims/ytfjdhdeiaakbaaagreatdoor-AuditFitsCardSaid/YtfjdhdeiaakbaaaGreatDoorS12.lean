/-
  Walks and laws, one behind the other (part 12).
-/
import Derived.Deep.RegionHeld3
import Derived.Deep.RegionLaw
import Derived.IntWalk
import Derived.Test.YtfjdhdeiaakbaaaGreatDoorS10
import Derived.Test.YtfjdhdeiaakbaaaGreatDoorS11
set_option linter.unusedSimpArgs false
set_option linter.unusedVariables false
/-
  The contract of nested.lay.
-/
namespace Go.Proofs.YtfjdhdeiaakbaaaGreatDoor
open Go.RowKit

/-- Timers laid where they belong. -/
def layN (now : Int) (N : Nat → List Due) : List Due → Nat → List Due
  | [] => N
  | d :: l => layN now (put N (pl now d.2) (N (pl now d.2) ++ [d])) l
theorem layN_snoc (now : Int) (d : Due) : ∀ (l : List Due) (N : Nat → List Due), layN now N (l ++ [d]) = put (layN now N l) (pl now d.2) (layN now N l (pl now d.2) ++ [d])
  | [], _ => rfl
  | _ :: r, _ => layN_snoc now d r _
theorem layN_length (now : Int) (K : Nat) : ∀ (l : List Due) (N : Nat → List Due), (∀ i, (N i).length ≤ K) → ∀ i, (layN now N l i).length ≤ K + l.length
  | [], N, h, i => h i
  | x :: r, N, h, i => by
    have := layN_length now (K + 1) r (put N (pl now x.2) (N (pl now x.2) ++ [x])) (fun j => by
      by_cases e : j = pl now x.2
      · subst e; rw [put_same]; have := h (pl now x.2); simp; omega
      · rw [put_other _ _ e]; have := h j; omega) i
    simp only [layN, List.length_cons]
    omega

/-- What a turn of the wheel leaves: all that is neither its block nor one of its rows; the rows are the old ones or new ones. -/
structure Fr (w w' : World) (b : Nat) (S S' : Nat → Value) : Prop where
  os : w'.os = w.os
  tape : w'.tape = w.tape
  output : w'.output = w.output
  size : w.heap.size ≤ w'.heap.size
  block : ∀ k, k < w.heap.size → k ≠ b → (∀ i, i < 49 → (S i).ownBlock ≠ some k) → w'.heap[k]? = w.heap[k]?
  new : ∀ i, i < 49 → ∀ k, (S' i).ownBlock = some k → (∃ j, j < 49 ∧ (S j).ownBlock = some k) ∨ w.heap.size ≤ k
theorem Fr.refl (w : World) (b : Nat) (S : Nat → Value) : Fr w w b S S := ⟨rfl, rfl, rfl, Nat.le_refl _, fun _ _ _ _ => rfl, fun i hi _ e => .inl ⟨i, hi, e⟩⟩
theorem Fr.trans {w w' w'' : World} {b : Nat} {S S' S'' : Nat → Value} (h : Fr w w' b S S') (h' : Fr w' w'' b S' S'') : Fr w w'' b S S'' where
  os := h'.os.trans h.os
  tape := h'.tape.trans h.tape
  output := h'.output.trans h.output
  size := Nat.le_trans h.size h'.size
  block := fun k hk hb hS => (h'.block k (Nat.lt_of_lt_of_le hk h.size) hb (fun i hi e => by
    rcases h.new i hi k e with ⟨j, hj, ej⟩ | hl
    · exact hS j hj ej
    · omega)).trans (h.block k hk hb hS)
  new := fun i hi k e => by
    rcases h'.new i hi k e with ⟨j, hj, ej⟩ | hl
    · exact h.new j hj k ej
    · exact .inr (Nat.le_trans h.size hl)
theorem Fr.below {w w' : World} {base b : Nat} {S S' : Nat → Value} (h : Fr w w' b S S') (hb : base ≤ b) (hS : ∀ i, i < 49 → ∀ k, (S i).ownBlock = some k → base ≤ k) (hbase : base ≤ w.heap.size) : Below base w w' where
  os := h.os
  tape := h.tape
  output := h.output
  size := h.size
  block := fun k hk => h.block k (by omega) (by omega) (fun i hi e => by have := hS i hi k e; omega)
theorem Fr.quiet {w w' : World} (h : Below w.heap.size w w') (b : Nat) (S : Nat → Value) : Fr w w' b S S :=
  ⟨h.os, h.tape, h.output, h.size, fun k hk _ _ => h.block k hk, fun i hi _ e => .inl ⟨i, hi, e⟩⟩

theorem Fr.appended {w w' : World} {base b m : Nat} {S : Nat → Value} {N : Nat → List Due} {now : Int} (_ : WSt w base b m S N now) {i : Nat} (hi : i < 49) {v' : Value}
    (hg : w.grownBy w' (S i).ownBlock) (hbl : v'.ownBlock = none ∨ v'.ownBlock = (S i).ownBlock ∨ v'.ownBlock = some w.heap.size) : Fr w (w'.setCell ⟨b, i, none⟩ v') b S (put S i v') where
  os := hg.os
  tape := hg.tape
  output := hg.output
  size := by simpa using hg.size
  block := fun k hk hkb hS => (Below.heap_setCell w' _ v' k hkb).trans (hg.block k hk (fun e => hS i hi e.symm))
  new := fun j hj k e => by
    by_cases ej : j = i
    · subst ej
      rw [put_same] at e
      rcases hbl with h | h | h
      · rw [h] at e; cases e
      · exact .inl ⟨j, hj, h ▸ e⟩
      · rw [h] at e; cases e; exact .inr (Nat.le_refl _)
    · rw [put_other S v' ej] at e; exact .inl ⟨j, hj, e⟩

theorem infoD : (Tryz.prog.info? 195).map (fun i => (i.zero, i.size, i.bytes)) = some (some (.agg #[.int .i64 0, .int .i64 0]), 2, 16) := by kernel_rfl

theorem dueOne (d : Due) : ∀ u ∈ dueC d, u.oneCell' = true := by simp [dueC, Value.oneCell']
/-- An append of one timer, as a step of a region that draws its order. -/
theorem step_append_due {ops : Array Oper} {o : Oper} {a : Act} {K : Act → World → Prop} {Q : Exit → Act → World → Prop} {E : Prop} {w : World} (hgd : o.guard = none) (s x : Operand) (t : TypeId)
    (ho : o.op = .call { callee := .builtin .append, args := #[s, x], argTypes := #[t, t] }) (ht : Tryz.prog.underlying t = some (.slice 195))
    (base : Nat) (v : Value) (n : Nat) (xs : List Due) (hs : a.eval s = v) (hown : w.ownsRow base 195 2 v n (xs.flatMap dueC))
    (g : Nat) (d : Due) (hx : a.eval x = .slice (some ⟨g, 0, none⟩) 1 1) (tt : TypeId) (hg : w.heap[g]? = some (.cells #[.int .i64 d.1, .int .i64 d.2] tt (0, 0)))
    (hn : n ≤ 1000000) (hbase : base ≤ w.heap.size)
    (h : ∀ v' w', w'.ownsRow base 195 2 v' (n + 1) ((xs ++ [d]).flatMap dueC) → w.grownBy w' v.ownBlock → (v'.ownBlock = v.ownBlock ∨ v'.ownBlock = some w.heap.size) → K (a.put o.dst v') w') :
    if Region.wanted o (yielded ops a.tmps) = true then Oper.wp Tryz.prog o a w K Q else E := by
  obtain ⟨i0, hi, hz0, hz1, hz2⟩ := info_parts infoD
  have hr : Rd w w.heap.size 2 dueC (some ⟨g, 0, none⟩) [d] := fun _ => ⟨g, 0, rfl, lt_of_block hg, fun i y hy j u hu => by
    cases i with
    | zero =>
      have : d = y := by simpa using hy
      subst this
      rw [cell_of_row w g _ _ tt (0, 0) hg]
      simpa [dueC] using hu
    | succ i => simp at hy⟩
  refine step_append_rd (by simp [Region.wanted, hgd]) s x t ho base 195 i0 _ 2 16 ht hi hz0 hz1 hz2 rfl (by decide) v n _ hs hown _ 1 1 _ dueC [d] hx (by intro e; cases e) rfl dueC_length hr dueOne (by unfold maxLen; omega) (by omega) hbase ?_
  intro v' w' h1 h2 h3
  exact h v' w' (by rw [List.flatMap_append]; exact h1) h2 h3

set_option maxHeartbeats 1600000 in
theorem lay_any (base b m : Nat) (S : Nat → Value) (N : Nat → List Due) (now : Int) (A : Option Addr) (c : Nat) (l : List Due) (w : World) (h : WSt w base b m S N now) (hbase : base ≤ w.heap.size)
    (hn : 0 ≤ now) (hn2 : now < 4611686018427387904) (hl : ∀ d ∈ l, 0 ≤ d.2 ∧ d.2 < 4611686018427387904) (K : Nat) (hK : ∀ i, (N i).length ≤ K) (hKl : K + l.length ≤ 1000000)
    (hA : l ≠ [] → ∃ g off, A = some ⟨g, off, none⟩ ∧ g < w.heap.size ∧ g ≠ b ∧ (∀ i, i < 49 → (S i).ownBlock ≠ some g) ∧ ∀ i x, l[i]? = some x → ∀ j v, (dueC x)[j]? = some v → w.cell? ⟨g, off + i * 2 + j, none⟩ = some v) :
    Calls Tryz.prog 230 #[.pointer (some ⟨b, 0, none⟩), .slice A l.length c] w fun e w' => (∃ u, e = .returned u) ∧ ∃ S', WSt w' base b m S' (layN now N l) now ∧ Fr w w' b S S' := by
  obtain ⟨i0, hi, hz0, hz1, hz2⟩ := info_parts infoD
  have HH := Lib.hid h
  have HA := Lib.hid hA
  have HL := Lib.hid hl
  have HK := Lib.hid hK
  clear h hA hl hK
  go_enter Tryz.func230, Tryz.ntmps230
  go_wp2
  go_loopw [9] (fun i wr => ∃ (k : Nat) (S' : Nat → Value), k ≤ l.length ∧ i = .int .i64 k ∧ WSt wr base b m S' (layN now N (l.take k)) now ∧ Fr w wr b S S') (fun i _ => l.length - (intOf i).toNat)
  case atStart => exact ⟨0, S, by omega, rfl, HH.out, Fr.refl _ _ _⟩
  case round =>
    obtain ⟨k, S', hk, rfl, hst, hfr⟩ := hrel
    by_cases hlt : k < l.length
    · obtain ⟨g, off, rfl, hg, hgb, hgS, hc⟩ := HA.out (List.ne_nil_of_length_pos (by omega))
      obtain ⟨d, hd⟩ : ∃ d, l[k] = d := ⟨_, rfl⟩
      have hlk : l[k]? = some d := by rw [List.getElem?_eq_getElem hlt, hd]
      have hgw : wr.heap[g]? = w.heap[g]? := hfr.block g hg hgb hgS
      have c0 : wr.cell? ⟨g, off + k * 2, none⟩ = some (.int .i64 d.1) := (World.cell?_of_block hgw).trans (hc k d hlk 0 _ rfl)
      have c1 : wr.cell? ⟨g, off + k * 2 + 1, none⟩ = some (.int .i64 d.2) := (World.cell?_of_block hgw).trans (hc k d hlk 1 _ rfl)
      obtain ⟨hd0, hd1⟩ := HL.out d (List.mem_of_getElem? hlk)
      have HST := Lib.hid hst
      have HFR := Lib.hid hfr
      have hlti : ((k : Nat) : Int) < (l.length : Int) := by omega
      have hsz2 : (Tryz.prog.info? 195).map (·.size) = some 2 := by kernel_rfl
      clear hc hst hfr hgS hgw
      go_wp2_with (first
        | (go_at_call 285; refine (place_any b now d.2 _ hn hn2 hd0 hd1 ?_).mono ?_; rotate_left; rintro e w' ⟨rfl, rfl⟩)
        | fail)
      case refine_1 => exact (HST.out.alloc _).tickC
      have HST2 := Lib.hid (HST.out.alloc (.cells #[.int .i64 d.1, .int .i64 d.2] 195))
      have HFR2 := Lib.hid (HFR.out.trans (Fr.quiet ((Below.refl wr.heap.size wr).alloc (Nat.le_refl _) (.cells #[.int .i64 d.1, .int .i64 d.2] 195)) b S'))
      have e0 : (wr.alloc (.cells #[.int .i64 d.1, .int .i64 d.2] 195)).cell? ⟨wr.heap.size, 0, none⟩ = some (.int .i64 d.1) := by rw [World.cell?_alloc_new]; rfl
      have e1 : (wr.alloc (.cells #[.int .i64 d.1, .int .i64 d.2] 195)).cell? ⟨wr.heap.size, 1, none⟩ = some (.int .i64 d.2) := by rw [World.cell?_alloc_new]; rfl
      have hq := pl_lt now d.2
      obtain ⟨q, hqe⟩ : ∃ q, pl now d.2 = q := ⟨_, rfl⟩
      have HQ := Keep.mk hqe
      rw [hqe] at hq ⊢
      have hlen := layN_length now K (l.take k) N HK.out q
      rw [List.length_take] at hlen
      have hlen2 : (layN now N (l.take k) q).length ≤ 1000000 := by omega
      have cq := HST2.out.cell q hq
      have fq := HST2.out.free q
      obtain ⟨Aq, nq, cqq, hqv⟩ : ∃ A n c, S' q = .slice A n c := by obtain ⟨A, c, e, _⟩ := own_slice (HST2.out.rows q hq); exact ⟨A, _, c, e⟩
      clear hqe hlen c0 c1
      generalize hW : wr.alloc (.cells #[.int .i64 d.1, .int .i64 d.2] 195) = w2 at *
      have HSq : Keep (w2.ownsRow base 195 2 (.slice Aq nq cqq) _ _) := ⟨hqv ▸ HST2.out.rows q hq⟩
      have HNE : Keep (some b ≠ (Value.slice Aq nq cqq).ownBlock) := ⟨hqv ▸ fun e => (HST2.out.off q hq).1 e.symm⟩
      have HBL : Keep (b < w2.heap.size) := ⟨HST2.out.blt⟩
      have hw2s : wr.heap.size < w2.heap.size := by rw [← hW]; simp
      have cqA : (w2.alloc (.cells #[.int .i64 d.1, .int .i64 d.2] 195)).cell? ⟨b, q, none⟩ = some (S' q) := (HST2.out.alloc _).cell q hq
      have e0A : (w2.alloc (.cells #[.int .i64 d.1, .int .i64 d.2] 195)).cell? ⟨wr.heap.size, 0, none⟩ = some (.int .i64 d.1) := (World.cell?_alloc_lt w2 _ ⟨wr.heap.size, 0, none⟩ hw2s).trans e0
      have e1A : (w2.alloc (.cells #[.int .i64 d.1, .int .i64 d.2] 195)).cell? ⟨wr.heap.size, 1, none⟩ = some (.int .i64 d.2) := (World.cell?_alloc_lt w2 _ ⟨wr.heap.size, 1, none⟩ hw2s).trans e1
      have hbs2 : base ≤ w2.heap.size := by have := HFR2.out.size; omega
      go_region_law (first
        | (refine step_append_due rfl (.tmp 20) (.tmp 22) 192 rfl Tryz.underlying192 base (.slice Aq nq cqq) _ _ rfl (by first | exact (HSq.out.alloc _).drew | exact HSq.out.drew.alloc _) w2.heap.size d rfl 195 (heap_alloc_new _ _) hlen2 (by simp; omega) ?_
           intro v3 w3 hown3 hgr3 hat3
           obtain ⟨A3, c3, rfl, _⟩ := own_slice hown3
           have cq3 : w3.cell? ⟨b, q, none⟩ = some (S' q) := hgr3.cell (by first | exact ((HST2.out.alloc _).drew 1).cell q hq | exact ((HST2.out.drew 1).alloc _).cell q hq) HNE.out
           have fq3 : w3.frozen? ⟨b, q, none⟩ = false := (World.frozen?_of_block (hgr3.block b (by have := HBL.out; simp; omega) HNE.out)).trans (by first | exact ((HST2.out.alloc _).drew 1).free q | exact ((HST2.out.drew 1).alloc _).free q)
           have HO3 := Lib.hid hown3
           have HG3 := Keep.mk hgr3
           have HA3 := Keep.mk hat3
           clear hown3 hgr3 hat3)
        | fail)
      all_goals
        have hw : ∀ W4 : World, W4.heap = (w2.alloc (.cells #[.int .i64 d.1, .int .i64 d.2] 195)).heap → True := fun _ _ => trivial
        clear hw cqA e0A e1A e0 e1 cq fq hsz2
        go_wp2_with fail
        go_roundw
        case rel =>
          have H4 := (HST2.out.alloc (.cells #[.int .i64 d.1, .int .i64 d.2] 195)).drew 1
          have F4 := HFR2.out.trans (Fr.quiet (((Below.refl w2.heap.size w2).alloc (Nat.le_refl _) (.cells #[.int .i64 d.1, .int .i64 d.2] 195)).drew) b S')
          have hg4 := HG3.out
          have ha4 := HA3.out
          rw [← hqv] at hg4 ha4
          have hlq : (layN now N (l.take k) q ++ [d]).length = (layN now N (l.take k) q).length + 1 := by simp
          have ho := HO3.out
          have ha5 := ha4
          rw [← hlq] at ho ha5
          refine ⟨k + 1, put S' q _, by omega, by go_num, ?_, F4.trans (Fr.appended H4 hq hg4 (.inr ha4))⟩
          have hx := H4.appended hq ho hg4 (.inr ha5)
          have ht : l.take (k + 1) = l.take k ++ [d] := by rw [List.take_succ_eq_append_getElem hlt, hd]
          rw [ht, layN_snoc, HQ.out]
          rw [hlq] at hx
          exact hx
        case measure => simp [intOf] <;> omega
    · have hge : k = l.length := by omega
      have HST := Lib.hid hst
      have HFR := Lib.hid hfr
      clear hst hfr
      go_wp2
      refine bodyPost_end (results_none rfl _ _ _) rfl ?_
      exact ⟨⟨_, rfl⟩, S', by have := HST.out; rwa [hge, List.take_length] at this, HFR.out⟩
end Go.Proofs.YtfjdhdeiaakbaaaGreatDoor
/-
  The contracts of ring.empty and nested.step.
-/
namespace Go.Proofs.YtfjdhdeiaakbaaaGreatDoor
open Go.RowKit

theorem empty_any (b r : Nat) (t : Int) (A : Option Addr) (n c : Nat) (w : World) (hd : 0 ≤ t)
    (hc : w.cell? ⟨b, r + (t % 16).toNat, none⟩ = some (.slice A n c)) (hf : w.frozen? ⟨b, r + (t % 16).toNat, none⟩ = false) :
    Calls Tryz.prog 252 #[.pointer (some ⟨b, r, none⟩), .int .i64 t] w fun e w' => e = .returned (.slice A n c) ∧ w' = w.setCell ⟨b, r + (t % 16).toNat, none⟩ (.slice none 0 0) := by
  go_enter Tryz.func252, Tryz.ntmps252
  go_wp2_with (first | (go_at_call 304; refine (slot_any b r t _ hd).mono ?_; rintro e w' ⟨rfl, rfl⟩) | fail)
  go_ret
  exact ⟨rfl, rfl⟩

/-- The lists behind what a tick lays anew. -/
def again (c : Prop) [Decidable c] (now : Int) (i : Nat) (N : Nat → List Due) : Nat → List Due := if c then layN now (put N i []) (N i) else N
def prep (n : Int) (N : Nat → List Due) : Nat → List Due :=
  again (n % 16 = 0) n (16 + (n / 16 % 16).toNat) (again (n % 256 = 0) n (32 + (n / 16 / 16 % 16).toNat) (again (n % 4096 = 0) n 48 N))

/-- What a step tells. -/
structure Stepped (w w' : World) (base b m : Nat) (S : Nat → Value) (N : Nat → List Due) (now : Int) (A : Option Addr) (n c : Nat) (S' : Nat → Value) : Prop where
  st : WSt w' base b m S' (put (prep now N) (now % 16).toNat []) now
  len : n = (prep now N (now % 16).toNat).length
  out : w'.ownsRow base 195 2 (.slice A n c) n ((prep now N (now % 16).toNat).flatMap dueC)
  apart : ∀ i, i < 49 → Apt (.slice A n c) (S' i)
  off : (Value.slice A n c).ownBlock ≠ some b ∧ (Value.slice A n c).ownBlock ≠ some m
  fr : Fr w w' b S S'
  new : ∀ k, (Value.slice A n c).ownBlock = some k → (∃ j, j < 49 ∧ (S j).ownBlock = some k) ∨ w.heap.size ≤ k

theorem Fr.ticked (w : World) (b : Nat) (S : Nat → Value) (i : Nat) (v : Value) : Fr w (w.setCell ⟨b, i, none⟩ v) b S S :=
  ⟨rfl, rfl, rfl, by simp, fun k _ hkb _ => Below.heap_setCell w _ v k hkb, fun i hi _ e => .inl ⟨i, hi, e⟩⟩
theorem Fr.drew (w : World) (b : Nat) (S : Nat → Value) (k : Nat) : Fr w (w.drewN k) b S S :=
  ⟨rfl, rfl, rfl, Nat.le_refl _, fun _ _ _ _ => rfl, fun i hi _ e => .inl ⟨i, hi, e⟩⟩
theorem stepped_of {w w1 : World} {base b m : Nat} {S S1 : Nat → Value} {N : Nat → List Due} {n : Int} (H : WSt w1 base b m S1 (prep n N) n) (F : Fr w w1 b S S1) {A : Option Addr} {k c : Nat} (hv : S1 (n % 16).toNat = .slice A k c) :
    Stepped w (w1.setCell ⟨b, (n % 16).toNat, none⟩ (.slice none 0 0)) base b m S N n A k c (put S1 (n % 16).toNat (.slice none 0 0)) := by
  have hq : (n % 16).toNat < 49 := by omega
  have hr := H.rows _ hq
  have ho := H.off _ hq
  rw [hv] at hr ho
  obtain ⟨A', c', e, _⟩ := own_slice hr
  have hk : k = (prep n N (n % 16).toNat).length := by injection e
  refine ⟨H.taken hq, hk, ?_, fun i hi => ?_, ho, F.trans (Fr.appended H hq ⟨rfl, rfl, rfl, Nat.le_refl _, fun _ _ _ => rfl⟩ (.inl rfl)), fun j hj => F.new _ hq j (hv ▸ hj)⟩
  · rw [← hk] at hr
    exact ownsRow_setCell_other hr ho.1 _
  · by_cases ei : i = (n % 16).toNat
    · subst ei; rw [put_same]; exact Apt.nil _
    · rw [put_other S1 _ ei, ← hv]; exact H.apart _ i hq hi (Ne.symm ei)

set_option maxHeartbeats 1600000 in
theorem step_A (base b m : Nat) (S : Nat → Value) (N : Nat → List Due) (now : Int) (w : World) (h : WSt w base b m S N now) (hbase : base ≤ w.heap.size)
    (hn : 0 ≤ now) (hn2 : now < 2305843009213693952) (K : Nat) (hK : ∀ i, (N i).length ≤ K) (h16 : (now + 1) % 16 ≠ 0) :
    Calls Tryz.prog 197 #[.pointer (some ⟨b, 0, none⟩)] w fun e w' => ∃ A n c S', e = .returned (.slice A n c) ∧ Stepped w w' base b m S N (now + 1) A n c S' := by
  have HH := Lib.hid h
  have HK := Lib.hid hK
  have c49 := h.tickC
  have f49 := h.free 49
  clear h hK
  obtain ⟨n, hne⟩ : ∃ n, now + 1 = n := ⟨_, rfl⟩
  have hw : wrap64 n = n := by unfold wrap64; omega
  have t1 : n.tmod 4096 = n % 4096 := Int.tmod_eq_emod_of_nonneg (by omega)
  have t2 : n.tmod 256 = n % 256 := Int.tmod_eq_emod_of_nonneg (by omega)
  have t3 : n.tmod 16 = n % 16 := Int.tmod_eq_emod_of_nonneg (by omega)
  rw [hne] at h16 ⊢
  have k1 : n % 4096 ≠ 0 := by omega
  have k2 : n % 256 ≠ 0 := by omega
  go_enter Tryz.func197, Tryz.ntmps197
  go_wp2_with fail
  have hq : (n % 16).toNat < 49 := by omega
  have H1 := Lib.hid (HH.out.ticked n)
  generalize hW1 : w.setCell ⟨b, 49, none⟩ (.int .i64 n) = w1 at *
  have HW1 := Keep.mk hW1
  obtain ⟨Aq, nq, cq, hqv⟩ : ∃ A k c, S (n % 16).toNat = .slice A k c := by obtain ⟨A, c, e, _⟩ := own_slice (H1.out.rows _ hq); exact ⟨A, _, c, e⟩
  have HV := Keep.mk hqv
  have c1 := H1.out.tickC
  clear c49 f49 hW1 hqv
  go_region_held3 (fun W => W.cell? ⟨b, 49, none⟩ = some (.int .i64 n))
    (first | go_keep | exact ((H1.out.drew 1).taken hq).tickC | assumption)
    (first | (go_at_call 252; refine (empty_any b 0 n Aq nq cq _ (by omega) (by rw [Nat.zero_add]; exact HV.out ▸ (H1.out.drew 1).cell _ hq) ((H1.out.drew 1).free _)).mono ?_; rintro e w' ⟨rfl, rfl⟩) | fail)
  go_wp2_with fail
  go_ret
  have hp : prep n N = N := by unfold prep again; rw [if_neg h16, if_neg k2, if_neg k1]
  exact ⟨Aq, nq, cq, _, rfl, stepped_of (by rw [hp]; exact H1.out.drew 1) ((HW1.out ▸ Fr.ticked w b S 49 _ : Fr w w1 b S S).trans (Fr.drew w1 b S 1)) HV.out⟩

theorem taken_rd {w : World} {base b m : Nat} {S : Nat → Value} {N : Nat → List Due} {now : Int} (H : WSt w base b m S N now) {i : Nat} (hi : i < 49) {A : Option Addr} {c : Nat} (hv : S i = .slice A (N i).length c) :
    N i ≠ [] → ∃ g off, A = some ⟨g, off, none⟩ ∧ g < (w.setCell ⟨b, i, none⟩ (.slice none 0 0)).heap.size ∧ g ≠ b ∧ (∀ j, j < 49 → (put S i (.slice none 0 0) j).ownBlock ≠ some g) ∧
      ∀ k x, (N i)[k]? = some x → ∀ j v, (dueC x)[j]? = some v → (w.setCell ⟨b, i, none⟩ (.slice none 0 0)).cell? ⟨g, off + k * 2 + j, none⟩ = some v := by
  intro hne
  have ho := H.off i hi
  have hr := ownsRow_setCell_other (H.rows i hi) ho.1 (.slice none 0 0) (a := ⟨b, i, none⟩)
  rw [hv] at hr
  obtain ⟨g, off, rfl, hg, hc⟩ := Rd.of_own dueC_length (by decide) hr hne
  refine ⟨g, off, rfl, hg, fun e => ho.1 (by rw [hv, e]; rfl), fun j hj => ?_, hc⟩
  by_cases e : j = i
  · subst e; rw [put_same]; simp [Value.ownBlock]
  · rw [put_other S _ e]
    intro ej
    rcases H.apart i j hi hj (Ne.symm e) with ⟨h1, _⟩ | h1
    · rw [hv] at h1; cases h1
    · exact h1 (by rw [ej, hv]; rfl)

end Go.Proofs.YtfjdhdeiaakbaaaGreatDoor
/-
  The contract of nested.step where a middle list is laid anew.
-/
namespace Go.Proofs.YtfjdhdeiaakbaaaGreatDoor
open Go.RowKit

set_option maxHeartbeats 1600000 in
theorem step_B (base b m : Nat) (S : Nat → Value) (N : Nat → List Due) (now : Int) (w : World) (h : WSt w base b m S N now) (hbase : base ≤ w.heap.size)
    (hn : 0 ≤ now) (hn2 : now < 2305843009213693952) (Kb : Nat) (hK : ∀ i, (N i).length ≤ Kb) (hK2 : 2 * Kb ≤ 1000000) (hT : ∀ i, ∀ d ∈ N i, 0 ≤ d.2 ∧ d.2 < 4611686018427387904) (h16 : (now + 1) % 16 = 0) (k2 : (now + 1) % 256 ≠ 0) :
    Calls Tryz.prog 197 #[.pointer (some ⟨b, 0, none⟩)] w fun e w' => ∃ A n c S', e = .returned (.slice A n c) ∧ Stepped w w' base b m S N (now + 1) A n c S' := by
  have HH := Lib.hid h
  have HK := Lib.hid hK
  have HT := Lib.hid hT
  have c49 := h.tickC
  have f49 := h.free 49
  clear h hK hT
  obtain ⟨n, hne⟩ : ∃ n, now + 1 = n := ⟨_, rfl⟩
  have hw : wrap64 n = n := by unfold wrap64; omega
  have hw3 : IntKind.i64.wrap (n / 16) = n / 16 := IntWalk.i64_in _ (by omega)
  have t1 : n.tmod 4096 = n % 4096 := Int.tmod_eq_emod_of_nonneg (by omega)
  have t2 : n.tmod 256 = n % 256 := Int.tmod_eq_emod_of_nonneg (by omega)
  have t3 : n.tmod 16 = n % 16 := Int.tmod_eq_emod_of_nonneg (by omega)
  have t4 : n.tdiv 16 = n / 16 := Int.tdiv_eq_ediv_of_nonneg (by omega)
  have hn3 : 0 ≤ n := by omega
  have hn4 : n < 4611686018427387904 := by omega
  rw [hne] at h16 k2 ⊢
  have k1 : n % 4096 ≠ 0 := by omega
  go_enter Tryz.func197, Tryz.ntmps197
  go_wp2_with fail
  have hq : (n % 16).toNat < 49 := by omega
  have hi : (16 + (n / 16 % 16).toNat) < 49 := by omega
  have H1 := Lib.hid (HH.out.ticked n)
  generalize hW1 : w.setCell ⟨b, 49, none⟩ (.int .i64 n) = w1 at *
  have HW1 := Keep.mk hW1
  obtain ⟨A1, c1', hv1⟩ : ∃ A c, S (16 + (n / 16 % 16).toNat) = .slice A (N (16 + (n / 16 % 16).toNat)).length c := by obtain ⟨A, c, e, _⟩ := own_slice (H1.out.rows _ hi); exact ⟨A, c, e⟩
  have c1 := H1.out.tickC
  have hb1 : base ≤ w1.heap.size := by rw [← hW1]; simpa using hbase
  have hci := (H1.out.drew 1).cell _ hi
  rw [hv1] at hci
  have HCI := Keep.mk hci
  have HFI := Keep.mk ((H1.out.drew 1).free (16 + (n / 16 % 16).toNat))
  have HTK := Lib.hid ((H1.out.drew 1).taken hi)
  have HCK := Keep.mk HTK.out.tickC
  have HRD := Lib.hid (taken_rd (H1.out.drew 1) hi hv1)
  have hbT : base ≤ ((w1.drewN 1).setCell ⟨b, 16 + (n / 16 % 16).toNat, none⟩ (.slice none 0 0)).heap.size := by simpa using hb1
  have HBT := Keep.mk hbT
  have HV1 := Keep.mk hv1
  have htI := HT.out (16 + (n / 16 % 16).toNat)
  have HTI := Lib.hid htI
  have hp16 : 0 ≤ n / 16 := by omega
  have hKp : ∀ j, (put N (16 + (n / 16 % 16).toNat) [] j).length ≤ Kb := fun j => by
    by_cases e : j = (16 + (n / 16 % 16).toNat)
    · subst e; rw [put_same]; simp
    · rw [put_other _ _ e]; exact HK.out j
  have HKP := Lib.hid hKp
  have HKL : Keep (Kb + (N (16 + (n / 16 % 16).toNat)).length ≤ 1000000) := ⟨by have := HK.out (16 + (n / 16 % 16).toNat); omega⟩
  clear c49 f49 hW1 hv1 hci hbT htI hKp
  refine wp_region_noPanic ?_
  refine wp_region_held_drew (S := fun W => W.cell? ⟨b, 49, none⟩ = some (.int .i64 n)) (by kernel_rfl) c1 (fun hHeld => ?_)
  refine wpAnyH_take (i := 0) (v := ?_) rfl (by kernel_rfl) (by kernel_rfl) (by kernel_rfl) (fun _ _ _ h => h) (Or.inl ⟨by rfl, ?_⟩) (by assumption) ?_
  rotate_left
  · intro w hSw; go_simp; (try with_reducible rfl)
  try simp only [Act.put, List.setIfInBounds_toArray, List.set_cons_zero, List.set_cons_succ, List.getElem_toArray, List.getElem_cons_zero, List.getElem_cons_succ]
  refine wpAnyH_take (i := 1) (v := ?_) rfl (by kernel_rfl) (by kernel_rfl) (by kernel_rfl) (fun _ _ _ h => h) (Or.inl ⟨by rfl, ?_⟩) (by assumption) ?_
  rotate_left
  · intro w hSw; go_simp; (try with_reducible rfl)
  try simp only [Act.put, List.setIfInBounds_toArray, List.set_cons_zero, List.set_cons_succ, List.getElem_toArray, List.getElem_cons_zero, List.getElem_cons_succ]
  refine wpAnyH_take (i := 2) (v := ?_) rfl (by kernel_rfl) (by kernel_rfl) (by kernel_rfl) (fun _ _ _ h => h) (Or.inl ⟨by rfl, ?_⟩) (by assumption) ?_
  rotate_left
  · intro w hSw; go_simp; (try with_reducible rfl)
  try simp only [Act.put, List.setIfInBounds_toArray, List.set_cons_zero, List.set_cons_succ, List.getElem_toArray, List.getElem_cons_zero, List.getElem_cons_succ]
  refine wpAnyH_take (i := 3) (v := ?_) rfl (by kernel_rfl) (by kernel_rfl) (by kernel_rfl) (fun _ _ _ h => h) (Or.inl ⟨by rfl, ?_⟩) (by assumption) ?_
  rotate_left
  · intro w hSw; go_simp; (try with_reducible rfl)
  try simp only [Act.put, List.setIfInBounds_toArray, List.set_cons_zero, List.set_cons_succ, List.getElem_toArray, List.getElem_cons_zero, List.getElem_cons_succ]
  refine wpAnyH_take (i := 4) (v := ?_) rfl (by kernel_rfl) (by kernel_rfl) (by kernel_rfl) (fun _ _ _ h => h) (Or.inl ⟨by rfl, ?_⟩) (by assumption) ?_
  rotate_left
  · intro w hSw; go_simp; (try with_reducible rfl)
  try simp only [Act.put, List.setIfInBounds_toArray, List.set_cons_zero, List.set_cons_succ, List.getElem_toArray, List.getElem_cons_zero, List.getElem_cons_succ]
  refine wpAnyH_take (i := 5) (v := ?_) rfl (by kernel_rfl) (by kernel_rfl) (by kernel_rfl) (fun _ _ _ h => h) (Or.inl ⟨by rfl, ?_⟩) (by assumption) ?_
  rotate_left
  · intro w hSw; go_simp; (try with_reducible rfl)
  try simp only [Act.put, List.setIfInBounds_toArray, List.set_cons_zero, List.set_cons_succ, List.getElem_toArray, List.getElem_cons_zero, List.getElem_cons_succ]
  refine wpAnyH_take (i := 6) (v := ?_) rfl (by kernel_rfl) (by kernel_rfl) (by kernel_rfl) (fun _ _ _ h => h) (Or.inl ⟨by rfl, ?_⟩) (by assumption) ?_
  rotate_left
  · intro w hSw; go_simp; (try with_reducible rfl)
  try simp only [Act.put, List.setIfInBounds_toArray, List.set_cons_zero, List.set_cons_succ, List.getElem_toArray, List.getElem_cons_zero, List.getElem_cons_succ]
  refine wpAnyH_take (i := 7) (v := ?_) rfl (by kernel_rfl) (by kernel_rfl) (by kernel_rfl) (fun _ _ _ h => h) (Or.inl ⟨by rfl, ?_⟩) (by assumption) ?_
  rotate_left
  · intro w hSw; go_simp; (try with_reducible rfl)
  try simp only [Act.put, List.setIfInBounds_toArray, List.set_cons_zero, List.set_cons_succ, List.getElem_toArray, List.getElem_cons_zero, List.getElem_cons_succ]
  refine wpAnyH_take (i := 8) (v := ?_) rfl (by kernel_rfl) (by kernel_rfl) (by kernel_rfl) (fun _ _ _ h => h) (Or.inl ⟨by rfl, ?_⟩) (by assumption) ?_
  rotate_left
  · intro w hSw; go_simp; (try with_reducible rfl)
  try simp only [Act.put, List.setIfInBounds_toArray, List.set_cons_zero, List.set_cons_succ, List.getElem_toArray, List.getElem_cons_zero, List.getElem_cons_succ]
  refine wpAnyH_ready (rs := [9]) (by kernel_rfl) (by simp) ?_
  refine AllReadyH.cons rfl (fun K hK => ?_) AllReadyH.nil
  go_simp
  refine (empty_any b 16 (n / 16) A1 _ c1' _ hp16 HCI.out HFI.out).mono ?_
  rintro e w' ⟨rfl, rfl⟩
  refine hK.out _ _ ?_ (fun hHeld => ?_)
  · exact HCK.out
  clear hK K
  try simp only [Act.put, List.setIfInBounds_toArray, List.set_cons_zero, List.set_cons_succ, List.getElem_toArray, List.getElem_cons_zero, List.getElem_cons_succ]
  refine wpAnyH_ready (rs := [10]) (by kernel_rfl) (by simp) ?_
  refine AllReadyH.cons rfl (fun K hK => ?_) AllReadyH.nil
  go_simp
  refine (lay_any base b m _ _ n A1 c1' (N (16 + (n / 16 % 16).toNat)) _ HTK.out HBT.out hn3 hn4 HTI.out Kb HKP.out HKL.out HRD.out).mono ?_
  rintro e w5 ⟨⟨u, rfl⟩, S5, h5, f5⟩
  have c5 := h5.tickC
  have H5 := Lib.hid h5
  have F5 := Lib.hid f5
  clear h5 f5
  refine hK.out _ _ ?_ (fun hHeld => ?_)
  · exact c5
  clear hHeld
  clear hK K
  try simp only [Act.put, List.setIfInBounds_toArray, List.set_cons_zero, List.set_cons_succ, List.getElem_toArray, List.getElem_cons_zero, List.getElem_cons_succ]
  refine wpAnyH_done (by kernel_rfl) ?_ _
  refine NoPanic.normal ?_
  clear HCI HFI HTK HCK HRD HBT HTI HKP HKL c1
  go_wp2_with fail
  have H16 := Keep.mk h16
  clear h16
  obtain ⟨Aq, nq, cq, hqv⟩ : ∃ A k c, S5 (n % 16).toNat = .slice A k c := by obtain ⟨A, c, e, _⟩ := own_slice (H5.out.rows _ hq); exact ⟨A, _, c, e⟩
  have HV := Keep.mk hqv
  clear hqv
  go_region_held3 (fun W => W.cell? ⟨b, 49, none⟩ = some (.int .i64 n))
    (first | go_keep | exact ((H5.out.drew 1).taken hq).tickC | assumption)
    (first | (go_at_call 252; refine (empty_any b 0 n Aq nq cq _ (by omega) (by rw [Nat.zero_add]; exact HV.out ▸ (H5.out.drew 1).cell _ hq) ((H5.out.drew 1).free _)).mono ?_; rintro e w' ⟨rfl, rfl⟩) | fail)
  go_wp2_with fail
  go_ret
  have hp : prep n N = layN n (put N (16 + (n / 16 % 16).toNat) []) (N (16 + (n / 16 % 16).toNat)) := by unfold prep again; rw [if_pos H16.out, if_neg k2, if_neg k1]
  exact ⟨Aq, nq, cq, _, rfl, stepped_of (by rw [hp]; exact H5.out.drew 1) (((HW1.out ▸ Fr.ticked w b S 49 _ : Fr w w1 b S S).trans (Fr.drew w1 b S 1)).trans ((Fr.appended (H1.out.drew 1) hi ⟨rfl, rfl, rfl, Nat.le_refl _, fun _ _ _ => rfl⟩ (.inl rfl)).trans (F5.out.trans (Fr.drew w5 b S5 1)))) HV.out⟩
end Go.Proofs.YtfjdhdeiaakbaaaGreatDoor
/-
  The contract of nested.step where outer lists are laid anew.
-/
namespace Go.Proofs.YtfjdhdeiaakbaaaGreatDoor
open Go.RowKit

theorem layN_all (p : Due → Prop) (now : Int) : ∀ (l : List Due) (N : Nat → List Due), (∀ i, ∀ d ∈ N i, p d) → (∀ d ∈ l, p d) → ∀ i, ∀ d ∈ layN now N l i, p d
  | [], _, h, _ => h
  | x :: r, N, h, hl => layN_all p now r _ (fun i d hd => by
      by_cases e : i = pl now x.2
      · subst e
        rw [put_same, List.mem_append] at hd
        rcases hd with hd | hd
        · exact h _ d hd
        · simp only [List.mem_singleton] at hd; subst hd; exact hl _ List.mem_cons_self
      · rw [put_other _ _ e] at hd; exact h i d hd) (fun d hd => hl d (List.mem_cons_of_mem _ hd))

/-- A list is taken, and laid anew. -/
def relay (now : Int) (i : Nat) (N : Nat → List Due) : Nat → List Due := layN now (put N i []) (N i)
theorem put_len {N : Nat → List Due} {K : Nat} (h : ∀ i, (N i).length ≤ K) (i : Nat) : ∀ j, (put N i [] j).length ≤ K := fun j => by
  by_cases e : j = i
  · subst e; rw [put_same]; simp
  · rw [put_other _ _ e]; exact h j
theorem relay_len {N : Nat → List Due} {K : Nat} (h : ∀ i, (N i).length ≤ K) (now : Int) (i : Nat) : ∀ j, (relay now i N j).length ≤ 2 * K := fun j => by
  have := layN_length now K (N i) _ (put_len h i) j
  have := h i
  unfold relay
  omega
theorem relay_all {p : Due → Prop} {N : Nat → List Due} (h : ∀ i, ∀ d ∈ N i, p d) (now : Int) (i : Nat) : ∀ j, ∀ d ∈ relay now i N j, p d :=
  layN_all p now (N i) _ (fun j d hd => by
    by_cases e : j = i
    · subst e; rw [put_same] at hd; cases hd
    · rw [put_other _ _ e] at hd; exact h j d hd) (h i)
theorem lay_taken (base b m : Nat) (S : Nat → Value) (N : Nat → List Due) (now : Int) (i : Nat) (A : Option Addr) (c : Nat) (w : World) (h : WSt w base b m S N now) (hi : i < 49) (hv : S i = .slice A (N i).length c) (hbase : base ≤ w.heap.size)
    (hn : 0 ≤ now) (hn2 : now < 4611686018427387904) (hT : ∀ i, ∀ d ∈ N i, 0 ≤ d.2 ∧ d.2 < 4611686018427387904) (K : Nat) (hK : ∀ i, (N i).length ≤ K) (hK2 : 2 * K ≤ 1000000) :
    Calls Tryz.prog 230 #[.pointer (some ⟨b, 0, none⟩), .slice A (N i).length c] (w.setCell ⟨b, i, none⟩ (.slice none 0 0)) fun e w' => (∃ u, e = .returned u) ∧ ∃ S', WSt w' base b m S' (relay now i N) now ∧ Fr w w' b S S' := by
  refine (lay_any base b m _ _ now A c (N i) _ (h.taken hi) (by simpa using hbase) hn hn2 (hT i) K (put_len hK i) (by have := hK i; omega) (taken_rd h hi hv)).mono ?_
  rintro e w' ⟨hu, S', hst, hf⟩
  exact ⟨hu, S', hst, (Fr.appended h hi ⟨rfl, rfl, rfl, Nat.le_refl _, fun _ _ _ => rfl⟩ (.inl rfl)).trans hf⟩

set_option maxHeartbeats 1600000 in
theorem step_C (base b m : Nat) (S : Nat → Value) (N : Nat → List Due) (now : Int) (w : World) (h : WSt w base b m S N now) (hbase : base ≤ w.heap.size)
    (hn : 0 ≤ now) (hn2 : now < 2305843009213693952) (Kb : Nat) (hK : ∀ i, (N i).length ≤ Kb) (hK2 : 8 * Kb ≤ 1000000) (hT : ∀ i, ∀ d ∈ N i, 0 ≤ d.2 ∧ d.2 < 4611686018427387904) (h256 : (now + 1) % 256 = 0) (k1 : (now + 1) % 4096 ≠ 0) :
    Calls Tryz.prog 197 #[.pointer (some ⟨b, 0, none⟩)] w fun e w' => ∃ A n c S', e = .returned (.slice A n c) ∧ Stepped w w' base b m S N (now + 1) A n c S' := by
  have HH := Lib.hid h
  have HK1 := Lib.hid hK
  have HT1 := Lib.hid hT
  have c49 := h.tickC
  have f49 := h.free 49
  clear h hK hT
  obtain ⟨n, hne⟩ : ∃ n, now + 1 = n := ⟨_, rfl⟩
  have hw : wrap64 n = n := by unfold wrap64; omega
  have hw3 : IntKind.i64.wrap (n / 16) = n / 16 := IntWalk.i64_in _ (by omega)
  have hw4 : IntKind.i64.wrap (n / 16 / 16) = n / 16 / 16 := IntWalk.i64_in _ (by omega)
  have t1 : n.tmod 4096 = n % 4096 := Int.tmod_eq_emod_of_nonneg (by omega)
  have t2 : n.tmod 256 = n % 256 := Int.tmod_eq_emod_of_nonneg (by omega)
  have t3 : n.tmod 16 = n % 16 := Int.tmod_eq_emod_of_nonneg (by omega)
  have t4 : n.tdiv 16 = n / 16 := Int.tdiv_eq_ediv_of_nonneg (by omega)
  have t5 : (n / 16).tdiv 16 = n / 16 / 16 := Int.tdiv_eq_ediv_of_nonneg (by omega)
  have hn3 : 0 ≤ n := by omega
  have hn4 : n < 4611686018427387904 := by omega
  rw [hne] at h256 k1 ⊢
  have h16 : n % 16 = 0 := by omega
  go_enter Tryz.func197, Tryz.ntmps197
  go_wp2_with fail
  have H1 := Lib.hid (HH.out.ticked n)
  have HB1 : Keep (base ≤ (w.setCell ⟨b, 49, none⟩ (.int .i64 n)).heap.size) := ⟨by simpa using hbase⟩
  have F1 := Lib.hid (Fr.ticked w b S 49 (.int .i64 n))
  generalize hW1 : w.setCell ⟨b, 49, none⟩ (.int .i64 n) = w1 at *
  clear c49 f49 hW1
  have hi2 : (32 + (n / 16 / 16 % 16).toNat) < 49 := by omega
  obtain ⟨A2, b2, hv2⟩ : ∃ A c, S (32 + (n / 16 / 16 % 16).toNat) = .slice A (N (32 + (n / 16 / 16 % 16).toNat)).length c := by obtain ⟨A, c, e, _⟩ := own_slice (H1.out.rows _ hi2); exact ⟨A, c, e⟩
  have c2 := H1.out.tickC
  have hci2 := (H1.out.drew 1).cell _ hi2
  rw [hv2] at hci2
  have HCI2 := Keep.mk hci2
  have HFI2 := Keep.mk ((H1.out.drew 1).free (32 + (n / 16 / 16 % 16).toNat))
  have HCK2 := Keep.mk (((H1.out.drew 1).taken hi2).tickC)
  have HLT2 := Keep.mk (lay_taken base b m _ _ n _ A2 b2 _ (H1.out.drew 1) hi2 hv2 HB1.out hn3 hn4 HT1.out Kb HK1.out (by omega))
  have hp2 : 0 ≤ n / 16 / 16 := by omega
  clear hv2 hci2
  refine wp_region_noPanic ?_
  refine wp_region_held_drew (S := fun W => W.cell? ⟨b, 49, none⟩ = some (.int .i64 n)) (by kernel_rfl) c2 (fun hHeld => ?_)
  refine wpAnyH_take (i := 0) (v := ?_) rfl (by kernel_rfl) (by kernel_rfl) (by kernel_rfl) (fun _ _ _ h => h) (Or.inl ⟨by rfl, ?_⟩) (by assumption) ?_
  rotate_left
  · intro w hSw; go_simp; (try with_reducible rfl)
  try simp only [Act.put, List.setIfInBounds_toArray, List.set_cons_zero, List.set_cons_succ, List.getElem_toArray, List.getElem_cons_zero, List.getElem_cons_succ]
  refine wpAnyH_take (i := 1) (v := ?_) rfl (by kernel_rfl) (by kernel_rfl) (by kernel_rfl) (fun _ _ _ h => h) (Or.inl ⟨by rfl, ?_⟩) (by assumption) ?_
  rotate_left
  · intro w hSw; go_simp; (try with_reducible rfl)
  try simp only [Act.put, List.setIfInBounds_toArray, List.set_cons_zero, List.set_cons_succ, List.getElem_toArray, List.getElem_cons_zero, List.getElem_cons_succ]
  refine wpAnyH_take (i := 2) (v := ?_) rfl (by kernel_rfl) (by kernel_rfl) (by kernel_rfl) (fun _ _ _ h => h) (Or.inl ⟨by rfl, ?_⟩) (by assumption) ?_
  rotate_left
  · intro w hSw; go_simp; (try with_reducible rfl)
  try simp only [Act.put, List.setIfInBounds_toArray, List.set_cons_zero, List.set_cons_succ, List.getElem_toArray, List.getElem_cons_zero, List.getElem_cons_succ]
  refine wpAnyH_take (i := 3) (v := ?_) rfl (by kernel_rfl) (by kernel_rfl) (by kernel_rfl) (fun _ _ _ h => h) (Or.inl ⟨by rfl, ?_⟩) (by assumption) ?_
  rotate_left
  · intro w hSw; go_simp; (try with_reducible rfl)
  try simp only [Act.put, List.setIfInBounds_toArray, List.set_cons_zero, List.set_cons_succ, List.getElem_toArray, List.getElem_cons_zero, List.getElem_cons_succ]
  refine wpAnyH_take (i := 4) (v := ?_) rfl (by kernel_rfl) (by kernel_rfl) (by kernel_rfl) (fun _ _ _ h => h) (Or.inl ⟨by rfl, ?_⟩) (by assumption) ?_
  rotate_left
  · intro w hSw; go_simp; (try with_reducible rfl)
  try simp only [Act.put, List.setIfInBounds_toArray, List.set_cons_zero, List.set_cons_succ, List.getElem_toArray, List.getElem_cons_zero, List.getElem_cons_succ]
  refine wpAnyH_take (i := 5) (v := ?_) rfl (by kernel_rfl) (by kernel_rfl) (by kernel_rfl) (fun _ _ _ h => h) (Or.inl ⟨by rfl, ?_⟩) (by assumption) ?_
  rotate_left
  · intro w hSw; go_simp; (try with_reducible rfl)
  try simp only [Act.put, List.setIfInBounds_toArray, List.set_cons_zero, List.set_cons_succ, List.getElem_toArray, List.getElem_cons_zero, List.getElem_cons_succ]
  refine wpAnyH_take (i := 6) (v := ?_) rfl (by kernel_rfl) (by kernel_rfl) (by kernel_rfl) (fun _ _ _ h => h) (Or.inl ⟨by rfl, ?_⟩) (by assumption) ?_
  rotate_left
  · intro w hSw; go_simp; (try with_reducible rfl)
  try simp only [Act.put, List.setIfInBounds_toArray, List.set_cons_zero, List.set_cons_succ, List.getElem_toArray, List.getElem_cons_zero, List.getElem_cons_succ]
  refine wpAnyH_take (i := 7) (v := ?_) rfl (by kernel_rfl) (by kernel_rfl) (by kernel_rfl) (fun _ _ _ h => h) (Or.inl ⟨by rfl, ?_⟩) (by assumption) ?_
  rotate_left
  · intro w hSw; go_simp; (try with_reducible rfl)
  try simp only [Act.put, List.setIfInBounds_toArray, List.set_cons_zero, List.set_cons_succ, List.getElem_toArray, List.getElem_cons_zero, List.getElem_cons_succ]
  refine wpAnyH_take (i := 8) (v := ?_) rfl (by kernel_rfl) (by kernel_rfl) (by kernel_rfl) (fun _ _ _ h => h) (Or.inl ⟨by rfl, ?_⟩) (by assumption) ?_
  rotate_left
  · intro w hSw; go_simp; (try with_reducible rfl)
  try simp only [Act.put, List.setIfInBounds_toArray, List.set_cons_zero, List.set_cons_succ, List.getElem_toArray, List.getElem_cons_zero, List.getElem_cons_succ]
  refine wpAnyH_take (i := 9) (v := ?_) rfl (by kernel_rfl) (by kernel_rfl) (by kernel_rfl) (fun _ _ _ h => h) (Or.inl ⟨by rfl, ?_⟩) (by assumption) ?_
  rotate_left
  · intro w hSw; go_simp; (try with_reducible rfl)
  try simp only [Act.put, List.setIfInBounds_toArray, List.set_cons_zero, List.set_cons_succ, List.getElem_toArray, List.getElem_cons_zero, List.getElem_cons_succ]
  refine wpAnyH_ready (rs := [10]) (by kernel_rfl) (by simp) ?_
  refine AllReadyH.cons rfl (fun K hK => ?_) AllReadyH.nil
  go_simp
  refine (empty_any b 32 (n / 16 / 16) A2 _ b2 _ hp2 HCI2.out HFI2.out).mono ?_
  rintro e w' ⟨rfl, rfl⟩
  refine hK.out _ _ ?_ (fun hHeld => ?_)
  · exact HCK2.out
  clear hK K
  try simp only [Act.put, List.setIfInBounds_toArray, List.set_cons_zero, List.set_cons_succ, List.getElem_toArray, List.getElem_cons_zero, List.getElem_cons_succ]
  refine wpAnyH_ready (rs := [11]) (by kernel_rfl) (by simp) ?_
  refine AllReadyH.cons rfl (fun K hK => ?_) AllReadyH.nil
  go_simp
  refine HLT2.out.mono ?_
  rintro e w2 ⟨⟨u, rfl⟩, S2, h2, f2⟩
  have c2' := h2.tickC
  have H2 := Lib.hid h2
  have HB2 : Keep (base ≤ w2.heap.size) := ⟨Nat.le_trans HB1.out f2.size⟩
  have F2 := Lib.hid (F1.out.trans ((Fr.drew w1 b S 1).trans f2))
  clear h2 f2
  refine hK.out _ _ ?_ (fun hHeld => ?_)
  · exact c2'
  clear hHeld
  clear hK K
  try simp only [Act.put, List.setIfInBounds_toArray, List.set_cons_zero, List.set_cons_succ, List.getElem_toArray, List.getElem_cons_zero, List.getElem_cons_succ]
  refine wpAnyH_done (by kernel_rfl) ?_ _
  refine NoPanic.normal ?_
  clear c2' c2 HCI2 HFI2 HCK2 HLT2
  have H256 := Keep.mk h256
  clear h256
  have cc2 := H2.out.tickC
  have HK2 := Lib.hid (relay_len HK1.out n (32 + (n / 16 / 16 % 16).toNat))
  have HT2 := Lib.hid (relay_all HT1.out n (32 + (n / 16 / 16 % 16).toNat))
  go_wp2_with fail
  have hi3 : (16 + (n / 16 % 16).toNat) < 49 := by omega
  obtain ⟨A3, b3, hv3⟩ : ∃ A c, S2 (16 + (n / 16 % 16).toNat) = .slice A ((relay n (32 + (n / 16 / 16 % 16).toNat) N) (16 + (n / 16 % 16).toNat)).length c := by obtain ⟨A, c, e, _⟩ := own_slice (H2.out.rows _ hi3); exact ⟨A, c, e⟩
  have c3 := H2.out.tickC
  have hci3 := (H2.out.drew 1).cell _ hi3
  rw [hv3] at hci3
  have HCI3 := Keep.mk hci3
  have HFI3 := Keep.mk ((H2.out.drew 1).free (16 + (n / 16 % 16).toNat))
  have HCK3 := Keep.mk (((H2.out.drew 1).taken hi3).tickC)
  have HLT3 := Keep.mk (lay_taken base b m _ _ n _ A3 b3 _ (H2.out.drew 1) hi3 hv3 HB2.out hn3 hn4 HT2.out (2 * Kb) HK2.out (by omega))
  have hp3 : 0 ≤ n / 16 := by omega
  clear hv3 hci3
  refine wp_region_noPanic ?_
  refine wp_region_held_drew (S := fun W => W.cell? ⟨b, 49, none⟩ = some (.int .i64 n)) (by kernel_rfl) c3 (fun hHeld => ?_)
  refine wpAnyH_take (i := 0) (v := ?_) rfl (by kernel_rfl) (by kernel_rfl) (by kernel_rfl) (fun _ _ _ h => h) (Or.inl ⟨by rfl, ?_⟩) (by assumption) ?_
  rotate_left
  · intro w hSw; go_simp; (try with_reducible rfl)
  try simp only [Act.put, List.setIfInBounds_toArray, List.set_cons_zero, List.set_cons_succ, List.getElem_toArray, List.getElem_cons_zero, List.getElem_cons_succ]
  refine wpAnyH_take (i := 1) (v := ?_) rfl (by kernel_rfl) (by kernel_rfl) (by kernel_rfl) (fun _ _ _ h => h) (Or.inl ⟨by rfl, ?_⟩) (by assumption) ?_
  rotate_left
  · intro w hSw; go_simp; (try with_reducible rfl)
  try simp only [Act.put, List.setIfInBounds_toArray, List.set_cons_zero, List.set_cons_succ, List.getElem_toArray, List.getElem_cons_zero, List.getElem_cons_succ]
  refine wpAnyH_take (i := 2) (v := ?_) rfl (by kernel_rfl) (by kernel_rfl) (by kernel_rfl) (fun _ _ _ h => h) (Or.inl ⟨by rfl, ?_⟩) (by assumption) ?_
  rotate_left
  · intro w hSw; go_simp; (try with_reducible rfl)
  try simp only [Act.put, List.setIfInBounds_toArray, List.set_cons_zero, List.set_cons_succ, List.getElem_toArray, List.getElem_cons_zero, List.getElem_cons_succ]
  refine wpAnyH_take (i := 3) (v := ?_) rfl (by kernel_rfl) (by kernel_rfl) (by kernel_rfl) (fun _ _ _ h => h) (Or.inl ⟨by rfl, ?_⟩) (by assumption) ?_
  rotate_left
  · intro w hSw; go_simp; (try with_reducible rfl)
  try simp only [Act.put, List.setIfInBounds_toArray, List.set_cons_zero, List.set_cons_succ, List.getElem_toArray, List.getElem_cons_zero, List.getElem_cons_succ]
  refine wpAnyH_take (i := 4) (v := ?_) rfl (by kernel_rfl) (by kernel_rfl) (by kernel_rfl) (fun _ _ _ h => h) (Or.inl ⟨by rfl, ?_⟩) (by assumption) ?_
  rotate_left
  · intro w hSw; go_simp; (try with_reducible rfl)
  try simp only [Act.put, List.setIfInBounds_toArray, List.set_cons_zero, List.set_cons_succ, List.getElem_toArray, List.getElem_cons_zero, List.getElem_cons_succ]
  refine wpAnyH_take (i := 5) (v := ?_) rfl (by kernel_rfl) (by kernel_rfl) (by kernel_rfl) (fun _ _ _ h => h) (Or.inl ⟨by rfl, ?_⟩) (by assumption) ?_
  rotate_left
  · intro w hSw; go_simp; (try with_reducible rfl)
  try simp only [Act.put, List.setIfInBounds_toArray, List.set_cons_zero, List.set_cons_succ, List.getElem_toArray, List.getElem_cons_zero, List.getElem_cons_succ]
  refine wpAnyH_take (i := 6) (v := ?_) rfl (by kernel_rfl) (by kernel_rfl) (by kernel_rfl) (fun _ _ _ h => h) (Or.inl ⟨by rfl, ?_⟩) (by assumption) ?_
  rotate_left
  · intro w hSw; go_simp; (try with_reducible rfl)
  try simp only [Act.put, List.setIfInBounds_toArray, List.set_cons_zero, List.set_cons_succ, List.getElem_toArray, List.getElem_cons_zero, List.getElem_cons_succ]
  refine wpAnyH_take (i := 7) (v := ?_) rfl (by kernel_rfl) (by kernel_rfl) (by kernel_rfl) (fun _ _ _ h => h) (Or.inl ⟨by rfl, ?_⟩) (by assumption) ?_
  rotate_left
  · intro w hSw; go_simp; (try with_reducible rfl)
  try simp only [Act.put, List.setIfInBounds_toArray, List.set_cons_zero, List.set_cons_succ, List.getElem_toArray, List.getElem_cons_zero, List.getElem_cons_succ]
  refine wpAnyH_take (i := 8) (v := ?_) rfl (by kernel_rfl) (by kernel_rfl) (by kernel_rfl) (fun _ _ _ h => h) (Or.inl ⟨by rfl, ?_⟩) (by assumption) ?_
  rotate_left
  · intro w hSw; go_simp; (try with_reducible rfl)
  try simp only [Act.put, List.setIfInBounds_toArray, List.set_cons_zero, List.set_cons_succ, List.getElem_toArray, List.getElem_cons_zero, List.getElem_cons_succ]
  refine wpAnyH_ready (rs := [9]) (by kernel_rfl) (by simp) ?_
  refine AllReadyH.cons rfl (fun K hK => ?_) AllReadyH.nil
  go_simp
  refine (empty_any b 16 (n / 16) A3 _ b3 _ hp3 HCI3.out HFI3.out).mono ?_
  rintro e w' ⟨rfl, rfl⟩
  refine hK.out _ _ ?_ (fun hHeld => ?_)
  · exact HCK3.out
  clear hK K
  try simp only [Act.put, List.setIfInBounds_toArray, List.set_cons_zero, List.set_cons_succ, List.getElem_toArray, List.getElem_cons_zero, List.getElem_cons_succ]
  refine wpAnyH_ready (rs := [10]) (by kernel_rfl) (by simp) ?_
  refine AllReadyH.cons rfl (fun K hK => ?_) AllReadyH.nil
  go_simp
  refine HLT3.out.mono ?_
  rintro e w3 ⟨⟨u, rfl⟩, S3, h3, f3⟩
  have c3' := h3.tickC
  have H3 := Lib.hid h3
  have HB3 : Keep (base ≤ w3.heap.size) := ⟨Nat.le_trans HB2.out f3.size⟩
  have F3 := Lib.hid (F2.out.trans ((Fr.drew w2 b S2 1).trans f3))
  clear h3 f3
  refine hK.out _ _ ?_ (fun hHeld => ?_)
  · exact c3'
  clear hHeld
  clear hK K
  try simp only [Act.put, List.setIfInBounds_toArray, List.set_cons_zero, List.set_cons_succ, List.getElem_toArray, List.getElem_cons_zero, List.getElem_cons_succ]
  refine wpAnyH_done (by kernel_rfl) ?_ _
  refine NoPanic.normal ?_
  clear c3' c3 HCI3 HFI3 HCK3 HLT3
  have H16 := Keep.mk h16
  clear h16
  go_wp2_with fail
  have hq : (n % 16).toNat < 49 := by omega
  obtain ⟨Aq, nq, cq, hqv⟩ : ∃ A k c, S3 (n % 16).toNat = .slice A k c := by obtain ⟨A, c, e, _⟩ := own_slice (H3.out.rows _ hq); exact ⟨A, _, c, e⟩
  have HV := Keep.mk hqv
  have c1 := H3.out.tickC
  clear hqv
  go_region_held3 (fun W => W.cell? ⟨b, 49, none⟩ = some (.int .i64 n))
    (first | go_keep | exact ((H3.out.drew 1).taken hq).tickC | assumption)
    (first | (go_at_call 252; refine (empty_any b 0 n Aq nq cq _ (by omega) (by rw [Nat.zero_add]; exact HV.out ▸ (H3.out.drew 1).cell _ hq) ((H3.out.drew 1).free _)).mono ?_; rintro e w' ⟨rfl, rfl⟩) | fail)
  go_wp2_with fail
  go_ret
  have hp : prep n N = relay n (16 + (n / 16 % 16).toNat) (relay n (32 + (n / 16 / 16 % 16).toNat) N) := by unfold prep again; rw [if_pos H16.out, if_pos H256.out, if_neg k1]; rfl
  exact ⟨Aq, nq, cq, _, rfl, stepped_of (by rw [hp]; exact H3.out.drew 1) (F3.out.trans (Fr.drew w3 b S3 1)) HV.out⟩
end Go.Proofs.YtfjdhdeiaakbaaaGreatDoor
/-
  The contract of nested.step where what is far is laid anew; and of every step.
-/
namespace Go.Proofs.YtfjdhdeiaakbaaaGreatDoor
open Go.RowKit

set_option maxHeartbeats 1600000 in
theorem step_D (base b m : Nat) (S : Nat → Value) (N : Nat → List Due) (now : Int) (w : World) (h : WSt w base b m S N now) (hbase : base ≤ w.heap.size)
    (hn : 0 ≤ now) (hn2 : now < 2305843009213693952) (Kb : Nat) (hK : ∀ i, (N i).length ≤ Kb) (hK2 : 8 * Kb ≤ 1000000) (hT : ∀ i, ∀ d ∈ N i, 0 ≤ d.2 ∧ d.2 < 4611686018427387904) (h4096 : (now + 1) % 4096 = 0) :
    Calls Tryz.prog 197 #[.pointer (some ⟨b, 0, none⟩)] w fun e w' => ∃ A n c S', e = .returned (.slice A n c) ∧ Stepped w w' base b m S N (now + 1) A n c S' := by
  have HH := Lib.hid h
  have HK1 := Lib.hid hK
  have HT1 := Lib.hid hT
  have c49 := h.tickC
  have f49 := h.free 49
  clear h hK hT
  obtain ⟨n, hne⟩ : ∃ n, now + 1 = n := ⟨_, rfl⟩
  have hw : wrap64 n = n := by unfold wrap64; omega
  have hw3 : IntKind.i64.wrap (n / 16) = n / 16 := IntWalk.i64_in _ (by omega)
  have hw4 : IntKind.i64.wrap (n / 16 / 16) = n / 16 / 16 := IntWalk.i64_in _ (by omega)
  have t1 : n.tmod 4096 = n % 4096 := Int.tmod_eq_emod_of_nonneg (by omega)
  have t2 : n.tmod 256 = n % 256 := Int.tmod_eq_emod_of_nonneg (by omega)
  have t3 : n.tmod 16 = n % 16 := Int.tmod_eq_emod_of_nonneg (by omega)
  have t4 : n.tdiv 16 = n / 16 := Int.tdiv_eq_ediv_of_nonneg (by omega)
  have t5 : (n / 16).tdiv 16 = n / 16 / 16 := Int.tdiv_eq_ediv_of_nonneg (by omega)
  have hn3 : 0 ≤ n := by omega
  have hn4 : n < 4611686018427387904 := by omega
  rw [hne] at h4096 ⊢
  have h16 : n % 16 = 0 := by omega
  have h256 : n % 256 = 0 := by omega
  go_enter Tryz.func197, Tryz.ntmps197
  have H1 := Lib.hid (HH.out.ticked n)
  have HB1 : Keep (base ≤ (w.setCell ⟨b, 49, none⟩ (.int .i64 n)).heap.size) := ⟨by simpa using hbase⟩
  have F1 := Lib.hid (Fr.ticked w b S 49 (.int .i64 n))
  obtain ⟨A8, b8, hv8⟩ : ∃ A c, S 48 = .slice A (N 48).length c := by obtain ⟨A, c, e, _⟩ := own_slice (HH.out.rows 48 (by omega)); exact ⟨A, c, e⟩
  have c48 := H1.out.cell 48 (by omega)
  rw [hv8] at c48
  have f48 := H1.out.free 48
  have HLT8 := Keep.mk (lay_taken base b m _ _ n _ A8 b8 _ H1.out (by omega) hv8 HB1.out hn3 hn4 HT1.out Kb HK1.out (by omega))
  have H4096 := Keep.mk h4096
  go_wp2_with (first
    | (go_at_call 230; refine HLT8.out.mono ?_; rintro e w9 ⟨⟨u, rfl⟩, S9, h9, f9⟩; have c9' := h9.tickC; have H9 := Lib.hid h9; have F9 := Lib.hid (F1.out.trans f9); have HB9 : Keep (base ≤ w9.heap.size) := ⟨Nat.le_trans HB1.out f9.size⟩; clear h9 f9)
    | fail)
  have HK9 := Lib.hid (relay_len HK1.out n 48)
  have HT9 := Lib.hid (relay_all HT1.out n 48)
  obtain ⟨N9, hN9⟩ : ∃ N9, relay n 48 N = N9 := ⟨_, rfl⟩
  rw [hN9] at H9 HK9 HT9
  have HN9 := Keep.mk hN9
  clear hN9 c49 f49 c48 f48 hv8 HLT8 c9' H1 HB1 F1 HK1 HT1 h4096
  have hi2 : (32 + (n / 16 / 16 % 16).toNat) < 49 := by omega
  obtain ⟨A2, b2, hv2⟩ : ∃ A c, S9 (32 + (n / 16 / 16 % 16).toNat) = .slice A (N9 (32 + (n / 16 / 16 % 16).toNat)).length c := by obtain ⟨A, c, e, _⟩ := own_slice (H9.out.rows _ hi2); exact ⟨A, c, e⟩
  have c2 := H9.out.tickC
  have hci2 := (H9.out.drew 1).cell _ hi2
  rw [hv2] at hci2
  have HCI2 := Keep.mk hci2
  have HFI2 := Keep.mk ((H9.out.drew 1).free (32 + (n / 16 / 16 % 16).toNat))
  have HCK2 := Keep.mk (((H9.out.drew 1).taken hi2).tickC)
  have HLT2 := Keep.mk (lay_taken base b m _ _ n _ A2 b2 _ (H9.out.drew 1) hi2 hv2 HB9.out hn3 hn4 HT9.out (2 * Kb) HK9.out (by omega))
  have hp2 : 0 ≤ n / 16 / 16 := by omega
  clear hv2 hci2
  refine wp_region_noPanic ?_
  refine wp_region_held_drew (S := fun W => W.cell? ⟨b, 49, none⟩ = some (.int .i64 n)) (by kernel_rfl) c2 (fun hHeld => ?_)
  refine wpAnyH_take (i := 0) (v := ?_) rfl (by kernel_rfl) (by kernel_rfl) (by kernel_rfl) (fun _ _ _ h => h) (Or.inl ⟨by rfl, ?_⟩) (by assumption) ?_
  rotate_left
  · intro w hSw; go_simp; (try with_reducible rfl)
  try simp only [Act.put, List.setIfInBounds_toArray, List.set_cons_zero, List.set_cons_succ, List.getElem_toArray, List.getElem_cons_zero, List.getElem_cons_succ]
  refine wpAnyH_take (i := 1) (v := ?_) rfl (by kernel_rfl) (by kernel_rfl) (by kernel_rfl) (fun _ _ _ h => h) (Or.inl ⟨by rfl, ?_⟩) (by assumption) ?_
  rotate_left
  · intro w hSw; go_simp; (try with_reducible rfl)
  try simp only [Act.put, List.setIfInBounds_toArray, List.set_cons_zero, List.set_cons_succ, List.getElem_toArray, List.getElem_cons_zero, List.getElem_cons_succ]
  refine wpAnyH_take (i := 2) (v := ?_) rfl (by kernel_rfl) (by kernel_rfl) (by kernel_rfl) (fun _ _ _ h => h) (Or.inl ⟨by rfl, ?_⟩) (by assumption) ?_
  rotate_left
  · intro w hSw; go_simp; (try with_reducible rfl)
  try simp only [Act.put, List.setIfInBounds_toArray, List.set_cons_zero, List.set_cons_succ, List.getElem_toArray, List.getElem_cons_zero, List.getElem_cons_succ]
  refine wpAnyH_take (i := 3) (v := ?_) rfl (by kernel_rfl) (by kernel_rfl) (by kernel_rfl) (fun _ _ _ h => h) (Or.inl ⟨by rfl, ?_⟩) (by assumption) ?_
  rotate_left
  · intro w hSw; go_simp; (try with_reducible rfl)
  try simp only [Act.put, List.setIfInBounds_toArray, List.set_cons_zero, List.set_cons_succ, List.getElem_toArray, List.getElem_cons_zero, List.getElem_cons_succ]
  refine wpAnyH_take (i := 4) (v := ?_) rfl (by kernel_rfl) (by kernel_rfl) (by kernel_rfl) (fun _ _ _ h => h) (Or.inl ⟨by rfl, ?_⟩) (by assumption) ?_
  rotate_left
  · intro w hSw; go_simp; (try with_reducible rfl)
  try simp only [Act.put, List.setIfInBounds_toArray, List.set_cons_zero, List.set_cons_succ, List.getElem_toArray, List.getElem_cons_zero, List.getElem_cons_succ]
  refine wpAnyH_take (i := 5) (v := ?_) rfl (by kernel_rfl) (by kernel_rfl) (by kernel_rfl) (fun _ _ _ h => h) (Or.inl ⟨by rfl, ?_⟩) (by assumption) ?_
  rotate_left
  · intro w hSw; go_simp; (try with_reducible rfl)
  try simp only [Act.put, List.setIfInBounds_toArray, List.set_cons_zero, List.set_cons_succ, List.getElem_toArray, List.getElem_cons_zero, List.getElem_cons_succ]
  refine wpAnyH_take (i := 6) (v := ?_) rfl (by kernel_rfl) (by kernel_rfl) (by kernel_rfl) (fun _ _ _ h => h) (Or.inl ⟨by rfl, ?_⟩) (by assumption) ?_
  rotate_left
  · intro w hSw; go_simp; (try with_reducible rfl)
  try simp only [Act.put, List.setIfInBounds_toArray, List.set_cons_zero, List.set_cons_succ, List.getElem_toArray, List.getElem_cons_zero, List.getElem_cons_succ]
  refine wpAnyH_take (i := 7) (v := ?_) rfl (by kernel_rfl) (by kernel_rfl) (by kernel_rfl) (fun _ _ _ h => h) (Or.inl ⟨by rfl, ?_⟩) (by assumption) ?_
  rotate_left
  · intro w hSw; go_simp; (try with_reducible rfl)
  try simp only [Act.put, List.setIfInBounds_toArray, List.set_cons_zero, List.set_cons_succ, List.getElem_toArray, List.getElem_cons_zero, List.getElem_cons_succ]
  refine wpAnyH_take (i := 8) (v := ?_) rfl (by kernel_rfl) (by kernel_rfl) (by kernel_rfl) (fun _ _ _ h => h) (Or.inl ⟨by rfl, ?_⟩) (by assumption) ?_
  rotate_left
  · intro w hSw; go_simp; (try with_reducible rfl)
  try simp only [Act.put, List.setIfInBounds_toArray, List.set_cons_zero, List.set_cons_succ, List.getElem_toArray, List.getElem_cons_zero, List.getElem_cons_succ]
  refine wpAnyH_take (i := 9) (v := ?_) rfl (by kernel_rfl) (by kernel_rfl) (by kernel_rfl) (fun _ _ _ h => h) (Or.inl ⟨by rfl, ?_⟩) (by assumption) ?_
  rotate_left
  · intro w hSw; go_simp; (try with_reducible rfl)
  try simp only [Act.put, List.setIfInBounds_toArray, List.set_cons_zero, List.set_cons_succ, List.getElem_toArray, List.getElem_cons_zero, List.getElem_cons_succ]
  refine wpAnyH_ready (rs := [10]) (by kernel_rfl) (by simp) ?_
  refine AllReadyH.cons rfl (fun K hK => ?_) AllReadyH.nil
  go_simp
  refine (empty_any b 32 (n / 16 / 16) A2 _ b2 _ hp2 HCI2.out HFI2.out).mono ?_
  rintro e w' ⟨rfl, rfl⟩
  refine hK.out _ _ ?_ (fun hHeld => ?_)
  · exact HCK2.out
  clear hK K
  try simp only [Act.put, List.setIfInBounds_toArray, List.set_cons_zero, List.set_cons_succ, List.getElem_toArray, List.getElem_cons_zero, List.getElem_cons_succ]
  refine wpAnyH_ready (rs := [11]) (by kernel_rfl) (by simp) ?_
  refine AllReadyH.cons rfl (fun K hK => ?_) AllReadyH.nil
  go_simp
  refine HLT2.out.mono ?_
  rintro e w2 ⟨⟨u, rfl⟩, S2, h2, f2⟩
  have c2' := h2.tickC
  have H2 := Lib.hid h2
  have HB2 : Keep (base ≤ w2.heap.size) := ⟨Nat.le_trans HB9.out f2.size⟩
  have F2 := Lib.hid (F9.out.trans ((Fr.drew w9 b S9 1).trans f2))
  clear h2 f2
  refine hK.out _ _ ?_ (fun hHeld => ?_)
  · exact c2'
  clear hHeld
  clear hK K
  try simp only [Act.put, List.setIfInBounds_toArray, List.set_cons_zero, List.set_cons_succ, List.getElem_toArray, List.getElem_cons_zero, List.getElem_cons_succ]
  refine wpAnyH_done (by kernel_rfl) ?_ _
  refine NoPanic.normal ?_
  clear c2' c2 HCI2 HFI2 HCK2 HLT2
  have H256 := Keep.mk h256
  clear h256
  have cc2 := H2.out.tickC
  have HK2 := Lib.hid (relay_len HK9.out n (32 + (n / 16 / 16 % 16).toNat))
  have HT2 := Lib.hid (relay_all HT9.out n (32 + (n / 16 / 16 % 16).toNat))
  go_wp2_with fail
  have hi3 : (16 + (n / 16 % 16).toNat) < 49 := by omega
  obtain ⟨A3, b3, hv3⟩ : ∃ A c, S2 (16 + (n / 16 % 16).toNat) = .slice A ((relay n (32 + (n / 16 / 16 % 16).toNat) N9) (16 + (n / 16 % 16).toNat)).length c := by obtain ⟨A, c, e, _⟩ := own_slice (H2.out.rows _ hi3); exact ⟨A, c, e⟩
  have c3 := H2.out.tickC
  have hci3 := (H2.out.drew 1).cell _ hi3
  rw [hv3] at hci3
  have HCI3 := Keep.mk hci3
  have HFI3 := Keep.mk ((H2.out.drew 1).free (16 + (n / 16 % 16).toNat))
  have HCK3 := Keep.mk (((H2.out.drew 1).taken hi3).tickC)
  have HLT3 := Keep.mk (lay_taken base b m _ _ n _ A3 b3 _ (H2.out.drew 1) hi3 hv3 HB2.out hn3 hn4 HT2.out (2 * (2 * Kb)) HK2.out (by omega))
  have hp3 : 0 ≤ n / 16 := by omega
  clear hv3 hci3
  refine wp_region_noPanic ?_
  refine wp_region_held_drew (S := fun W => W.cell? ⟨b, 49, none⟩ = some (.int .i64 n)) (by kernel_rfl) c3 (fun hHeld => ?_)
  refine wpAnyH_take (i := 0) (v := ?_) rfl (by kernel_rfl) (by kernel_rfl) (by kernel_rfl) (fun _ _ _ h => h) (Or.inl ⟨by rfl, ?_⟩) (by assumption) ?_
  rotate_left
  · intro w hSw; go_simp; (try with_reducible rfl)
  try simp only [Act.put, List.setIfInBounds_toArray, List.set_cons_zero, List.set_cons_succ, List.getElem_toArray, List.getElem_cons_zero, List.getElem_cons_succ]
  refine wpAnyH_take (i := 1) (v := ?_) rfl (by kernel_rfl) (by kernel_rfl) (by kernel_rfl) (fun _ _ _ h => h) (Or.inl ⟨by rfl, ?_⟩) (by assumption) ?_
  rotate_left
  · intro w hSw; go_simp; (try with_reducible rfl)
  try simp only [Act.put, List.setIfInBounds_toArray, List.set_cons_zero, List.set_cons_succ, List.getElem_toArray, List.getElem_cons_zero, List.getElem_cons_succ]
  refine wpAnyH_take (i := 2) (v := ?_) rfl (by kernel_rfl) (by kernel_rfl) (by kernel_rfl) (fun _ _ _ h => h) (Or.inl ⟨by rfl, ?_⟩) (by assumption) ?_
  rotate_left
  · intro w hSw; go_simp; (try with_reducible rfl)
  try simp only [Act.put, List.setIfInBounds_toArray, List.set_cons_zero, List.set_cons_succ, List.getElem_toArray, List.getElem_cons_zero, List.getElem_cons_succ]
  refine wpAnyH_take (i := 3) (v := ?_) rfl (by kernel_rfl) (by kernel_rfl) (by kernel_rfl) (fun _ _ _ h => h) (Or.inl ⟨by rfl, ?_⟩) (by assumption) ?_
  rotate_left
  · intro w hSw; go_simp; (try with_reducible rfl)
  try simp only [Act.put, List.setIfInBounds_toArray, List.set_cons_zero, List.set_cons_succ, List.getElem_toArray, List.getElem_cons_zero, List.getElem_cons_succ]
  refine wpAnyH_take (i := 4) (v := ?_) rfl (by kernel_rfl) (by kernel_rfl) (by kernel_rfl) (fun _ _ _ h => h) (Or.inl ⟨by rfl, ?_⟩) (by assumption) ?_
  rotate_left
  · intro w hSw; go_simp; (try with_reducible rfl)
  try simp only [Act.put, List.setIfInBounds_toArray, List.set_cons_zero, List.set_cons_succ, List.getElem_toArray, List.getElem_cons_zero, List.getElem_cons_succ]
  refine wpAnyH_take (i := 5) (v := ?_) rfl (by kernel_rfl) (by kernel_rfl) (by kernel_rfl) (fun _ _ _ h => h) (Or.inl ⟨by rfl, ?_⟩) (by assumption) ?_
  rotate_left
  · intro w hSw; go_simp; (try with_reducible rfl)
  try simp only [Act.put, List.setIfInBounds_toArray, List.set_cons_zero, List.set_cons_succ, List.getElem_toArray, List.getElem_cons_zero, List.getElem_cons_succ]
  refine wpAnyH_take (i := 6) (v := ?_) rfl (by kernel_rfl) (by kernel_rfl) (by kernel_rfl) (fun _ _ _ h => h) (Or.inl ⟨by rfl, ?_⟩) (by assumption) ?_
  rotate_left
  · intro w hSw; go_simp; (try with_reducible rfl)
  try simp only [Act.put, List.setIfInBounds_toArray, List.set_cons_zero, List.set_cons_succ, List.getElem_toArray, List.getElem_cons_zero, List.getElem_cons_succ]
  refine wpAnyH_take (i := 7) (v := ?_) rfl (by kernel_rfl) (by kernel_rfl) (by kernel_rfl) (fun _ _ _ h => h) (Or.inl ⟨by rfl, ?_⟩) (by assumption) ?_
  rotate_left
  · intro w hSw; go_simp; (try with_reducible rfl)
  try simp only [Act.put, List.setIfInBounds_toArray, List.set_cons_zero, List.set_cons_succ, List.getElem_toArray, List.getElem_cons_zero, List.getElem_cons_succ]
  refine wpAnyH_take (i := 8) (v := ?_) rfl (by kernel_rfl) (by kernel_rfl) (by kernel_rfl) (fun _ _ _ h => h) (Or.inl ⟨by rfl, ?_⟩) (by assumption) ?_
  rotate_left
  · intro w hSw; go_simp; (try with_reducible rfl)
  try simp only [Act.put, List.setIfInBounds_toArray, List.set_cons_zero, List.set_cons_succ, List.getElem_toArray, List.getElem_cons_zero, List.getElem_cons_succ]
  refine wpAnyH_ready (rs := [9]) (by kernel_rfl) (by simp) ?_
  refine AllReadyH.cons rfl (fun K hK => ?_) AllReadyH.nil
  go_simp
  refine (empty_any b 16 (n / 16) A3 _ b3 _ hp3 HCI3.out HFI3.out).mono ?_
  rintro e w' ⟨rfl, rfl⟩
  refine hK.out _ _ ?_ (fun hHeld => ?_)
  · exact HCK3.out
  clear hK K
  try simp only [Act.put, List.setIfInBounds_toArray, List.set_cons_zero, List.set_cons_succ, List.getElem_toArray, List.getElem_cons_zero, List.getElem_cons_succ]
  refine wpAnyH_ready (rs := [10]) (by kernel_rfl) (by simp) ?_
  refine AllReadyH.cons rfl (fun K hK => ?_) AllReadyH.nil
  go_simp
  refine HLT3.out.mono ?_
  rintro e w3 ⟨⟨u, rfl⟩, S3, h3, f3⟩
  have c3' := h3.tickC
  have H3 := Lib.hid h3
  have HB3 : Keep (base ≤ w3.heap.size) := ⟨Nat.le_trans HB2.out f3.size⟩
  have F3 := Lib.hid (F2.out.trans ((Fr.drew w2 b S2 1).trans f3))
  clear h3 f3
  refine hK.out _ _ ?_ (fun hHeld => ?_)
  · exact c3'
  clear hHeld
  clear hK K
  try simp only [Act.put, List.setIfInBounds_toArray, List.set_cons_zero, List.set_cons_succ, List.getElem_toArray, List.getElem_cons_zero, List.getElem_cons_succ]
  refine wpAnyH_done (by kernel_rfl) ?_ _
  refine NoPanic.normal ?_
  clear c3' c3 HCI3 HFI3 HCK3 HLT3
  have H16 := Keep.mk h16
  clear h16
  go_wp2_with fail
  have hq : (n % 16).toNat < 49 := by omega
  obtain ⟨Aq, nq, cq, hqv⟩ : ∃ A k c, S3 (n % 16).toNat = .slice A k c := by obtain ⟨A, c, e, _⟩ := own_slice (H3.out.rows _ hq); exact ⟨A, _, c, e⟩
  have HV := Keep.mk hqv
  have c1 := H3.out.tickC
  clear hqv
  go_region_held3 (fun W => W.cell? ⟨b, 49, none⟩ = some (.int .i64 n))
    (first | go_keep | exact ((H3.out.drew 1).taken hq).tickC | assumption)
    (first | (go_at_call 252; refine (empty_any b 0 n Aq nq cq _ (by omega) (by rw [Nat.zero_add]; exact HV.out ▸ (H3.out.drew 1).cell _ hq) ((H3.out.drew 1).free _)).mono ?_; rintro e w' ⟨rfl, rfl⟩) | fail)
  go_wp2_with fail
  go_ret
  have hp : prep n N = relay n (16 + (n / 16 % 16).toNat) (relay n (32 + (n / 16 / 16 % 16).toNat) N9) := by rw [← HN9.out]; unfold prep again; rw [if_pos H16.out, if_pos H256.out, if_pos H4096.out]; rfl
  exact ⟨Aq, nq, cq, _, rfl, stepped_of (by rw [hp]; exact H3.out.drew 1) (F3.out.trans (Fr.drew w3 b S3 1)) HV.out⟩

theorem step_any (base b m : Nat) (S : Nat → Value) (N : Nat → List Due) (now : Int) (w : World) (h : WSt w base b m S N now) (hbase : base ≤ w.heap.size)
    (hn : 0 ≤ now) (hn2 : now < 2305843009213693952) (Kb : Nat) (hK : ∀ i, (N i).length ≤ Kb) (hK2 : 8 * Kb ≤ 1000000) (hT : ∀ i, ∀ d ∈ N i, 0 ≤ d.2 ∧ d.2 < 4611686018427387904) :
    Calls Tryz.prog 197 #[.pointer (some ⟨b, 0, none⟩)] w fun e w' => ∃ A n c S', e = .returned (.slice A n c) ∧ Stepped w w' base b m S N (now + 1) A n c S' := by
  by_cases h16 : (now + 1) % 16 = 0
  · by_cases h256 : (now + 1) % 256 = 0
    · by_cases h4096 : (now + 1) % 4096 = 0
      · exact step_D base b m S N now w h hbase hn hn2 Kb hK hK2 hT h4096
      · exact step_C base b m S N now w h hbase hn hn2 Kb hK hK2 hT h256 h4096
    · exact step_B base b m S N now w h hbase hn hn2 Kb hK (by omega) hT h16 h256
  · exact step_A base b m S N now w h hbase hn hn2 Kb hK h16
end Go.Proofs.YtfjdhdeiaakbaaaGreatDoor
/-
  The contracts of Cancel's closure, and of slices.IndexFunc with it.
-/
namespace Go.Proofs.YtfjdhdeiaakbaaaGreatDoor
open Go.RowKit

theorem same_any (g : Nat) (h : Int) (d : Due) (w : World) (hg : g < w.heap.size) (hc : w.cell? ⟨g, 0, none⟩ = some (.int .i64 h)) :
    Calls Tryz.prog 287 #[.agg #[.int .i64 d.1, .int .i64 d.2], .pointer (some ⟨g, 0, none⟩)] w fun e w' => e = .returned (.bool (decide (d.1 = h))) ∧ Below w.heap.size w w' := by
  have hne : g ≠ w.heap.size := by omega
  by_cases hd : d.1 = h
  · go_enter Tryz.func287, Tryz.ntmps287
    go_wp2_with fail
    go_ret
    exact ⟨by simp [hd], (Below.refl _ w).alloc (Nat.le_refl _) _⟩
  · go_enter Tryz.func287, Tryz.ntmps287
    go_wp2_with fail
    go_ret
    exact ⟨by simp [hd], (Below.refl _ w).alloc (Nat.le_refl _) _⟩

set_option maxHeartbeats 1600000 in
theorem index_any (g : Nat) (h : Int) (A : Option Addr) (c : Nat) (l : List Due) (w : World) (hg : g < w.heap.size) (hc : w.cell? ⟨g, 0, none⟩ = some (.int .i64 h))
    (hr : Rd w w.heap.size 2 dueC A l) (hl : l.length ≤ 1000000) :
    Calls Tryz.prog 331 #[.slice A l.length c, .func (.func 287) #[] #[.pointer (some ⟨g, 0, none⟩)]] w fun e w' => Below w.heap.size w w' ∧ ∃ i : Int, e = .returned (.int .i64 i) ∧
      ((i = -1 ∧ ∀ d ∈ l, d.1 ≠ h) ∨ ∃ k, k < l.length ∧ i = (k : Int) ∧ (∃ d, l[k]? = some d ∧ d.1 = h) ∧ ∀ d ∈ l.take k, d.1 ≠ h) := by
  have HR := Lib.hid hr
  have HC := Keep.mk hc
  clear hr hc
  go_enter Tryz.func331, Tryz.ntmps331
  go_wp2
  go_loopw [5, 8] (fun _ i wr => ∃ k : Nat, k ≤ l.length ∧ i = .int .i64 k ∧ Below w.heap.size w wr ∧ Keep (∀ d ∈ l.take k, d.1 ≠ h)) (fun _ i _ => l.length - (intOf i).toNat)
  case atStart => exact ⟨0, by omega, rfl, Below.refl _ _, ⟨by simp⟩⟩
  case round =>
    obtain ⟨k, hk, rfl, hb, HT⟩ := hrel
    by_cases hlt : k < l.length
    · obtain ⟨g1, off, rfl, hg1, hcs⟩ := HR.out (List.ne_nil_of_length_pos (by omega))
      obtain ⟨d, hd⟩ : ∃ d, l[k] = d := ⟨_, rfl⟩
      have hlk : l[k]? = some d := by rw [List.getElem?_eq_getElem hlt, hd]
      have c0 : wr.cell? ⟨g1, off + k * 2, none⟩ = some (.int .i64 d.1) := (hb.cell hg1).trans (hcs k d hlk 0 _ rfl)
      have c1 : wr.cell? ⟨g1, off + k * 2 + 1, none⟩ = some (.int .i64 d.2) := (hb.cell hg1).trans (hcs k d hlk 1 _ rfl)
      have hs := same_any g h d wr (Nat.lt_of_lt_of_le hg hb.size) ((hb.cell hg).trans HC.out)
      have HLK := Keep.mk hlk
      have HB := Keep.mk hb
      have hlti : ((k : Nat) : Int) < (l.length : Int) := by omega
      clear hcs hb hlk hd
      by_cases he : d.1 = h
      · rw [decide_eq_true he] at hs
        have HS := Keep.mk hs
        have HE := Keep.mk he
        clear hs he
        go_wp2_with (first | (go_at_call 287; go_loud (refine HS.out.mono ?_; rintro e w' ⟨rfl, hb'⟩); have HB' := Keep.mk hb'; clear hb') | fail)
        go_ret
        exact ⟨HB.out.trans (HB'.out.mono HB.out.size), k, rfl, .inr ⟨k, hlt, rfl, ⟨d, HLK.out, HE.out⟩, HT.out⟩⟩
      · rw [decide_eq_false he] at hs
        have HS := Keep.mk hs
        have HE := Keep.mk he
        clear hs he
        go_wp2_with (first | (go_at_call 287; go_loud (refine HS.out.mono ?_; rintro e w' ⟨rfl, hb'⟩); have HB' := Keep.mk hb'; clear hb') | fail)
        go_roundw
        case rel =>
          refine ⟨k + 1, by omega, by go_num, HB.out.trans (HB'.out.mono HB.out.size), ⟨fun x hx => ?_⟩⟩
          have ht : l.take (k + 1) = l.take k ++ [d] := by
            rw [List.take_add_one, HLK.out]; rfl
          rw [ht, List.mem_append] at hx
          rcases hx with hx | hx
          · exact HT.out x hx
          · simp only [List.mem_singleton] at hx; subst hx; exact HE.out
        case measure => simp [intOf] <;> omega
    · have hge : k = l.length := by omega
      subst hge
      go_wp2
      go_ret
      exact ⟨hb, -1, rfl, .inl ⟨rfl, by have := HT.out; rwa [List.take_length] at this⟩⟩
end Go.Proofs.YtfjdhdeiaakbaaaGreatDoor
/-
  The contract of slices.DeleteFunc with Cancel's closure.
-/
namespace Go.Proofs.YtfjdhdeiaakbaaaGreatDoor
open Go.RowKit

theorem flat_set (a b : Int) : ∀ (L : List Due) (i : Nat), i < L.length → ((L.flatMap dueC).set (i * 2) (.int .i64 a)).set (i * 2 + 1) (.int .i64 b) = (L.set i (a, b)).flatMap dueC
  | x :: r, 0, _ => rfl
  | x :: r, i + 1, h => by
    have := flat_set a b r i (by simpa using h)
    rw [List.set_cons_succ, List.flatMap_cons, List.flatMap_cons, ← this]
    rw [show (i + 1) * 2 = i * 2 + 1 + 1 by omega]
    rfl
theorem flat_take : ∀ (L : List Due) (i : Nat), (L.flatMap dueC).take (i * 2) = (L.take i).flatMap dueC
  | [], i => by simp
  | x :: r, 0 => by simp
  | x :: r, i + 1 => by
    have := flat_take r i
    rw [List.take_succ_cons, List.flatMap_cons, List.flatMap_cons, ← this, show (i + 1) * 2 = i * 2 + 1 + 1 by omega]
    rfl

section
variable {w w' : World} {base g n c : Nat} {L : List Due}
theorem own_set (h : w.ownsRow base 195 2 (.slice (some ⟨g, 0, none⟩) n c) n (L.flatMap dueC)) (hL : L.length = n) (i : Nat) (hi : i < n) (a b : Int) :
    ((w.setCell ⟨g, i * 2, none⟩ (.int .i64 a)).setCell ⟨g, i * 2 + 1, none⟩ (.int .i64 b)).ownsRow base 195 2 (.slice (some ⟨g, 0, none⟩) n c) n ((L.set i (a, b)).flatMap dueC) := by
  obtain ⟨hl, h⟩ := h
  have hl2 : ((L.set i (a, b)).flatMap dueC).length = n * 2 := by rw [← flat_set a b L i (by omega)]; simpa using hl
  refine ⟨hl2, ?_⟩
  rcases h with ⟨e, _⟩ | ⟨g', cap, cur, hv, hb, hg, h1, h2, h3, h4⟩
  · cases e
  · cases hv
    refine .inr ⟨g, c, _, rfl, hb, cells_set (cells_set hg (i * 2) _) (i * 2 + 1) _, h1, h2, by simpa using h3, ?_⟩
    rw [Array.toList_setIfInBounds, Array.toList_setIfInBounds, List.take_set, List.take_set, h4, flat_set a b L i (by omega)]
theorem own_cut (h : w.ownsRow base 195 2 (.slice (some ⟨g, 0, none⟩) n c) n (L.flatMap dueC)) (hL : L.length = n) (i : Nat) (hi : i ≤ n) :
    w.ownsRow base 195 2 (.slice (some ⟨g, 0, none⟩) i c) i ((L.take i).flatMap dueC) := by
  obtain ⟨hl, h⟩ := h
  have h5 : (L.take i).length = i := by rw [List.length_take]; omega
  have hl2 : ((L.take i).flatMap dueC).length = i * 2 := by rw [← flat_take, List.length_take, hl]; omega
  refine ⟨hl2, ?_⟩
  rcases h with ⟨e, _⟩ | ⟨g', cap, cur, hv, hb, hg, h1, h2, h3, h4⟩
  · cases e
  · cases hv
    refine .inr ⟨g, c, cur, rfl, hb, hg, by omega, h2, h3, ?_⟩
    rw [← flat_take, ← h4, List.take_take, Nat.min_eq_left (by omega)]
theorem setCells_block {t : TypeId} : ∀ (vs : List Value) (o : Nat) (w : World) (arr : Array Value), w.heap[g]? = some (.cells arr t (0, 0)) →
    ∃ arr' : Array Value, (w.setCells g o vs).heap[g]? = some (.cells arr' t (0, 0)) ∧ arr'.size = arr.size ∧ arr'.toList.take o = arr.toList.take o
  | [], o, w, arr, h => ⟨arr, h, rfl, rfl⟩
  | v :: r, o, w, arr, h => by
    obtain ⟨arr', h1, h2, h3⟩ := setCells_block r (o + 1) (w.setCell ⟨g, o, none⟩ v) _ (cells_set h o v)
    refine ⟨arr', h1, by simpa using h2, ?_⟩
    have := congrArg (List.take o) h3
    rw [List.take_take, List.take_take, Nat.min_eq_left (by omega), Array.toList_setIfInBounds, List.take_set] at this
    rw [this, List.set_eq_of_length_le (by simp; omega)]
theorem own_wiped (h : w.ownsRow base 195 2 (.slice (some ⟨g, 0, none⟩) n c) n (L.flatMap dueC)) (vs : List Value) :
    (w.setCells g (n * 2) vs).ownsRow base 195 2 (.slice (some ⟨g, 0, none⟩) n c) n (L.flatMap dueC) := by
  obtain ⟨hl, h⟩ := h
  refine ⟨hl, ?_⟩
  rcases h with ⟨e, _⟩ | ⟨g', cap, cur, hv, hb, hg, h1, h2, h3, h4⟩
  · cases e
  · cases hv
    obtain ⟨arr', e1, e2, e3⟩ := setCells_block vs (n * 2) w cur hg
    exact .inr ⟨g, c, arr', rfl, hb, e1, h1, h2, by rw [e2, h3], by rw [e3, h4]⟩
theorem own_there (h : w.ownsRow base 195 2 (.slice (some ⟨g, 0, none⟩) n c) n (L.flatMap dueC)) (j : Nat) (hj : j < c * 2) : (w.cell? ⟨g, j, none⟩).isSome = true ∧ w.frozen? ⟨g, j, none⟩ = false := by
  obtain ⟨hl, h⟩ := h
  rcases h with ⟨e, _⟩ | ⟨g', cap, cur, hv, hb, hg, h1, h2, h3, h4⟩
  · cases e
  · cases hv
    refine ⟨?_, by simp [World.frozen?, hg]⟩
    rw [cell_of_row w g j _ _ (0, 0) hg]
    simp [h3, hj]
end

theorem grown_setCells {w w' : World} {g : Nat} (h : w.grownBy w' (some g)) (o : Nat) (vs : List Value) : w.grownBy (w'.setCells g o vs) (some g) where
  os := (World.keptBut_setCells g (may := fun _ => True) vs o w' (fun _ _ => trivial)).1.trans h.os
  tape := by
    have : ∀ (vs : List Value) (o : Nat) (w : World), (w.setCells g o vs).tape = w.tape := fun vs => by
      induction vs with
      | nil => intro o w; rfl
      | cons v r ih => intro o w; exact (ih (o + 1) _).trans rfl
    exact (this vs o w').trans h.tape
  output := (World.keptBut_setCells g (may := fun _ => True) vs o w' (fun _ _ => trivial)).2.1.trans h.output
  size := by
    have : ∀ (vs : List Value) (o : Nat) (w : World), (w.setCells g o vs).heap.size = w.heap.size := fun vs => by
      induction vs with
      | nil => intro o w; rfl
      | cons v r ih => intro o w; exact (ih (o + 1) _).trans (by simp)
    rw [this]; exact h.size
  block := fun i hi hne => by
    have : ∀ (vs : List Value) (o : Nat) (w : World), (w.setCells g o vs).heap[i]? = w.heap[i]? := fun vs => by
      induction vs with
      | nil => intro o w; rfl
      | cons v r ih => intro o w; exact (ih (o + 1) _).trans (Below.heap_setCell _ _ _ _ (fun e => hne (by rw [e])))
    rw [this]; exact h.block i hi hne

theorem run_clear_due (w : World) (ty : TypeId) (g o n c : Nat) (hn : 0 < n) (hc : ∀ j, j < n * 2 → (w.cell? ⟨g, o + j, none⟩).isSome = true) (hf : ∀ j, j < n * 2 → w.frozen? ⟨g, o + j, none⟩ = false) :
    (Builtin.clear_ #[192] ty #[.slice (some ⟨g, o, none⟩) n c]).run Tryz.prog w = .ok (.tuple #[]) (w.setCells g o (List.replicate (n * 2) (.int .i64 0))) := by
  have hv : ∀ w, (zeroValue 195).run Tryz.prog w = .ok (.agg #[.int .i64 0, .int .i64 0]) w := Tryz.zeroValue195
  have hzc : (Builtin.zeroCells (Value.agg #[.int .i64 0, .int .i64 0]).cells n).toList = List.replicate (n * 2) (.int .i64 0) := by
    simp only [Builtin.zeroCells, Value.cells]
    apply List.ext_getElem
    · simp
    · intro i h1 h2
      have hm : i % 2 = 0 ∨ i % 2 = 1 := by omega
      rcases hm with hm | hm <;> simp [hm]
  have hst := run_storeCells_cells (P := Tryz.prog) g o (List.replicate (n * 2) (.int .i64 0)) 0 w (by simpa using hc) (by simpa using hf) (by intro v hv'; rw [List.eq_of_mem_replicate hv']; rfl)
  simp only [Nat.add_zero] at hst
  obtain ⟨m, rfl⟩ : ∃ m, n = m + 1 := ⟨n - 1, by omega⟩
  simp [Builtin.clear_, run_underlying Tryz.underlying192, hv, hzc, hst]
end Go.Proofs.YtfjdhdeiaakbaaaGreatDoor
