/-
  Walks and laws, one behind the other (part 13).
-/
import Derived.Maps.RangeWalk
import Derived.Test.YtjpokeakemlffaaGreatDoorS12
set_option linter.unusedSimpArgs false
set_option linter.unusedVariables false
/-
  The contract of slices.DeleteFunc with Cancel's closure: the walk.
-/
namespace Go.Proofs.YtjpokeakemlffaaGreatDoor
open Go.RowKit
def dropH (h : Int) (l : List Due) : List Due := l.filter fun d => decide (d.1 ≠ h)
theorem dropH_all {h : Int} {l : List Due} (hl : ∀ d ∈ l, d.1 ≠ h) : dropH h l = l := List.filter_eq_self.2 fun d hd => decide_eq_true (hl d hd)
theorem dropH_snoc_keep (h : Int) (l : List Due) (d : Due) (hd : d.1 ≠ h) : dropH h (l ++ [d]) = dropH h l ++ [d] := by simp [dropH, hd]
theorem dropH_snoc_drop (h : Int) (l : List Due) (d : Due) (hd : d.1 = h) : dropH h (l ++ [d]) = dropH h l := by simp [dropH, hd]
theorem first_hit (h : Int) : ∀ l : List Due, (∀ d ∈ l, d.1 ≠ h) ∨ ∃ (k : Nat) (d : Due), l[k]? = some d ∧ d.1 = h ∧ ∀ x ∈ l.take k, x.1 ≠ h
  | [] => .inl (by simp)
  | x :: r => by
    by_cases hx : x.1 = h
    · exact .inr ⟨0, x, rfl, hx, by simp⟩
    · rcases first_hit h r with hr | ⟨k, d, h1, h2, h3⟩
      · exact .inl fun d hd => by
          rcases List.mem_cons.1 hd with e | e
          · subst e; exact hx
          · exact hr d e
      · refine .inr ⟨k + 1, d, h1, h2, fun y hy => ?_⟩
        rw [List.take_succ_cons] at hy
        rcases List.mem_cons.1 hy with e | e
        · subst e; exact hx
        · exact h3 y e
theorem hit_one {h : Int} {l : List Due} {k k' : Nat} {d d' : Due} (h1 : l[k]? = some d) (h2 : d.1 = h) (h3 : ∀ x ∈ l.take k, x.1 ≠ h) (g1 : l[k']? = some d') (g2 : d'.1 = h) (g3 : ∀ x ∈ l.take k', x.1 ≠ h) : k = k' := by
  rcases Nat.lt_trichotomy k k' with e | e | e
  · exact absurd h2 (g3 d (List.mem_of_getElem? (i := k) (by rw [List.getElem?_take_of_lt e]; exact h1)))
  · exact e
  · exact absurd g2 (h3 d' (List.mem_of_getElem? (i := k') (by rw [List.getElem?_take_of_lt e]; exact g1)))
set_option maxHeartbeats 1600000 in
theorem delete_any (base gh : Nat) (h : Int) (A : Option Addr) (c : Nat) (l : List Due) (w : World) (hown : w.ownsRow base 195 2 (.slice A l.length c) l.length (l.flatMap dueC)) (hg : gh < w.heap.size) (hc : w.cell? ⟨gh, 0, none⟩ = some (.int .i64 h))
    (hne : some gh ≠ (Value.slice A l.length c).ownBlock) (hl : l.length ≤ 1000000) :
    Calls Tryz.prog 283 #[.slice A l.length c, .func (.func 284) #[] #[.pointer (some ⟨gh, 0, none⟩)]] w fun e w' =>
      ∃ n', e = .returned (.slice A n' c) ∧ n' = (dropH h l).length ∧ w'.ownsRow base 195 2 (.slice A n' c) n' ((dropH h l).flatMap dueC) ∧ w.grownBy w' (Value.slice A l.length c).ownBlock := by
  have HO := Lib.hid hown
  have hI := index_any gh h A c l w hg hc (Rd.of_own dueC_length (by decide) hown) hl
  rcases first_hit h l with hno | ⟨k, d, h1, h2, h3⟩
  · have HI : Keep (Calls Tryz.prog 328 #[.slice A l.length c, .func (.func 284) #[] #[.pointer (some ⟨gh, 0, none⟩)]] w fun e w' => e = .returned (.int .i64 (-1)) ∧ Below w.heap.size w w') := ⟨hI.mono fun e w' ⟨hb, i, he, hi⟩ => by
      rcases hi with ⟨hi, _⟩ | ⟨k, _, _, ⟨d, hd, hdh⟩, _⟩
      · subst hi; exact ⟨he, hb⟩
      · exact absurd hdh (hno d (List.mem_of_getElem? hd))⟩
    have hd := dropH_all hno
    have HD := Keep.mk hd
    clear hI hc hno hown hd
    go_enter Tryz.func283, Tryz.ntmps283
    go_wp2_with (first
      | (go_at_call 328; refine HI.out.mono ?_; rintro e w1 ⟨rfl, hb1⟩; have HB1 := Keep.mk hb1; clear hb1)
      | fail)
    go_ret
    rw [HD.out]
    exact ⟨l.length, rfl, rfl, own_below HO.out HB1.out, grown_of_below HB1.out _⟩
  · have hk : k < l.length := (List.getElem?_eq_some_iff.1 h1).1
    have HI : Keep (Calls Tryz.prog 328 #[.slice A l.length c, .func (.func 284) #[] #[.pointer (some ⟨gh, 0, none⟩)]] w fun e w' => e = .returned (.int .i64 (k : Int)) ∧ Below w.heap.size w w') := ⟨hI.mono fun e w' ⟨hb, i, he, hi⟩ => by
      rcases hi with ⟨_, hno⟩ | ⟨k', _, hi, ⟨d', hd, hdh⟩, hk'⟩
      · exact absurd h2 (hno d (List.mem_of_getElem? h1))
      · subst hi; rw [hit_one h1 h2 h3 hd hdh hk']; exact ⟨he, hb⟩⟩
    obtain ⟨g, off, rfl, hgl, -⟩ := Rd.of_own dueC_length (by decide) hown (List.ne_nil_of_length_pos (by omega))
    obtain rfl : off = 0 := by
      rcases hown.2 with ⟨e, _⟩ | ⟨g', cap, cur, hv, _⟩
      · cases e
      · cases hv; rfl
    have H1 := Keep.mk h1
    have H2 := Keep.mk h2
    have H3 := Keep.mk h3
    have HC := Keep.mk hc
    have hgh : gh ≠ g := fun e => hne (by rw [e]; rfl)
    have hne1 : ((k : Int) == -1) = false := beq_eq_false_iff_ne.2 (by omega)
    have hcl : l.length ≤ c := by obtain ⟨_, _, e, hh⟩ := own_slice hown; cases e; exact hh
    clear hI hc h1 h2 h3 hne hown
    go_enter Tryz.func283, Tryz.ntmps283
    go_wp2_with (first
      | (go_at_call 328; refine HI.out.mono ?_; rintro e w1 ⟨rfl, hb1⟩; have HB1 := Keep.mk hb1; clear hb1)
      | fail)
    obtain ⟨wo, hwo⟩ : ∃ wo : World, wo = w1 := ⟨_, rfl⟩
    go_loopw [5, 6, 7] (fun i j _ wr => ∃ (q p : Nat) (L : List Due), i = .int .i64 q ∧ j = .int .i64 p ∧ p ≤ l.length ∧ q < p ∧ Keep (L.length = l.length) ∧ Keep (wr.ownsRow base 195 2 (.slice (some ⟨g, 0, none⟩) l.length c) l.length (L.flatMap dueC)) ∧ Keep (w.grownBy wr (some g)) ∧
        Keep (L.take q = dropH h (l.take p)) ∧ Keep (∀ m, p ≤ m → L[m]? = l[m]?)) (fun _ j _ _ => l.length - (intOf j).toNat)
    case atStart =>
      refine ⟨k, k + 1, l, rfl, by go_num, by omega, by omega, ⟨rfl⟩, ⟨own_below HO.out HB1.out⟩, ⟨grown_of_below HB1.out _⟩, ⟨?_⟩, ⟨fun m _ => rfl⟩⟩
      have ht : l.take (k + 1) = l.take k ++ [d] := by rw [List.take_add_one, H1.out]; rfl
      rw [ht, dropH_snoc_drop h _ d H2.out, dropH_all H3.out]
    case round =>
      obtain ⟨q, p, L, rfl, rfl, hp, hqp, HL, HOW, HG, HT, HM⟩ := hrel
      by_cases hlt : p < l.length
      · obtain ⟨x, hx⟩ : ∃ x, l[p] = x := ⟨_, rfl⟩
        have hlp : l[p]? = some x := by rw [List.getElem?_eq_getElem hlt, hx]
        have hLp : L[p]? = some x := (HM.out p (Nat.le_refl _)).trans hlp
        have hg2 : g < wr.heap.size := Nat.lt_of_lt_of_le hgl HG.out.size
        have c0 : wr.cell? ⟨g, p * 2, none⟩ = some (.int .i64 x.1) ∧ wr.cell? ⟨g, p * 2 + 1, none⟩ = some (.int .i64 x.2) := by
          obtain ⟨g', off, e, _, hcs⟩ := Rd.of_own dueC_length (by decide) HOW.out (List.ne_nil_of_length_pos (by have := HL.out; omega))
          cases e
          have a0 := hcs p x hLp 0 _ rfl
          have a1 := hcs p x hLp 1 _ rfl
          simp only [Nat.zero_add, Nat.add_zero] at a0 a1
          exact ⟨a0, a1⟩
        obtain ⟨c0, c1⟩ := c0
        have hght : gh < wr.heap.size := Nat.lt_of_lt_of_le hg HG.out.size
        have hcb : wr.cell? ⟨gh, 0, none⟩ = some (.int .i64 h) := (World.cell?_of_block (HG.out.block gh hg (by simpa using hgh))).trans HC.out
        have hs := same_any gh h x (wr.alloc (.cells #[.int .i64 x.1, .int .i64 x.2] 195)) (by simp; omega) ((World.cell?_alloc_lt wr _ ⟨gh, 0, none⟩ hght).trans hcb)
        have e0 : (wr.alloc (.cells #[.int .i64 x.1, .int .i64 x.2] 195)).cell? ⟨wr.heap.size, 0, none⟩ = some (.int .i64 x.1) := by rw [World.cell?_alloc_new]; rfl
        have e1 : (wr.alloc (.cells #[.int .i64 x.1, .int .i64 x.2] 195)).cell? ⟨wr.heap.size, 1, none⟩ = some (.int .i64 x.2) := by rw [World.cell?_alloc_new]; rfl
        have hsz : wr.heap.size < (wr.alloc (.cells #[.int .i64 x.1, .int .i64 x.2] 195)).heap.size := by simp
        have hg1 : g < (wr.alloc (.cells #[.int .i64 x.1, .int .i64 x.2] 195)).heap.size := by simp; omega
        have f0 : (wr.alloc (.cells #[.int .i64 x.1, .int .i64 x.2] 195)).frozen? ⟨g, q * 2, none⟩ = false := (World.frozen?_alloc_old wr _ ⟨g, q * 2, none⟩ (by show g ≠ wr.heap.size; omega)).trans (own_there HOW.out (q * 2) (by omega)).2
        have f1 : (wr.alloc (.cells #[.int .i64 x.1, .int .i64 x.2] 195)).frozen? ⟨g, q * 2 + 1, none⟩ = false := (World.frozen?_alloc_old wr _ ⟨g, q * 2 + 1, none⟩ (by show g ≠ wr.heap.size; omega)).trans (own_there HOW.out (q * 2 + 1) (by omega)).2
        obtain ⟨v0, d0⟩ : ∃ v, (wr.alloc (.cells #[.int .i64 x.1, .int .i64 x.2] 195)).cell? ⟨g, q * 2, none⟩ = some v := by
          obtain ⟨v, hv⟩ := Option.isSome_iff_exists.1 (own_there HOW.out (q * 2) (by omega)).1
          exact ⟨v, (World.cell?_alloc_lt wr _ ⟨g, q * 2, none⟩ hg2).trans hv⟩
        obtain ⟨v1, d1⟩ : ∃ v, (wr.alloc (.cells #[.int .i64 x.1, .int .i64 x.2] 195)).cell? ⟨g, q * 2 + 1, none⟩ = some v := by
          obtain ⟨v, hv⟩ := Option.isSome_iff_exists.1 (own_there HOW.out (q * 2 + 1) (by omega)).1
          exact ⟨v, (World.cell?_alloc_lt wr _ ⟨g, q * 2 + 1, none⟩ hg2).trans hv⟩
        have hlti : ((p : Nat) : Int) < (l.length : Int) := by omega
        have HLP := Keep.mk hlp
        have hB3 : Below wr.heap.size wr (wr.alloc (.cells #[.int .i64 x.1, .int .i64 x.2] 195)) := (Below.refl _ wr).alloc (Nat.le_refl _) _
        have HB3 := Keep.mk hB3
        have ht : l.take (p + 1) = l.take p ++ [x] := by rw [List.take_add_one, HLP.out]; rfl
        have HTK := Keep.mk ht
        clear hcb hLp hx hlp hB3 ht hg2 hght
        by_cases he : x.1 = h
        · rw [decide_eq_true he] at hs
          have HS := Keep.mk hs
          have HE := Keep.mk he
          clear hs he
          go_wp2_with (first | (go_at_call 284; go_loud (refine HS.out.mono ?_; rintro e w2 ⟨rfl, hb2⟩; have HB2 := Keep.mk hb2; have e0' := (hb2.cell (p := ⟨wr.heap.size, 0, none⟩) hsz).trans e0; have e1' := (hb2.cell (p := ⟨wr.heap.size, 1, none⟩) hsz).trans e1; have f0' := (World.frozen?_of_block (hb2.block g hg1)).trans f0; have f1' := (World.frozen?_of_block (hb2.block g hg1)).trans f1; have d0' := (hb2.cell (p := ⟨g, q * 2, none⟩) hg1).trans d0; have d1' := (hb2.cell (p := ⟨g, q * 2 + 1, none⟩) hg1).trans d1; clear hb2 hsz hg1 f0 f1 d0 d1 e0 e1)) | fail)
          go_roundw
          case rel =>
            have hb : Below wr.heap.size wr w2 := HB3.out.trans (HB2.out.mono (by simp))
            refine ⟨q, p + 1, L, rfl, by go_num, by omega, by omega, HL, ⟨own_below HOW.out hb⟩, ⟨HG.out.andThen (grown_of_below hb none) (by simp)⟩, ⟨?_⟩, ⟨fun m hm => HM.out m (by omega)⟩⟩
            rw [HTK.out, dropH_snoc_drop h _ x HE.out]; exact HT.out
          case measure => simp [intOf] <;> omega
        · rw [decide_eq_false he] at hs
          have HS := Keep.mk hs
          have HE := Keep.mk he
          clear hs he
          go_wp2_with (first | (go_at_call 284; go_loud (refine HS.out.mono ?_; rintro e w2 ⟨rfl, hb2⟩; have HB2 := Keep.mk hb2; have e0' := (hb2.cell (p := ⟨wr.heap.size, 0, none⟩) hsz).trans e0; have e1' := (hb2.cell (p := ⟨wr.heap.size, 1, none⟩) hsz).trans e1; have f0' := (World.frozen?_of_block (hb2.block g hg1)).trans f0; have f1' := (World.frozen?_of_block (hb2.block g hg1)).trans f1; have d0' := (hb2.cell (p := ⟨g, q * 2, none⟩) hg1).trans d0; have d1' := (hb2.cell (p := ⟨g, q * 2 + 1, none⟩) hg1).trans d1; clear hb2 hsz hg1 f0 f1 d0 d1 e0 e1)) | fail)
          go_roundw
          case rel =>
            have hb : Below wr.heap.size wr w2 := HB3.out.trans (HB2.out.mono (by simp))
            have hl2 := HL.out
            refine ⟨q + 1, p + 1, L.set q x, by go_num, by go_num, by omega, by omega, ⟨by simpa using hl2⟩, ⟨own_set (own_below HOW.out hb) hl2 q (by omega) x.1 x.2⟩, ⟨grown_setCells (HG.out.andThen (grown_of_below hb none) (by simp)) (q * 2) [.int .i64 x.1, .int .i64 x.2]⟩, ⟨?_⟩, ⟨fun m hm => ?_⟩⟩
            · rw [HTK.out, dropH_snoc_keep h _ x HE.out, ← HT.out, List.take_add_one, List.getElem?_set_self (by omega), List.take_set_of_le (Nat.le_refl _)]
              rfl
            · rw [List.getElem?_set_ne (by omega)]; exact HM.out m (by omega)
          case measure => simp [intOf] <;> omega
      · have hge : p = l.length := by omega
        subst hge
        have hcl' : ∀ ty, (Builtin.clear_ #[192] ty #[.slice (some ⟨g, q * 2, none⟩) (l.length - q) (c - q)]).run Tryz.prog wr = .ok (.tuple #[]) (wr.setCells g (q * 2) (List.replicate ((l.length - q) * 2) (.int .i64 0))) := fun ty =>
          run_clear_due wr ty g (q * 2) (l.length - q) (c - q) (by omega) (fun j hj => (own_there HOW.out (q * 2 + j) (by omega)).1) (fun j hj => (own_there HOW.out (q * 2 + j) (by omega)).2)
        have hcq : (c = q) = False := by simp; omega
        go_wp2
        go_ret
        have h4 := HT.out
        rw [List.take_length] at h4
        have h5 := own_wiped (own_cut HOW.out HL.out q (by omega)) (List.replicate ((l.length - q) * 2) (.int .i64 0))
        rw [h4] at h5
        refine ⟨q, rfl, ?_, h5, grown_setCells HG.out _ _⟩
        rw [← h4, List.length_take, HL.out]; omega
end Go.Proofs.YtjpokeakemlffaaGreatDoor
/-
  The wheel's map: which handle is armed for which tick.
-/
namespace Go.Proofs.YtjpokeakemlffaaGreatDoor
open Go.RowKit Go.Maps
def wfI (h : Int) : Prop := (Lit.int .i64 h).wf = true
theorem wfI_of {h : Int} (h1 : -9223372036854775808 ≤ h) (h2 : h ≤ 9223372036854775807) : wfI h := by
  simp only [wfI, Lit.wf, IntKind.min, IntKind.max, IntKind.signed, IntKind.bits, Bool.and_eq_true, decide_eq_true_eq, if_true]
  omega
theorem key_int (h : Int) : WideAt.IsKeyLit (Lit.int .i64 h) := by constructor
theorem key_ne {h h' : Int} (e : h' ≠ h) : Lit.int .i64 h' ≠ Lit.int .i64 h := fun x => e (by injection x)
theorem keyed : Keyed Tryz.prog 3 := int_keyed Tryz.underlying3
def setM (M : Int → Option Int) (h : Int) (v : Option Int) : Int → Option Int := fun x => if x = h then v else M x
set_option maxRecDepth 100000 in
theorem setM_same (M : Int → Option Int) (h : Int) (v : Option Int) : setM M h v h = v := if_pos rfl
set_option maxRecDepth 100000 in
theorem setM_other (M : Int → Option Int) {h x : Int} (v : Option Int) (e : x ≠ h) : setM M h v x = M x := if_neg e
def Mp (w : World) (m nb : Nat) (M : Int → Option Int) (k : Nat) : Prop :=
  ∃ D : DataW Unit, w.ownsMap Tryz.prog 3 (plainElem Tryz.prog 3) m nb D ∧ (∀ h, Maps.has D (.int .i64 h) = (M h).isSome) ∧ (∀ h t, M h = some t → ∀ z, D.atKey (.int .i64 h) z = .lit (.int .i64 t)) ∧ Maps.size D = k
section
variable {w w' : World} {m nb k : Nat} {M : Int → Option Int}
theorem Mp.lt (h : Mp w m nb M k) : m < w.heap.size := let ⟨_, h, _⟩ := h; h.lt
theorem Mp.le (h : Mp w m nb M k) : k ≤ nb := by
  obtain ⟨D, h, _, _, rfl⟩ := h
  exact h.size_le
theorem Mp.kept {row : Option Nat} (h : Mp w m nb M k) (hg : w.grownBy w' row) (hne : some m ≠ row) : Mp w' m nb M k := by
  obtain ⟨D, h, r⟩ := h
  exact ⟨D, h.kept hg hne, r⟩
theorem Mp.setCell (h : Mp w m nb M k) {a : Addr} (ha : m ≠ a.block) (u : Value) : Mp (w.setCell a u) m nb M k := by
  obtain ⟨D, h, r⟩ := h
  exact ⟨D, h.setCell ha u, r⟩
theorem Mp.alloc (h : Mp w m nb M k) (o : Obj) : Mp (w.alloc o) m nb M k := h.kept (World.grownBy_alloc w o none) (by simp)
theorem Mp.drew (h : Mp w m nb M k) (j : Nat) : Mp (w.drewN j) m nb M k := by
  obtain ⟨D, h, r⟩ := h
  exact ⟨D, h, r⟩
theorem Mp.below (h : Mp w m nb M k) (hB : Below w.heap.size w w') : Mp w' m nb M k := h.kept (grown_of_below hB none) (by simp)
set_option maxRecDepth 100000 in
theorem Mp.look (h : Mp w m nb M k) {x : Int} (hx : wfI x) : ∃ c : Int, (Instr.lookup 259 (.map (some m)) (.int .i64 x) true).run Tryz.prog w = .ok (.tuple #[.int .i64 c, .bool (M x).isSome]) w ∧ ∀ t, M x = some t → c = t := by
  obtain ⟨D, h, h1, h2, _⟩ := h
  obtain ⟨v, ps, hrun, hv⟩ := h.look_ok keyed Tryz.underlying259 (z := .int .i64 0) (Tryz.zeroValue3 w) (zd := .lit (.int .i64 0)) (zp := []) (plainElem_int Tryz.underlying3 (by decide)) (keyOf_int_mk Tryz.underlying3 hx)
  obtain ⟨c, rfl, hc, _⟩ := plainElem_int_inv Tryz.underlying3 hv
  rw [h1] at hrun
  refine ⟨c, hrun, fun t ht => ?_⟩
  have e := congrArg Prod.fst hc
  simp only at e
  rw [h2 x t ht] at e
  injection e with e
  injection e with _ e
  exact e.symm
set_option maxRecDepth 100000 in
theorem Mp.del (h : Mp w m nb M k) {x : Int} (hx : wfI x) (ty : TypeId) : ∃ w', (Builtin.delete_ #[259, 3] ty #[.map (some m), .int .i64 x]).run Tryz.prog w = .ok (.tuple #[]) w' ∧ Mp w' m nb (setM M x none) (k - if (M x).isSome then 1 else 0) ∧ w.mapTurned w' m := by
  obtain ⟨D, h, h1, h2, h3⟩ := h
  obtain ⟨w', hrun, ho, ht⟩ := h.drop keyed Tryz.underlying259 (keyOf_int_mk Tryz.underlying3 hx) ty
  refine ⟨w', hrun, ⟨_, ho, fun y => ?_, fun y t hy z => ?_, ?_⟩, ht⟩
  · by_cases e : y = x
    · subst e; rw [setM_same, has_del_same]; rfl
    · rw [setM_other M none e, has_del_other (key_ne e)]; exact h1 y
  · by_cases e : y = x
    · subst e; rw [setM_same] at hy; cases hy
    · rw [setM_other M none e] at hy; rw [atKey_del_other (key_ne e)]; exact h2 y t hy z
  · have := size_del (k := Lit.int .i64 x) (h.tidy keyed)
    rw [h1, h3] at this
    omega
set_option maxRecDepth 100000 in
theorem Mp.put (h : Mp w m nb M k) (hn : nb < maxLen) {x t : Int} (hx : wfI x) (ht : wfI t) : ∃ w', (Instr.mapUpdate 259 (.map (some m)) (.int .i64 x) (.int .i64 t)).run Tryz.prog w = .ok () w' ∧ Mp w' m (nb + 1) (setM M x (some t)) (if (M x).isSome then k else k + 1) ∧ w.mapTurned w' m := by
  obtain ⟨D, h, h1, h2, h3⟩ := h
  obtain ⟨w', hrun, ho, htu⟩ := h.store keyed Tryz.underlying259 hn (keyOf_int_mk Tryz.underlying3 hx) (plainElem_int Tryz.underlying3 ht)
  refine ⟨w', hrun, ⟨_, ho, fun y => ?_, fun y s hy z => ?_, ?_⟩, htu⟩
  · by_cases e : y = x
    · subst e; rw [setM_same, has_put_same h.isMap (key_int y)]; rfl
    · rw [setM_other M _ e, has_put_other (key_ne e)]; exact h1 y
  · by_cases e : y = x
    · subst e; rw [setM_same] at hy; cases hy; rw [atKey_put_same h.isMap (key_int y)]
    · rw [setM_other M _ e] at hy; rw [atKey_put_other (key_ne e)]; exact h2 y s hy z
  · rw [size_put (h.tidy keyed), h1, h3]
theorem Mp.made (w : World) : Mp (w.alloc (.map #[] 0)) w.heap.size 0 (fun _ => none) 0 :=
  ⟨.map [], World.ownsMap_made w _ _ _, fun _ => rfl, fun x t (h : (none : Option Int) = some t) => (by cases h), rfl⟩
end
structure Whl (w : World) (base b m nb : Nat) (S : Nat → Value) (N : Nat → List Due) (now : Int) (M : Int → Option Int) (k : Nat) : Prop where
  st : WSt w base b m S N now
  mp : Mp w m nb M k
section
variable {w w' : World} {base b m nb k : Nat} {S : Nat → Value} {N : Nat → List Due} {now : Int} {M : Int → Option Int}
theorem Whl.below (h : Whl w base b m nb S N now M k) (hB : Below w.heap.size w w') : Whl w' base b m nb S N now M k := ⟨h.st.below hB, h.mp.below hB⟩
theorem WSt.turned (h : WSt w base b m S N now) (ht : w.mapTurned w' m) : WSt w' base b m S N now :=
  h.kept ht.grown (by have := h.ne; simp; omega) (fun i hi => by
    cases hS : (S i).ownBlock with
    | none => exact .inl rfl
    | some j => exact .inr (fun e => (h.off i hi).2 (hS.trans e)))
theorem Mp.fr {S' : Nat → Value} (h : Mp w m nb M k) (hst : WSt w base b m S N now) (hf : Fr w w' b S S') : Mp w' m nb M k := by
  obtain ⟨D, h, r⟩ := h
  have hlt := h.lt
  obtain ⟨es, clock, hb, F, hs, hD⟩ := h
  exact ⟨D, ⟨es, clock, (hf.block m hlt hst.ne (fun i hi => (hst.off i hi).2)).trans hb, F, hs, hD⟩, r⟩
end
structure Fm (w w' : World) (b m : Nat) (S S' : Nat → Value) : Prop where
  os : w'.os = w.os
  tape : w'.tape = w.tape
  output : w'.output = w.output
  size : w.heap.size ≤ w'.heap.size
  block : ∀ k, k < w.heap.size → k ≠ b → k ≠ m → (∀ i, i < 49 → (S i).ownBlock ≠ some k) → w'.heap[k]? = w.heap[k]?
  new : ∀ i, i < 49 → ∀ k, (S' i).ownBlock = some k → (∃ j, j < 49 ∧ (S j).ownBlock = some k) ∨ w.heap.size ≤ k
theorem Fr.fm {w w' : World} {b : Nat} {S S' : Nat → Value} (h : Fr w w' b S S') (m : Nat) : Fm w w' b m S S' :=
  ⟨h.os, h.tape, h.output, h.size, fun k h1 h2 _ h3 => h.block k h1 h2 h3, h.new⟩
theorem Fm.turned {w w' : World} {m : Nat} (h : w.mapTurned w' m) (b : Nat) (S : Nat → Value) : Fm w w' b m S S :=
  ⟨h.grown.os, h.grown.tape, h.grown.output, h.grown.size, fun k h1 _ h2 _ => h.grown.block k h1 (by simpa using h2), fun i hi _ e => .inl ⟨i, hi, e⟩⟩
theorem Fm.refl (w : World) (b m : Nat) (S : Nat → Value) : Fm w w b m S S := (Fr.refl w b S).fm m
theorem Fm.quiet {w w' : World} (h : Below w.heap.size w w') (b m : Nat) (S : Nat → Value) : Fm w w' b m S S := (Fr.quiet h b S).fm m
theorem Fm.trans {w w' w'' : World} {b m : Nat} {S S' S'' : Nat → Value} (h : Fm w w' b m S S') (h' : Fm w' w'' b m S' S'') : Fm w w'' b m S S'' where
  os := h'.os.trans h.os
  tape := h'.tape.trans h.tape
  output := h'.output.trans h.output
  size := Nat.le_trans h.size h'.size
  block := fun k hk hb hm hS => (h'.block k (Nat.lt_of_lt_of_le hk h.size) hb hm (fun i hi e => by
    rcases h.new i hi k e with ⟨j, hj, ej⟩ | hl
    · exact hS j hj ej
    · omega)).trans (h.block k hk hb hm hS)
  new := fun i hi k e => by
    rcases h'.new i hi k e with ⟨j, hj, ej⟩ | hl
    · exact h.new j hj k ej
    · exact .inr (Nat.le_trans h.size hl)
theorem Fm.below {w w' : World} {base b m : Nat} {S S' : Nat → Value} (h : Fm w w' b m S S') (hb : base ≤ b) (hm : base ≤ m) (hS : ∀ i, i < 49 → ∀ k, (S i).ownBlock = some k → base ≤ k) (hbase : base ≤ w.heap.size) : Below base w w' where
  os := h.os
  tape := h.tape
  output := h.output
  size := h.size
  block := fun k hk => h.block k (by omega) (by omega) (by omega) (fun i hi e => by have := hS i hi k e; omega)
theorem WSt.low {w : World} {base b m : Nat} {S : Nat → Value} {N : Nat → List Due} {now : Int} (h : WSt w base b m S N now) : ∀ i, i < 49 → ∀ k, (S i).ownBlock = some k → base ≤ k := fun i hi k e => ((h.rows i hi).lt k e).1
end Go.Proofs.YtjpokeakemlffaaGreatDoor
