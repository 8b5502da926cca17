/-
  Walks and laws, one behind the other (part 31).
-/
import Derived.Ground.SlsfProg
import Derived.Shelf.SlSortCmp.NoneTotal
import Derived.Test.YtjpokeakemlffaaGreatDoorS14
set_option linter.unusedSimpArgs false
set_option linter.unusedVariables false
/-
  slices.SortFunc lies at this program (what the kit's tool lay-plain printed).
-/
namespace Go.Proofs.YtjpokeakemlffaaGreatDoor
open Go.Shelf
end Go.Proofs.YtjpokeakemlffaaGreatDoor
/-
  The contracts of cmp.Compare, of Advance's closure, and of slices.SortFunc with it, at timers of one tick.
-/
namespace Go.Proofs.YtjpokeakemlffaaGreatDoor
open Go.RowKit Go.Shelf
theorem nan_any (x : Int) (w : World) : Calls Tryz.prog 48 #[.int .i64 x] w fun e w' => e = .returned (.bool false) ∧ w' = w := by
  go_enter Tryz.func48, Tryz.ntmps48
  go_wp2_with fail
  go_ret
  exact ⟨by simp, rfl⟩
theorem cmp_any (x y : Int) (w : World) : Calls Tryz.prog 18 #[.int .i64 x, .int .i64 y] w fun e w' => e = .returned (.int .i64 (Lib.compareInt x y)) ∧ w' = w := by
  have h1 := nan_any x w
  have h2 := nan_any y w
  have hc : ∃ r, Lib.compareInt x y = r := ⟨_, rfl⟩
  obtain ⟨r, hr⟩ := hc
  rw [hr]
  have HR := Keep.mk hr
  unfold Lib.compareInt at hr
  by_cases a : x < y
  · rw [if_pos a] at hr
    subst hr
    go_enter Tryz.func18, Tryz.ntmps18
    go_wp2_with (first | (go_at_call 48; refine (nan_any _ _).mono ?_; rintro e w' ⟨rfl, rfl⟩) | fail)
    go_ret
    exact ⟨rfl, rfl⟩
  · rw [if_neg a] at hr
    by_cases b : y < x
    · rw [if_pos b] at hr
      subst hr
      go_enter Tryz.func18, Tryz.ntmps18
      go_wp2_with (first | (go_at_call 48; refine (nan_any _ _).mono ?_; rintro e w' ⟨rfl, rfl⟩) | fail)
      go_ret
      exact ⟨rfl, rfl⟩
    · rw [if_neg b] at hr
      subst hr
      go_enter Tryz.func18, Tryz.ntmps18
      go_wp2_with (first | (go_at_call 48; refine (nan_any _ _).mono ?_; rintro e w' ⟨rfl, rfl⟩) | fail)
      go_ret
      exact ⟨rfl, rfl⟩
def ltI : Int → Int → Bool := ltOf Lib.compareInt
theorem ltI_eq (x y : Int) : ltI x y = decide (x < y) := by
  unfold ltI ltOf Lib.compareInt
  by_cases h1 : x < y
  · simp [h1]
  · by_cases h2 : y < x <;> simp [h1, h2]
def sortI (l : List Int) : List Int := l.mergeSort fun x y => !ltI y x
theorem sortI_perm (l : List Int) : (sortI l).Perm l := List.mergeSort_perm l _
theorem sortI_sorted (l : List Int) : (sortI l).Pairwise (· ≤ ·) := by
  have := List.pairwise_mergeSort (le := fun x y : Int => !ltI y x) (fun a b c h1 h2 => by simp [ltI_eq] at *; omega) (fun a b => by simp [ltI_eq]; omega) l
  refine this.imp ?_
  intro a b h
  simpa [ltI_eq] using h
end Go.Proofs.YtjpokeakemlffaaGreatDoor
/-
  What Advance keeps: a row beside the wheel; the list of what was due.
-/
namespace Go.Proofs.YtjpokeakemlffaaGreatDoor
open Go.RowKit
structure Beside (w : World) (base b m : Nat) (S : Nat → Value) (v : Value) (n : Nat) (xs : List Value) : Prop where
  own : w.ownsRow base 195 2 v n xs
  apart : ∀ i, i < 49 → Apt v (S i)
  offb : v.ownBlock ≠ some b
  offm : v.ownBlock ≠ some m
theorem own_block {w w' : World} {base n : Nat} {e : TypeId} {sz : Nat} {v : Value} {xs : List Value} (h : w.ownsRow base e sz v n xs) (hb : ∀ k, v.ownBlock = some k → w'.heap[k]? = w.heap[k]?) : w'.ownsRow base e sz v n xs := by
  refine ⟨h.1, ?_⟩
  rcases h.2 with hn | ⟨g, cap, cur, hv, h1, h2, r⟩
  · exact .inl hn
  · exact .inr ⟨g, cap, cur, hv, h1, (hb g (by rw [hv]; rfl)).trans h2, r⟩
theorem own_fm {w w' : World} {base b m n : Nat} {e : TypeId} {sz : Nat} {S S' : Nat → Value} {v : Value} {xs : List Value} (h : w.ownsRow base e sz v n xs) (hf : Fm w w' b m S S') (h1 : ∀ i, i < 49 → Apt v (S i)) (h2 : v.ownBlock ≠ some b) (h3 : v.ownBlock ≠ some m) :
    w'.ownsRow base e sz v n xs :=
  own_block h fun k hk => hf.block k (h.lt k hk).2 (fun e => h2 (e ▸ hk)) (fun e => h3 (e ▸ hk)) (fun i hi e => by
    rcases h1 i hi with ⟨x, _⟩ | x
    · rw [x] at hk; cases hk
    · exact x (hk.trans e.symm))
theorem apt_fm {w w' : World} {base b m n : Nat} {e : TypeId} {sz : Nat} {S S' : Nat → Value} {v : Value} {xs : List Value} (h : w.ownsRow base e sz v n xs) (hf : Fm w w' b m S S') (h1 : ∀ i, i < 49 → Apt v (S i)) : ∀ i, i < 49 → Apt v (S' i) := fun i hi => by
  cases hv : v.ownBlock with
  | none =>
    cases hS : (S' i).ownBlock with
    | none => exact .inl ⟨hv, hS⟩
    | some k => exact .inr (by rw [hv, hS]; simp)
  | some k =>
    refine .inr fun e => ?_
    rw [hv] at e
    rcases hf.new i hi k e.symm with ⟨j, hj, ej⟩ | hl
    · rcases h1 j hj with ⟨x, _⟩ | x
      · rw [hv] at x; cases x
      · exact x (hv.trans ej.symm)
    · have := (h.lt k hv).2; omega
section
variable {w w' : World} {base b m n : Nat} {S S' : Nat → Value} {v : Value} {xs : List Value}
theorem Beside.fm (h : Beside w base b m S v n xs) (hf : Fm w w' b m S S') : Beside w' base b m S' v n xs :=
  ⟨own_fm h.own hf h.apart h.offb h.offm, apt_fm h.own hf h.apart, h.offb, h.offm⟩
theorem Beside.kept {row : Option Nat} (h : Beside w base b m S v n xs) (hg : w.grownBy w' row) (h1 : v.ownBlock = none ∨ v.ownBlock ≠ row) : Beside w' base b m S v n xs :=
  ⟨h.own.kept hg h1, h.apart, h.offb, h.offm⟩
theorem Beside.nil (w : World) (base b m : Nat) (S : Nat → Value) : Beside w base b m S (.slice none 0 0) 0 [] :=
  ⟨World.ownsRow_nil _ _ _ _, fun i _ => (Apt.nil (S i)).sym, by simp [Value.ownBlock], by simp [Value.ownBlock]⟩
theorem Whl.row {nb k : Nat} {N : Nat → List Due} {now : Int} {M : Int → Option Int} (h : Whl w base b m nb S N now M k) (hv : Beside w base b m S v n xs) (hg : w.grownBy w' v.ownBlock) : Whl w' base b m nb S N now M k :=
  ⟨h.st.kept hg (fun e => hv.offb e.symm) (fun i hi => (hv.apart i hi).free), h.mp.kept hg (fun e => hv.offm e.symm)⟩
theorem Fm.row {w0 : World} {S0 : Nat → Value} (h : Fm w0 w b m S0 S) (hg : w.grownBy w' v.ownBlock) (hv : ∀ k, v.ownBlock = some k → (∃ j, j < 49 ∧ (S0 j).ownBlock = some k) ∨ w0.heap.size ≤ k) : Fm w0 w' b m S0 S where
  os := hg.os.trans h.os
  tape := hg.tape.trans h.tape
  output := hg.output.trans h.output
  size := Nat.le_trans h.size hg.size
  block := fun k hk hb hm hS => (hg.block k (Nat.lt_of_lt_of_le hk h.size) (fun e => by
    rcases hv k e.symm with ⟨j, hj, ej⟩ | hl
    · exact hS j hj ej
    · omega)).trans (h.block k hk hb hm hS)
  new := h.new
end
def lexle (a b : Due) : Prop := a.2 < b.2 ∨ (a.2 = b.2 ∧ a.1 ≤ b.1)
structure Adv (n : Int) (L L' O : List Due) : Prop where
  rest : L' = L.filter fun d => decide (n < d.2)
  perm : O.Perm (L.filter fun d => decide (d.2 ≤ n))
  sorted : O.Pairwise lexle
theorem Adv.start {n : Int} {L : List Due} (h : ∀ d ∈ L, n < d.2) : Adv n L L [] where
  rest := (List.filter_eq_self.2 fun d hd => decide_eq_true (h d hd)).symm
  perm := by rw [List.filter_eq_nil_iff.2 fun d hd => by have := h d hd; simp; omega]
  sorted := .nil
theorem filter_split (p q r : Due → Bool) (L : List Due) (h : ∀ d ∈ L, r d = (p d || q d)) (hd : ∀ d ∈ L, ¬ (p d = true ∧ q d = true)) : (L.filter p ++ L.filter q).Perm (L.filter r) := by
  induction L with
  | nil => exact .refl _
  | cons x l ih =>
    have ih := ih (fun d hd => h d (List.mem_cons_of_mem _ hd)) (fun d h1 => hd d (List.mem_cons_of_mem _ h1))
    have h1 := h x List.mem_cons_self
    have h2 := hd x List.mem_cons_self
    cases hp : p x with
    | true =>
      have hq : q x = false := by cases hq : q x with
        | true => exact absurd ⟨hp, hq⟩ h2
        | false => rfl
      rw [List.filter_cons_of_pos hp, List.filter_cons_of_neg (by rw [hq]; simp), List.filter_cons_of_pos (by rw [h1, hp]; rfl), List.cons_append]
      exact ih.cons x
    | false =>
      cases hq : q x with
      | true =>
        rw [List.filter_cons_of_neg (by rw [hp]; simp), List.filter_cons_of_pos hq, List.filter_cons_of_pos (by rw [h1, hp, hq]; rfl)]
        exact List.perm_middle.trans (ih.cons x)
      | false =>
        rw [List.filter_cons_of_neg (by rw [hp]; simp), List.filter_cons_of_neg (by rw [hq]; simp), List.filter_cons_of_neg (by rw [h1, hp, hq]; simp)]
        exact ih
theorem map_tick {n : Int} {l : List Due} (h : ∀ d ∈ l, d.2 = n) : (l.map (·.1)).map (fun x => (x, n)) = l := by
  rw [List.map_map]
  conv => rhs; rw [← List.map_id l]
  apply List.map_congr_left
  intro d hd
  show (d.1, n) = d
  rw [← h d hd]
theorem Adv.step {n : Int} {L L' O l : List Due} (h : Adv n L L' O) (hl : l.Perm (L'.filter fun d => decide (d.2 = n + 1))) :
    Adv (n + 1) L (L'.filter fun d => decide (d.2 ≠ n + 1)) (O ++ (sortI (l.map (·.1))).map fun x => (x, n + 1)) where
  rest := by
    rw [h.rest, List.filter_filter]
    apply List.filter_congr
    intro d _
    by_cases e : n + 1 < d.2
    · have h1 : n < d.2 := by omega
      have h2 : d.2 ≠ n + 1 := by omega
      simp [e, h1, h2]
    · by_cases e2 : n < d.2
      · have h2 : d.2 = n + 1 := by omega
        simp [h2]
      · simp [e, e2]
  perm := by
    have h1 : L'.filter (fun d => decide (d.2 = n + 1)) = L.filter fun d => decide (d.2 = n + 1) := by
      rw [h.rest, List.filter_filter]
      apply List.filter_congr
      intro d _
      by_cases e : d.2 = n + 1
      · have h1 : n < d.2 := by omega
        simp [e, h1]; omega
      · simp [e]
    have h2 : ((sortI (l.map (·.1))).map fun x => (x, n + 1)).Perm (L.filter fun d => decide (d.2 = n + 1)) := by
      refine ((sortI_perm _).map _).trans ?_
      rw [map_tick fun d hd => of_decide_eq_true (List.mem_filter.1 (hl.mem_iff.1 hd)).2, ← h1]
      exact hl
    refine (h.perm.append h2).trans (filter_split _ _ _ L (fun d _ => ?_) (fun d _ hh => ?_))
    · by_cases e1 : d.2 ≤ n
      · have : d.2 ≤ n + 1 := by omega
        simp [e1, this]
      · by_cases e2 : d.2 = n + 1
        · simp [e2]
        · have : ¬ d.2 ≤ n + 1 := by omega
          simp [e1, e2, this]
    · have := of_decide_eq_true hh.1
      have := of_decide_eq_true hh.2
      omega
  sorted := by
    rw [List.pairwise_append]
    refine ⟨h.sorted, ?_, fun a ha c hc => ?_⟩
    · rw [List.pairwise_map]
      exact (sortI_sorted _).imp fun hh => .inr ⟨rfl, hh⟩
    · have h1 := of_decide_eq_true (List.mem_filter.1 (h.perm.mem_iff.1 ha)).2
      obtain ⟨x, _, rfl⟩ := List.mem_map.1 hc
      exact .inl (by show a.2 < n + 1; omega)
def dropAll : List Int → List Due → List Due
  | [], L => L
  | h :: r, L => dropAll r (dropH h L)
theorem dropAll_snoc (h : Int) : ∀ (hs : List Int) (L : List Due), dropAll (hs ++ [h]) L = dropH h (dropAll hs L)
  | [], _ => rfl
  | _ :: r, _ => dropAll_snoc h r _
theorem dropAll_filter : ∀ (hs : List Int) (L : List Due), dropAll hs L = L.filter fun d => decide (d.1 ∉ hs)
  | [], L => by rw [dropAll, List.filter_eq_self.2]; intro d _; simp
  | h :: r, L => by
    rw [dropAll, dropAll_filter r, dropH, List.filter_filter]
    apply List.filter_congr
    intro d _
    by_cases e : d.1 = h <;> simp [e]
theorem dropAll_nodup {hs : List Int} {L : List Due} (h : (L.map (·.1)).Nodup) : ((dropAll hs L).map (·.1)).Nodup := by
  rw [dropAll_filter]; exact h.sublist (List.filter_sublist.map _)
theorem one_is (o : Option Int) : one o = if o.isSome then 1 else 0 := by cases o <;> rfl
theorem Mp.cut {w : World} {m nb : Nat} {L : List Due} (h : Mp w m nb (tk L) L.length) (hn : (L.map (·.1)).Nodup) {x : Int} (hx : wfI x) (ty : TypeId) :
    ∃ w', (Builtin.delete_ #[259, 3] ty #[.map (some m), .int .i64 x]).run Tryz.prog w = .ok (.tuple #[]) w' ∧ Mp w' m nb (tk (dropH x L)) (dropH x L).length ∧ w.mapTurned w' m := by
  obtain ⟨w', h1, h2, h3⟩ := h.del hx ty
  rw [setM_drop, ← one_is, ← drop_len hn] at h2
  exact ⟨w', h1, h2, h3⟩
end Go.Proofs.YtjpokeakemlffaaGreatDoor
