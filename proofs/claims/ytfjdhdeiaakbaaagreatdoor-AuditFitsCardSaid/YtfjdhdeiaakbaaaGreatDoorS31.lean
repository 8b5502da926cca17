/-
  Walks and laws, one behind the other (part 31).
-/
import Derived.Ground.SlsfProg
import Derived.Shelf.SlSortCmp.NoneTotal
import Derived.Test.YtfjdhdeiaakbaaaGreatDoorS14
set_option linter.unusedSimpArgs false
set_option linter.unusedVariables false
/-
  slices.SortFunc lies at this program (what the kit's tool lay-plain printed).
-/
namespace Go.Proofs.YtfjdhdeiaakbaaaGreatDoor
open Go.Shelf
def sortDue_ren : Go.Shelf.Ren := ⟨fun | 6 => 198 | 15 => 74 | 14 => 253 | 28 => 113 | 29 => 114 | 20 => 305 | 21 => 306 | 22 => 307 | 23 => 308 | 24 => 309 | 25 => 310 | 26 => 311 | 27 => 312 | 46 => 341 | 47 => 174 | 48 => 175 | 49 => 342 | 50 => 343 | 57 => 365 | n => n, fun | 22 => 192 | 24 => 195 | 25 => 267 | 3 => 3 | 39 => 117 | 0 => 0 | 53 => 24 | 55 => 45 | 4 => 4 | 46 => 159 | 45 => 158 | 50 => 83 | 5 => 5 | 9 => 9 | 66 => 224 | 70 => 227 | 76 => 308 | 77 => 309 | n => n, fun | n => n⟩
theorem sortDue : Go.Proofs.SlLaysF0.n6 Tryz.prog sortDue_ren := {
  mixed := by kernel_rfl
  f6 := ⟨Tryz.f198.name, by decide, Tryz.func198.trans (congrArg some (by kernel_rfl))⟩
  f14 := ⟨Tryz.f253.name, by decide, Tryz.func253.trans (congrArg some (by kernel_rfl))⟩
  f15 := Tryz.func74.trans (congrArg some (by kernel_rfl))
  f20 := ⟨Tryz.f305.name, by decide, Tryz.func305.trans (congrArg some (by kernel_rfl))⟩
  f21 := ⟨Tryz.f306.name, by decide, Tryz.func306.trans (congrArg some (by kernel_rfl))⟩
  f22 := ⟨Tryz.f307.name, by decide, Tryz.func307.trans (congrArg some (by kernel_rfl))⟩
  f23 := ⟨Tryz.f308.name, by decide, Tryz.func308.trans (congrArg some (by kernel_rfl))⟩
  f24 := ⟨Tryz.f309.name, by decide, Tryz.func309.trans (congrArg some (by kernel_rfl))⟩
  f25 := ⟨Tryz.f310.name, by decide, Tryz.func310.trans (congrArg some (by kernel_rfl))⟩
  f26 := ⟨Tryz.f311.name, by decide, Tryz.func311.trans (congrArg some (by kernel_rfl))⟩
  f27 := ⟨Tryz.f312.name, by decide, Tryz.func312.trans (congrArg some (by kernel_rfl))⟩
  f28 := Tryz.func113.trans (congrArg some (by kernel_rfl))
  f29 := Tryz.func114.trans (congrArg some (by kernel_rfl))
  f46 := ⟨Tryz.f341.name, by decide, Tryz.func341.trans (congrArg some (by kernel_rfl))⟩
  f47 := Tryz.func174.trans (congrArg some (by kernel_rfl))
  f48 := Tryz.func175.trans (congrArg some (by kernel_rfl))
  f49 := ⟨Tryz.f342.name, by decide, Tryz.func342.trans (congrArg some (by kernel_rfl))⟩
  f50 := ⟨Tryz.f343.name, by decide, Tryz.func343.trans (congrArg some (by kernel_rfl))⟩
  f57 := ⟨Tryz.f365.name, by decide, Tryz.func365.trans (congrArg some (by kernel_rfl))⟩
  t0 := Tryz.underlying0
  a0 := Tryz.isAgg0
  z0 := Tryz.sizeOf0
  v0 := Tryz.zeroValue0
  t3 := Tryz.underlying3
  a3 := Tryz.isAgg3
  z3 := Tryz.sizeOf3
  v3 := Tryz.zeroValue3
  t4 := Tryz.underlying4
  a4 := Tryz.isAgg4
  z4 := Tryz.sizeOf4
  v4 := Tryz.zeroValue4
  t5 := Tryz.underlying5
  a5 := Tryz.isAgg5
  z5 := Tryz.sizeOf5
  v5 := Tryz.zeroValue5
  t9 := Tryz.underlying9
  a9 := Tryz.isAgg9
  z9 := Tryz.sizeOf9
  v9 := Tryz.zeroValue9
  t22 := Tryz.underlying192
  a22 := Tryz.isAgg192
  z22 := Tryz.sizeOf192
  v22 := Tryz.zeroValue192
  t25 := Tryz.underlying267
  a25 := Tryz.isAgg267
  z25 := Tryz.sizeOf267
  v25 := Tryz.zeroValue267
  t39 := Tryz.underlying117
  a39 := Tryz.isAgg117
  z39 := Tryz.sizeOf117
  v39 := Tryz.zeroValue117
  t45 := Tryz.underlying158
  a45 := Tryz.isAgg158
  z45 := Tryz.sizeOf158
  v45 := Tryz.zeroValue158
  t46 := Tryz.underlying159
  a46 := Tryz.isAgg159
  z46 := Tryz.sizeOf159
  v46 := Tryz.zeroValue159
  t50 := Tryz.underlying83
  a50 := Tryz.isAgg83
  z50 := Tryz.sizeOf83
  v50 := Tryz.zeroValue83
  t53 := Tryz.underlying24
  a53 := Tryz.isAgg24
  z53 := Tryz.sizeOf24
  v53 := Tryz.zeroValue24
  t55 := Tryz.underlying45
  a55 := Tryz.isAgg45
  z55 := Tryz.sizeOf45
  v55 := Tryz.zeroValue45
  t66 := Tryz.underlying224
  a66 := Tryz.isAgg224
  z66 := Tryz.sizeOf224
  v66 := Tryz.zeroValue224
  t70 := Tryz.underlying227
  a70 := Tryz.isAgg227
  z70 := Tryz.sizeOf227
  v70 := Tryz.zeroValue227
  t76 := Tryz.underlying308
  a76 := Tryz.isAgg308
  z76 := Tryz.sizeOf308
  v76 := Tryz.zeroValue308
  t77 := Tryz.underlying309
  a77 := Tryz.isAgg309
  z77 := Tryz.sizeOf309
  v77 := Tryz.zeroValue309 }
end Go.Proofs.YtfjdhdeiaakbaaaGreatDoor
/-
  The contracts of cmp.Compare, of Advance's closure, and of slices.SortFunc with it, at timers of one tick.
-/
namespace Go.Proofs.YtfjdhdeiaakbaaaGreatDoor
open Go.RowKit Go.Shelf

theorem nan_any (x : Int) (w : World) : Calls Tryz.prog 75 #[.int .i64 x] w fun e w' => e = .returned (.bool false) ∧ w' = w := by
  go_enter Tryz.func75, Tryz.ntmps75
  go_wp2_with fail
  go_ret
  exact ⟨by simp, rfl⟩
theorem cmp_any (x y : Int) (w : World) : Calls Tryz.prog 45 #[.int .i64 x, .int .i64 y] w fun e w' => e = .returned (.int .i64 (Lib.compareInt x y)) ∧ w' = w := by
  have h1 := nan_any x w
  have h2 := nan_any y w
  have hc : ∃ r, Lib.compareInt x y = r := ⟨_, rfl⟩
  obtain ⟨r, hr⟩ := hc
  rw [hr]
  have HR := Keep.mk hr
  unfold Lib.compareInt at hr
  by_cases a : x < y
  · rw [if_pos a] at hr
    subst hr
    go_enter Tryz.func45, Tryz.ntmps45
    go_wp2_with (first | (go_at_call 75; refine (nan_any _ _).mono ?_; rintro e w' ⟨rfl, rfl⟩) | fail)
    go_ret
    exact ⟨rfl, rfl⟩
  · rw [if_neg a] at hr
    by_cases b : y < x
    · rw [if_pos b] at hr
      subst hr
      go_enter Tryz.func45, Tryz.ntmps45
      go_wp2_with (first | (go_at_call 75; refine (nan_any _ _).mono ?_; rintro e w' ⟨rfl, rfl⟩) | fail)
      go_ret
      exact ⟨rfl, rfl⟩
    · rw [if_neg b] at hr
      subst hr
      go_enter Tryz.func45, Tryz.ntmps45
      go_wp2_with (first | (go_at_call 75; refine (nan_any _ _).mono ?_; rintro e w' ⟨rfl, rfl⟩) | fail)
      go_ret
      exact ⟨rfl, rfl⟩
theorem less_any (x y a b : Int) (w : World) : Calls Tryz.prog 199 #[.agg #[.int .i64 x, .int .i64 a], .agg #[.int .i64 y, .int .i64 b]] w fun e w' => e = .returned (.int .i64 (Lib.compareInt x y)) ∧ ∃ q os', w' = Sort.grow (w.drewN q) os' := by
  obtain ⟨r, hr⟩ : ∃ r, Lib.compareInt x y = r := ⟨_, rfl⟩
  have hcon := fun W' => cmp_any x y W'
  rw [hr] at hcon ⊢
  go_enter Tryz.func199, Tryz.ntmps199
  go_wp2_with (first | (go_at_call 45; refine (hcon _).mono ?_; rintro e w' ⟨rfl, rfl⟩) | fail)
  go_ret
  exact ⟨rfl, 0, _, by rw [Sort.alloc_eq_grow, Sort.alloc_eq_grow, Sort.grow_grow]; rfl⟩

def ltI : Int → Int → Bool := ltOf Lib.compareInt
theorem ltI_eq (x y : Int) : ltI x y = decide (x < y) := by
  unfold ltI ltOf Lib.compareInt
  by_cases h1 : x < y
  · simp [h1]
  · by_cases h2 : y < x <;> simp [h1, h2]
theorem swoI : Sort.SWO ltI where
  irrefl x := by rw [ltI_eq]; simp
  trans x y z h1 h2 := by rw [ltI_eq] at *; simp at *; omega
  ntrans x y z h1 h2 := by rw [ltI_eq] at *; simp at *; omega
def sortI (l : List Int) : List Int := l.mergeSort fun x y => !ltI y x
theorem sortI_perm (l : List Int) : (sortI l).Perm l := List.mergeSort_perm l _
theorem sortI_sorted (l : List Int) : (sortI l).Pairwise (· ≤ ·) := by
  have := List.pairwise_mergeSort (le := fun x y : Int => !ltI y x) (fun a b c h1 h2 => by simp [ltI_eq] at *; omega) (fun a b => by simp [ltI_eq]; omega) l
  refine this.imp ?_
  intro a b h
  simpa [ltI_eq] using h

theorem flat_cell : ∀ (l : List Due) (t : Nat), t < l.length * 2 → (l.flatMap dueC)[t]? = some ((dueC l[t / 2]!)[t % 2]!)
  | [], t, h => by simp at h
  | x :: r, 0, _ => rfl
  | x :: r, 1, _ => rfl
  | x :: r, t + 2, h => by
    have := flat_cell r t (by simp at h; omega)
    rw [List.flatMap_cons, show t + 2 = t + 1 + 1 from rfl]
    show (r.flatMap dueC)[t]? = _
    rw [this, show (t + 1 + 1) / 2 = t / 2 + 1 by omega, show (t + 1 + 1) % 2 = t % 2 by omega]
    simp
theorem flat_len : ∀ l : List Due, (l.flatMap dueC).length = l.length * 2
  | [] => rfl
  | x :: r => by rw [List.flatMap_cons, List.length_append, flat_len r, List.length_cons, dueC_length]; omega
def encN (n : Int) (h : Int) : List Value := [.int .i64 h, .int .i64 n]
theorem encN_at (n : Int) (hs : List Int) (t : Nat) (h : t < hs.length * 2) : ((hs.map fun x => (x, n)).flatMap dueC)[t]? = some ((encN n hs[t / 2]!)[t % 2]!) := by
  rw [flat_cell _ t (by simpa using h)]
  have h2 : t / 2 < hs.length := by omega
  rw [getElem!_pos (hs.map fun x => (x, n)) (t / 2) (by simpa using h2), getElem!_pos hs (t / 2) h2]
  simp [dueC, encN]

theorem sort_due (n : Int) (base : Nat) (A : Option Addr) (c : Nat) (hs : List Int) (w : World) (hown : w.ownsRow base 195 2 (.slice A hs.length c) hs.length ((hs.map fun x => (x, n)).flatMap dueC)) (hl : hs.length ≤ 1000000) :
    Calls Tryz.prog 198 #[.slice A hs.length c, .func (.func 199) #[] #[]] w fun e w' => e = .returned (.tuple #[]) ∧
      w'.ownsRow base 195 2 (.slice A hs.length c) hs.length (((sortI hs).map fun x => (x, n)).flatMap dueC) ∧ w.grownBy w' (Value.slice A hs.length c).ownBlock := by
  by_cases hnil : hs = []
  · subst hnil
    have := AnyF.slices_SortFunc_none sortDue A c (.func (.func 199) #[] #[]) w
    refine this.mono ?_
    rintro e w' ⟨rfl, rfl⟩
    refine ⟨rfl, ?_, ⟨rfl, rfl, rfl, Nat.le_refl _, fun _ _ _ => rfl⟩⟩
    simpa [sortI] using hown
  · obtain ⟨hlen, hown'⟩ := hown
    rcases hown' with ⟨e, _⟩ | ⟨g, cap, cur, hv, hb, hg, h1, h2, h3, h4⟩
    · exact absurd (List.length_eq_zero_iff.1 (by injection e)) hnil
    cases hv
    have hgl := lt_of_block hg
    have hH : Sort.HoldsK (encN n) 2 w g 0 hs.toArray := by
      intro t ht
      have ht' : t < hs.length * 2 := by simpa using ht
      refine ⟨?_, by simp [World.frozen?, hg]⟩
      rw [cell_of_row w g (0 + t) _ _ (0, 0) hg, Nat.zero_add, Sort.get_flatK _ _ _ t (by simpa using ht')]
      have h5 := encN_at n hs t ht'
      rw [← h4, List.getElem?_take_of_lt ht', Array.getElem?_toList] at h5
      rw [h5]
      simp
    have hsz : hs.toArray.size = hs.length := by simp
    have hcon := AnyQ.slices_SortFunc_total sortDue 2 Tryz.isAgg195 Tryz.sizeOf195 (encN n) (fun _ => rfl) (fun x v hv => by simp [encN] at hv; rcases hv with rfl | rfl <;> rfl) Lib.compareInt swoI 199 #[] g 0 c hs.toArray w
      (enters_of Tryz.func199 (by kernel_rfl) rfl) (fun _ _ _ _ x y => less_any x y n n _) hH hgl (by rw [hsz]; omega) (fun x y a b => by
        have a' : ltI x y = false := a
        have b' : ltI y x = false := b
        rw [ltI_eq] at a' b'
        have := of_decide_eq_false a'
        have := of_decide_eq_false b'
        omega)
    rw [hsz] at hcon
    refine hcon.mono ?_
    rintro e w' ⟨rfl, m, os, rfl⟩
    obtain ⟨ts, hts⟩ : ∃ ts, sortI hs = ts := ⟨_, rfl⟩
    have htl : ts.length = hs.length := by rw [← hts]; exact (sortI_perm hs).length_eq
    rw [show (hs.toArray.toList.mergeSort fun x y => !(ltOf Lib.compareInt) y x) = ts from hts, hts]
    have hblk : (sortWorldK (encN n) 2 w g 0 m ts.toArray os).heap[g]? = some (.cells (Sort.putCells id 0 (Sort.flatK (encN n) 2 ts.toArray) cur) 195 (0, 0)) := by
      unfold sortWorldK Sort.putRowK
      rw [Sort.heap_grow_old _ _ (by simpa using hgl)]
      simp [Sort.putRow, Sort.mapBlock, Sort.ahead, Array.getElem?_modify, hg, Sort.onCells]
    refine ⟨rfl, ⟨?_, .inr ⟨g, c, _, rfl, hb, hblk, h1, h2, by simp [Sort.putCells, h3], ?_⟩⟩, ⟨rfl, rfl, rfl, ?_, fun k hk hne => ?_⟩⟩
    · rw [show ((ts.map fun x => (x, n)).flatMap dueC).length = ts.length * 2 by rw [flat_len, List.length_map], htl]
    · apply List.ext_getElem?
      intro t
      by_cases ht : t < hs.length * 2
      · rw [List.getElem?_take_of_lt ht, Array.getElem?_toList, encN_at n ts t (by rw [htl]; exact ht)]
        have h7 : t < cur.size := by rw [h3]; omega
        have h8 : t < ts.length * 2 := by rw [htl]; exact ht
        simp only [Sort.putCells, Array.getElem?_mapIdx, Array.getElem?_eq_getElem h7, Option.map_some, Nat.zero_le, true_and, Nat.zero_add, Nat.sub_zero, Sort.size_flatK, List.size_toArray, id]
        rw [if_pos h8, Sort.get_flatK _ _ _ t (by simpa using h8)]
        simp
      · rw [List.getElem?_take_eq_none (by omega), List.getElem?_eq_none]
        rw [show ((ts.map fun x => (x, n)).flatMap dueC).length = ts.length * 2 by rw [flat_len, List.length_map]]
        omega
    · unfold sortWorldK Sort.putRowK; simp
    · unfold sortWorldK Sort.putRowK
      rw [Sort.heap_grow_old _ _ (by simpa using hk)]
      have : g ≠ k := fun e => hne (by rw [e]; rfl)
      simp [Sort.putRow, Sort.mapBlock, Sort.ahead, Array.getElem?_modify, this]
end Go.Proofs.YtfjdhdeiaakbaaaGreatDoor
/-
  What Advance keeps: a row beside the wheel; the list of what was due.
-/
namespace Go.Proofs.YtfjdhdeiaakbaaaGreatDoor
open Go.RowKit

/-- A row of the call's own beside the wheel. -/
structure Beside (w : World) (base b m : Nat) (S : Nat → Value) (v : Value) (n : Nat) (xs : List Value) : Prop where
  own : w.ownsRow base 195 2 v n xs
  apart : ∀ i, i < 49 → Apt v (S i)
  offb : v.ownBlock ≠ some b
  offm : v.ownBlock ≠ some m
theorem own_block {w w' : World} {base n : Nat} {e : TypeId} {sz : Nat} {v : Value} {xs : List Value} (h : w.ownsRow base e sz v n xs) (hb : ∀ k, v.ownBlock = some k → w'.heap[k]? = w.heap[k]?) : w'.ownsRow base e sz v n xs := by
  refine ⟨h.1, ?_⟩
  rcases h.2 with hn | ⟨g, cap, cur, hv, h1, h2, r⟩
  · exact .inl hn
  · exact .inr ⟨g, cap, cur, hv, h1, (hb g (by rw [hv]; rfl)).trans h2, r⟩
theorem own_fm {w w' : World} {base b m n : Nat} {e : TypeId} {sz : Nat} {S S' : Nat → Value} {v : Value} {xs : List Value} (h : w.ownsRow base e sz v n xs) (hf : Fm w w' b m S S') (h1 : ∀ i, i < 49 → Apt v (S i)) (h2 : v.ownBlock ≠ some b) (h3 : v.ownBlock ≠ some m) :
    w'.ownsRow base e sz v n xs :=
  own_block h fun k hk => hf.block k (h.lt k hk).2 (fun e => h2 (e ▸ hk)) (fun e => h3 (e ▸ hk)) (fun i hi e => by
    rcases h1 i hi with ⟨x, _⟩ | x
    · rw [x] at hk; cases hk
    · exact x (hk.trans e.symm))
theorem apt_fm {w w' : World} {base b m n : Nat} {e : TypeId} {sz : Nat} {S S' : Nat → Value} {v : Value} {xs : List Value} (h : w.ownsRow base e sz v n xs) (hf : Fm w w' b m S S') (h1 : ∀ i, i < 49 → Apt v (S i)) : ∀ i, i < 49 → Apt v (S' i) := fun i hi => by
  cases hv : v.ownBlock with
  | none =>
    cases hS : (S' i).ownBlock with
    | none => exact .inl ⟨hv, hS⟩
    | some k => exact .inr (by rw [hv, hS]; simp)
  | some k =>
    refine .inr fun e => ?_
    rw [hv] at e
    rcases hf.new i hi k e.symm with ⟨j, hj, ej⟩ | hl
    · rcases h1 j hj with ⟨x, _⟩ | x
      · rw [hv] at x; cases x
      · exact x (hv.trans ej.symm)
    · have := (h.lt k hv).2; omega
section
variable {w w' : World} {base b m n : Nat} {S S' : Nat → Value} {v : Value} {xs : List Value}
theorem Beside.fm (h : Beside w base b m S v n xs) (hf : Fm w w' b m S S') : Beside w' base b m S' v n xs :=
  ⟨own_fm h.own hf h.apart h.offb h.offm, apt_fm h.own hf h.apart, h.offb, h.offm⟩
theorem Beside.kept {row : Option Nat} (h : Beside w base b m S v n xs) (hg : w.grownBy w' row) (h1 : v.ownBlock = none ∨ v.ownBlock ≠ row) : Beside w' base b m S v n xs :=
  ⟨h.own.kept hg h1, h.apart, h.offb, h.offm⟩
theorem Beside.nil (w : World) (base b m : Nat) (S : Nat → Value) : Beside w base b m S (.slice none 0 0) 0 [] :=
  ⟨World.ownsRow_nil _ _ _ _, fun i _ => (Apt.nil (S i)).sym, by simp [Value.ownBlock], by simp [Value.ownBlock]⟩
/-- The wheel beside a row that is written. -/
theorem Whl.row {nb k : Nat} {N : Nat → List Due} {now : Int} {M : Int → Option Int} (h : Whl w base b m nb S N now M k) (hv : Beside w base b m S v n xs) (hg : w.grownBy w' v.ownBlock) : Whl w' base b m nb S N now M k :=
  ⟨h.st.kept hg (fun e => hv.offb e.symm) (fun i hi => (hv.apart i hi).free), h.mp.kept hg (fun e => hv.offm e.symm)⟩
/-- .. in the frame of a turn. -/
theorem Fm.row {w0 : World} {S0 : Nat → Value} (h : Fm w0 w b m S0 S) (hg : w.grownBy w' v.ownBlock) (hv : ∀ k, v.ownBlock = some k → (∃ j, j < 49 ∧ (S0 j).ownBlock = some k) ∨ w0.heap.size ≤ k) : Fm w0 w' b m S0 S where
  os := hg.os.trans h.os
  tape := hg.tape.trans h.tape
  output := hg.output.trans h.output
  size := Nat.le_trans h.size hg.size
  block := fun k hk hb hm hS => (hg.block k (Nat.lt_of_lt_of_le hk h.size) (fun e => by
    rcases hv k e.symm with ⟨j, hj, ej⟩ | hl
    · exact hS j hj ej
    · omega)).trans (h.block k hk hb hm hS)
  new := h.new
end

/-- In order: by the tick, then by the handle. -/
def lexle (a b : Due) : Prop := a.2 < b.2 ∨ (a.2 = b.2 ∧ a.1 ≤ b.1)
/-- What is due till n (O), and what stays (L'), of L. -/
structure Adv (n : Int) (L L' O : List Due) : Prop where
  rest : L' = L.filter fun d => decide (n < d.2)
  perm : O.Perm (L.filter fun d => decide (d.2 ≤ n))
  sorted : O.Pairwise lexle
theorem Adv.start {n : Int} {L : List Due} (h : ∀ d ∈ L, n < d.2) : Adv n L L [] where
  rest := (List.filter_eq_self.2 fun d hd => decide_eq_true (h d hd)).symm
  perm := by rw [List.filter_eq_nil_iff.2 fun d hd => by have := h d hd; simp; omega]
  sorted := .nil
theorem filter_split (p q r : Due → Bool) (L : List Due) (h : ∀ d ∈ L, r d = (p d || q d)) (hd : ∀ d ∈ L, ¬ (p d = true ∧ q d = true)) : (L.filter p ++ L.filter q).Perm (L.filter r) := by
  induction L with
  | nil => exact .refl _
  | cons x l ih =>
    have ih := ih (fun d hd => h d (List.mem_cons_of_mem _ hd)) (fun d h1 => hd d (List.mem_cons_of_mem _ h1))
    have h1 := h x List.mem_cons_self
    have h2 := hd x List.mem_cons_self
    cases hp : p x with
    | true =>
      have hq : q x = false := by cases hq : q x with
        | true => exact absurd ⟨hp, hq⟩ h2
        | false => rfl
      rw [List.filter_cons_of_pos hp, List.filter_cons_of_neg (by rw [hq]; simp), List.filter_cons_of_pos (by rw [h1, hp]; rfl), List.cons_append]
      exact ih.cons x
    | false =>
      cases hq : q x with
      | true =>
        rw [List.filter_cons_of_neg (by rw [hp]; simp), List.filter_cons_of_pos hq, List.filter_cons_of_pos (by rw [h1, hp, hq]; rfl)]
        exact List.perm_middle.trans (ih.cons x)
      | false =>
        rw [List.filter_cons_of_neg (by rw [hp]; simp), List.filter_cons_of_neg (by rw [hq]; simp), List.filter_cons_of_neg (by rw [h1, hp, hq]; simp)]
        exact ih
theorem map_tick {n : Int} {l : List Due} (h : ∀ d ∈ l, d.2 = n) : (l.map (·.1)).map (fun x => (x, n)) = l := by
  rw [List.map_map]
  conv => rhs; rw [← List.map_id l]
  apply List.map_congr_left
  intro d hd
  show (d.1, n) = d
  rw [← h d hd]
theorem Adv.step {n : Int} {L L' O l : List Due} (h : Adv n L L' O) (hl : l.Perm (L'.filter fun d => decide (d.2 = n + 1))) :
    Adv (n + 1) L (L'.filter fun d => decide (d.2 ≠ n + 1)) (O ++ (sortI (l.map (·.1))).map fun x => (x, n + 1)) where
  rest := by
    rw [h.rest, List.filter_filter]
    apply List.filter_congr
    intro d _
    by_cases e : n + 1 < d.2
    · have h1 : n < d.2 := by omega
      have h2 : d.2 ≠ n + 1 := by omega
      simp [e, h1, h2]
    · by_cases e2 : n < d.2
      · have h2 : d.2 = n + 1 := by omega
        simp [h2]
      · simp [e, e2]
  perm := by
    have h1 : L'.filter (fun d => decide (d.2 = n + 1)) = L.filter fun d => decide (d.2 = n + 1) := by
      rw [h.rest, List.filter_filter]
      apply List.filter_congr
      intro d _
      by_cases e : d.2 = n + 1
      · have h1 : n < d.2 := by omega
        simp [e, h1]; omega
      · simp [e]
    have h2 : ((sortI (l.map (·.1))).map fun x => (x, n + 1)).Perm (L.filter fun d => decide (d.2 = n + 1)) := by
      refine ((sortI_perm _).map _).trans ?_
      rw [map_tick fun d hd => of_decide_eq_true (List.mem_filter.1 (hl.mem_iff.1 hd)).2, ← h1]
      exact hl
    refine (h.perm.append h2).trans (filter_split _ _ _ L (fun d _ => ?_) (fun d _ hh => ?_))
    · by_cases e1 : d.2 ≤ n
      · have : d.2 ≤ n + 1 := by omega
        simp [e1, this]
      · by_cases e2 : d.2 = n + 1
        · simp [e2]
        · have : ¬ d.2 ≤ n + 1 := by omega
          simp [e1, e2, this]
    · have := of_decide_eq_true hh.1
      have := of_decide_eq_true hh.2
      omega
  sorted := by
    rw [List.pairwise_append]
    refine ⟨h.sorted, ?_, fun a ha c hc => ?_⟩
    · rw [List.pairwise_map]
      exact (sortI_sorted _).imp fun hh => .inr ⟨rfl, hh⟩
    · have h1 := of_decide_eq_true (List.mem_filter.1 (h.perm.mem_iff.1 ha)).2
      obtain ⟨x, _, rfl⟩ := List.mem_map.1 hc
      exact .inl (by show a.2 < n + 1; omega)

/-- Without the timers of some handles. -/
def dropAll : List Int → List Due → List Due
  | [], L => L
  | h :: r, L => dropAll r (dropH h L)
theorem dropAll_snoc (h : Int) : ∀ (hs : List Int) (L : List Due), dropAll (hs ++ [h]) L = dropH h (dropAll hs L)
  | [], _ => rfl
  | _ :: r, _ => dropAll_snoc h r _
theorem dropAll_filter : ∀ (hs : List Int) (L : List Due), dropAll hs L = L.filter fun d => decide (d.1 ∉ hs)
  | [], L => by rw [dropAll, List.filter_eq_self.2]; intro d _; simp
  | h :: r, L => by
    rw [dropAll, dropAll_filter r, dropH, List.filter_filter]
    apply List.filter_congr
    intro d _
    by_cases e : d.1 = h <;> simp [e]
theorem dropAll_nodup {hs : List Int} {L : List Due} (h : (L.map (·.1)).Nodup) : ((dropAll hs L).map (·.1)).Nodup := by
  rw [dropAll_filter]; exact h.sublist (List.filter_sublist.map _)
theorem dropAll_due {n : Int} {L : List Due} {hs : List Int} (hn : (L.map (·.1)).Nodup) (hp : hs.Perm ((L.filter fun d => decide (d.2 = n)).map (·.1))) : dropAll hs L = L.filter fun d => decide (d.2 ≠ n) := by
  rw [dropAll_filter]
  apply List.filter_congr
  intro d hd
  have : d.1 ∈ hs ↔ d.2 = n := by
    rw [hp.mem_iff, List.mem_map]
    refine ⟨fun ⟨d', h1, h2⟩ => ?_, fun e => ⟨d, List.mem_filter.2 ⟨hd, decide_eq_true e⟩, rfl⟩⟩
    obtain ⟨h3, h4⟩ := List.mem_filter.1 h1
    rw [← nodup_inj hn h3 hd h2]
    exact of_decide_eq_true h4
  by_cases e : d.2 = n
  · simp [e, this.2 e]
  · have : d.1 ∉ hs := fun x => e (this.1 x)
    simp [e, this]
theorem one_is (o : Option Int) : one o = if o.isSome then 1 else 0 := by cases o <;> rfl
/-- One of the deletions. -/
theorem Mp.cut {w : World} {m nb : Nat} {L : List Due} (h : Mp w m nb (tk L) L.length) (hn : (L.map (·.1)).Nodup) {x : Int} (hx : wfI x) (ty : TypeId) :
    ∃ w', (Builtin.delete_ #[262, 3] ty #[.map (some m), .int .i64 x]).run Tryz.prog w = .ok (.tuple #[]) w' ∧ Mp w' m nb (tk (dropH x L)) (dropH x L).length ∧ w.mapTurned w' m := by
  obtain ⟨w', h1, h2, h3⟩ := h.del hx ty
  rw [setM_drop, ← one_is, ← drop_len hn] at h2
  exact ⟨w', h1, h2, h3⟩

theorem wpList_append_due {w : World} {ops : Array Oper} {rest : List Oper} {o : Oper} {a : Act} {Q : Exit → Act → World → Prop} (hgd : o.guard = none) (s x : Operand) (t : TypeId)
    (ho : o.op = .call { callee := .builtin .append, args := #[s, x], argTypes := #[t, t] }) (ht : Tryz.prog.underlying t = some (.slice 195))
    (base : Nat) (v : Value) (n : Nat) (xs : List Due) (hs : a.eval s = v) (hown : w.ownsRow base 195 2 v n (xs.flatMap dueC))
    (g : Nat) (d : Due) (hx : a.eval x = .slice (some ⟨g, 0, none⟩) 1 1) (tt : TypeId) (hg : w.heap[g]? = some (.cells #[.int .i64 d.1, .int .i64 d.2] tt (0, 0)))
    (hn : n ≤ 1000000) (hbase : base ≤ w.heap.size)
    (h : ∀ v' w', w'.ownsRow base 195 2 v' (n + 1) ((xs ++ [d]).flatMap dueC) → w.grownBy w' v.ownBlock → (v'.ownBlock = v.ownBlock ∨ v'.ownBlock = some w.heap.size) → wpList Tryz.prog ops Q rest (a.put o.dst v') w') :
    wpList Tryz.prog ops Q (o :: rest) a w := by
  obtain ⟨i0, hi, hz0, hz1, hz2⟩ := info_parts infoD
  have hr : Rd w w.heap.size 2 dueC (some ⟨g, 0, none⟩) [d] := fun _ => ⟨g, 0, rfl, lt_of_block hg, fun i y hy j u hu => by
    cases i with
    | zero =>
      have : d = y := by simpa using hy
      subst this
      rw [cell_of_row w g _ _ tt (0, 0) hg]
      simpa [dueC] using hu
    | succ i => simp at hy⟩
  refine wpList_append_rd hgd s x t ho base 195 i0 _ 2 16 ht hi hz0 hz1 hz2 rfl (by decide) v n _ hs hown _ 1 1 _ dueC [d] hx (by intro e; cases e) rfl dueC_length hr dueOne (by unfold maxLen; omega) (by omega) hbase ?_
  intro v' w' h1 h2 h3
  exact h v' w' (by rw [List.flatMap_append]; exact h1) h2 h3
end Go.Proofs.YtfjdhdeiaakbaaaGreatDoor
