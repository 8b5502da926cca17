/-
  The contracts of cmp.Compare, of Advance's closure, and of slices.SortFunc with it, at timers of one tick.
-/
import Derived.Test.YtmjmiadogniopaaWhT
namespace Go.Proofs.Ytmjmiadogniopaa
open Go.RowKit Go.Shelf

theorem nan_any (x : Int) (w : World) : Calls Try.prog 37 #[.int .i64 x] w fun e w' => e = .returned (.bool false) ∧ w' = w := by
  go_enter Try.func37, Try.ntmps37
  go_wp2_with fail
  go_ret
  exact ⟨by simp, rfl⟩
theorem cmp_any (x y : Int) (w : World) : Calls Try.prog 31 #[.int .i64 x, .int .i64 y] w fun e w' => e = .returned (.int .i64 (Lib.compareInt x y)) ∧ w' = w := by
  have h1 := nan_any x w
  have h2 := nan_any y w
  have hc : ∃ r, Lib.compareInt x y = r := ⟨_, rfl⟩
  obtain ⟨r, hr⟩ := hc
  rw [hr]
  have HR := Keep.mk hr
  unfold Lib.compareInt at hr
  by_cases a : x < y
  · rw [if_pos a] at hr
    subst hr
    go_enter Try.func31, Try.ntmps31
    go_wp2_with (first | (go_at_call 37; refine (nan_any _ _).mono ?_; rintro e w' ⟨rfl, rfl⟩) | fail)
    go_ret
    exact ⟨rfl, rfl⟩
  · rw [if_neg a] at hr
    by_cases b : y < x
    · rw [if_pos b] at hr
      subst hr
      go_enter Try.func31, Try.ntmps31
      go_wp2_with (first | (go_at_call 37; refine (nan_any _ _).mono ?_; rintro e w' ⟨rfl, rfl⟩) | fail)
      go_ret
      exact ⟨rfl, rfl⟩
    · rw [if_neg b] at hr
      subst hr
      go_enter Try.func31, Try.ntmps31
      go_wp2_with (first | (go_at_call 37; refine (nan_any _ _).mono ?_; rintro e w' ⟨rfl, rfl⟩) | fail)
      go_ret
      exact ⟨rfl, rfl⟩
theorem less_any (x y a b : Int) (w : World) : Calls Try.prog 30 #[.agg #[.int .i64 x, .int .i64 a], .agg #[.int .i64 y, .int .i64 b]] w fun e w' => e = .returned (.int .i64 (Lib.compareInt x y)) ∧ ∃ q os', w' = Sort.grow (w.drewN q) os' := by
  obtain ⟨r, hr⟩ : ∃ r, Lib.compareInt x y = r := ⟨_, rfl⟩
  have hcon := fun W' => cmp_any x y W'
  rw [hr] at hcon ⊢
  go_enter Try.func30, Try.ntmps30
  go_wp2_with (first | (go_at_call 31; refine (hcon _).mono ?_; rintro e w' ⟨rfl, rfl⟩) | fail)
  go_ret
  exact ⟨rfl, 0, _, by rw [Sort.alloc_eq_grow, Sort.alloc_eq_grow, Sort.grow_grow]; rfl⟩

def ltI : Int → Int → Bool := ltOf Lib.compareInt
theorem ltI_eq (x y : Int) : ltI x y = decide (x < y) := by
  unfold ltI ltOf Lib.compareInt
  by_cases h1 : x < y
  · simp [h1]
  · by_cases h2 : y < x <;> simp [h1, h2]
theorem swoI : Sort.SWO ltI where
  irrefl x := by rw [ltI_eq]; simp
  trans x y z h1 h2 := by rw [ltI_eq] at *; simp at *; omega
  ntrans x y z h1 h2 := by rw [ltI_eq] at *; simp at *; omega
def sortI (l : List Int) : List Int := l.mergeSort fun x y => !ltI y x
theorem sortI_perm (l : List Int) : (sortI l).Perm l := List.mergeSort_perm l _
theorem sortI_sorted (l : List Int) : (sortI l).Pairwise (· ≤ ·) := by
  have := List.pairwise_mergeSort (le := fun x y : Int => !ltI y x) (fun a b c h1 h2 => by simp [ltI_eq] at *; omega) (fun a b => by simp [ltI_eq]; omega) l
  refine this.imp ?_
  intro a b h
  simpa [ltI_eq] using h

theorem flat_cell : ∀ (l : List Due) (t : Nat), t < l.length * 2 → (l.flatMap dueC)[t]? = some ((dueC l[t / 2]!)[t % 2]!)
  | [], t, h => by simp at h
  | x :: r, 0, _ => rfl
  | x :: r, 1, _ => rfl
  | x :: r, t + 2, h => by
    have := flat_cell r t (by simp at h; omega)
    rw [List.flatMap_cons, show t + 2 = t + 1 + 1 from rfl]
    show (r.flatMap dueC)[t]? = _
    rw [this, show (t + 1 + 1) / 2 = t / 2 + 1 by omega, show (t + 1 + 1) % 2 = t % 2 by omega]
    simp
theorem flat_len : ∀ l : List Due, (l.flatMap dueC).length = l.length * 2
  | [] => rfl
  | x :: r => by rw [List.flatMap_cons, List.length_append, flat_len r, List.length_cons, dueC_length]; omega
def encN (n : Int) (h : Int) : List Value := [.int .i64 h, .int .i64 n]
theorem encN_at (n : Int) (hs : List Int) (t : Nat) (h : t < hs.length * 2) : ((hs.map fun x => (x, n)).flatMap dueC)[t]? = some ((encN n hs[t / 2]!)[t % 2]!) := by
  rw [flat_cell _ t (by simpa using h)]
  have h2 : t / 2 < hs.length := by omega
  rw [getElem!_pos (hs.map fun x => (x, n)) (t / 2) (by simpa using h2), getElem!_pos hs (t / 2) h2]
  simp [dueC, encN]

theorem sort_due (n : Int) (base : Nat) (A : Option Addr) (c : Nat) (hs : List Int) (w : World) (hown : w.ownsRow base 35 2 (.slice A hs.length c) hs.length ((hs.map fun x => (x, n)).flatMap dueC)) (hl : hs.length ≤ 1000000) :
    Calls Try.prog 29 #[.slice A hs.length c, .func (.func 30) #[] #[]] w fun e w' => e = .returned (.tuple #[]) ∧
      w'.ownsRow base 35 2 (.slice A hs.length c) hs.length (((sortI hs).map fun x => (x, n)).flatMap dueC) ∧ w.grownBy w' (Value.slice A hs.length c).ownBlock := by
  by_cases hnil : hs = []
  · subst hnil
    have := AnyF.slices_SortFunc_none sortDue A c (.func (.func 30) #[] #[]) w
    refine this.mono ?_
    rintro e w' ⟨rfl, rfl⟩
    refine ⟨rfl, ?_, ⟨rfl, rfl, rfl, Nat.le_refl _, fun _ _ _ => rfl⟩⟩
    simpa [sortI] using hown
  · obtain ⟨hlen, hown'⟩ := hown
    rcases hown' with ⟨e, _⟩ | ⟨g, cap, cur, hv, hb, hg, h1, h2, h3, h4⟩
    · exact absurd (List.length_eq_zero_iff.1 (by injection e)) hnil
    cases hv
    have hgl := lt_of_block hg
    have hH : Sort.HoldsK (encN n) 2 w g 0 hs.toArray := by
      intro t ht
      have ht' : t < hs.length * 2 := by simpa using ht
      refine ⟨?_, by simp [World.frozen?, hg]⟩
      rw [cell_of_row w g (0 + t) _ _ (0, 0) hg, Nat.zero_add, Sort.get_flatK _ _ _ t (by simpa using ht')]
      have h5 := encN_at n hs t ht'
      rw [← h4, List.getElem?_take_of_lt ht', Array.getElem?_toList] at h5
      rw [h5]
      simp
    have hsz : hs.toArray.size = hs.length := by simp
    have hcon := AnyQ.slices_SortFunc_total sortDue 2 Try.isAgg35 Try.sizeOf35 (encN n) (fun _ => rfl) (fun x v hv => by simp [encN] at hv; rcases hv with rfl | rfl <;> rfl) Lib.compareInt swoI 30 #[] g 0 c hs.toArray w
      (enters_of Try.func30 (by kernel_rfl) rfl) (fun _ _ _ _ x y => less_any x y n n _) hH hgl (by rw [hsz]; omega) (fun x y a b => by
        have a' : ltI x y = false := a
        have b' : ltI y x = false := b
        rw [ltI_eq] at a' b'
        have := of_decide_eq_false a'
        have := of_decide_eq_false b'
        omega)
    rw [hsz] at hcon
    refine hcon.mono ?_
    rintro e w' ⟨rfl, m, os, rfl⟩
    obtain ⟨ts, hts⟩ : ∃ ts, sortI hs = ts := ⟨_, rfl⟩
    have htl : ts.length = hs.length := by rw [← hts]; exact (sortI_perm hs).length_eq
    rw [show (hs.toArray.toList.mergeSort fun x y => !(ltOf Lib.compareInt) y x) = ts from hts, hts]
    have hblk : (sortWorldK (encN n) 2 w g 0 m ts.toArray os).heap[g]? = some (.cells (Sort.putCells id 0 (Sort.flatK (encN n) 2 ts.toArray) cur) 35 (0, 0)) := by
      unfold sortWorldK Sort.putRowK
      rw [Sort.heap_grow_old _ _ (by simpa using hgl)]
      simp [Sort.putRow, Sort.mapBlock, Sort.ahead, Array.getElem?_modify, hg, Sort.onCells]
    refine ⟨rfl, ⟨?_, .inr ⟨g, c, _, rfl, hb, hblk, h1, h2, by simp [Sort.putCells, h3], ?_⟩⟩, ⟨rfl, rfl, rfl, ?_, fun k hk hne => ?_⟩⟩
    · rw [show ((ts.map fun x => (x, n)).flatMap dueC).length = ts.length * 2 by rw [flat_len, List.length_map], htl]
    · apply List.ext_getElem?
      intro t
      by_cases ht : t < hs.length * 2
      · rw [List.getElem?_take_of_lt ht, Array.getElem?_toList, encN_at n ts t (by rw [htl]; exact ht)]
        have h7 : t < cur.size := by rw [h3]; omega
        have h8 : t < ts.length * 2 := by rw [htl]; exact ht
        simp only [Sort.putCells, Array.getElem?_mapIdx, Array.getElem?_eq_getElem h7, Option.map_some, Nat.zero_le, true_and, Nat.zero_add, Nat.sub_zero, Sort.size_flatK, List.size_toArray, id]
        rw [if_pos h8, Sort.get_flatK _ _ _ t (by simpa using h8)]
        simp
      · rw [List.getElem?_take_eq_none (by omega), List.getElem?_eq_none]
        rw [show ((ts.map fun x => (x, n)).flatMap dueC).length = ts.length * 2 by rw [flat_len, List.length_map]]
        omega
    · unfold sortWorldK Sort.putRowK; simp
    · unfold sortWorldK Sort.putRowK
      rw [Sort.heap_grow_old _ _ (by simpa using hk)]
      have : g ≠ k := fun e => hne (by rw [e]; rfl)
      simp [Sort.putRow, Sort.mapBlock, Sort.ahead, Array.getElem?_modify, this]
end Go.Proofs.Ytmjmiadogniopaa
