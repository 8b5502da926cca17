/-
  The contracts of cmp.Compare, of All's closure, and of slices.SortFunc with it, at entries that their tokens tell.
-/
import Derived.Test.YtdmmcgcglkblhaaDoorTkT
namespace Go.Proofs.YtdmmcgcglkblhaaDoor
open Go.RowKit Go.Shelf

theorem nan_any (x : Int) (w : World) : Calls Tryd.prog 38 #[.int .u32 x] w fun e w' => e = .returned (.bool false) ∧ w' = w := by
  go_enter Tryd.func38, Tryd.ntmps38
  go_wp2_with fail
  go_ret
  exact ⟨by simp, rfl⟩
theorem cmp_any (x y : Int) (w : World) : Calls Tryd.prog 28 #[.int .u32 x, .int .u32 y] w fun e w' => e = .returned (.int .i64 (Lib.compareInt x y)) ∧ w' = w := by
  have h1 := nan_any x w
  have h2 := nan_any y w
  have hc : ∃ r, Lib.compareInt x y = r := ⟨_, rfl⟩
  obtain ⟨r, hr⟩ := hc
  rw [hr]
  have HR := Keep.mk hr
  unfold Lib.compareInt at hr
  by_cases a : x < y
  · rw [if_pos a] at hr
    subst hr
    go_enter Tryd.func28, Tryd.ntmps28
    go_wp2_with (first | (go_at_call 38; refine (nan_any _ _).mono ?_; rintro e w' ⟨rfl, rfl⟩) | fail)
    go_ret
    exact ⟨rfl, rfl⟩
  · rw [if_neg a] at hr
    by_cases b : y < x
    · rw [if_pos b] at hr
      subst hr
      go_enter Tryd.func28, Tryd.ntmps28
      go_wp2_with (first | (go_at_call 38; refine (nan_any _ _).mono ?_; rintro e w' ⟨rfl, rfl⟩) | fail)
      go_ret
      exact ⟨rfl, rfl⟩
    · rw [if_neg b] at hr
      subst hr
      go_enter Tryd.func28, Tryd.ntmps28
      go_wp2_with (first | (go_at_call 38; refine (nan_any _ _).mono ?_; rintro e w' ⟨rfl, rfl⟩) | fail)
      go_ret
      exact ⟨rfl, rfl⟩
def encE (f : Int → En) (t : Int) : List Value := [.int .u32 t, .int .i64 (f t).o, .bool (f t).l, .int .i64 (f t).u]
theorem encE_length (f : Int → En) (t : Int) : (encE f t).length = 4 := rfl
theorem less_any (f : Int → En) (x y : Int) (w : World) : Calls Tryd.prog 27 #[.agg #[.int .u32 x, .int .i64 (f x).o, .bool (f x).l, .int .i64 (f x).u], .agg #[.int .u32 y, .int .i64 (f y).o, .bool (f y).l, .int .i64 (f y).u]] w fun e w' => e = .returned (.int .i64 (Lib.compareInt x y)) ∧ ∃ q os', w' = Sort.grow (w.drewN q) os' := by
  obtain ⟨r, hr⟩ : ∃ r, Lib.compareInt x y = r := ⟨_, rfl⟩
  have hcon := fun W' => cmp_any x y W'
  rw [hr] at hcon ⊢
  go_enter Tryd.func27, Tryd.ntmps27
  go_wp2_with (first | (go_at_call 28; refine (hcon _).mono ?_; rintro e w' ⟨rfl, rfl⟩) | fail)
  go_ret
  exact ⟨rfl, 0, _, by rw [Sort.alloc_eq_grow, Sort.alloc_eq_grow, Sort.grow_grow]; rfl⟩

def ltI : Int → Int → Bool := ltOf Lib.compareInt
theorem ltI_eq (x y : Int) : ltI x y = decide (x < y) := by
  unfold ltI ltOf Lib.compareInt
  by_cases h1 : x < y
  · simp [h1]
  · by_cases h2 : y < x <;> simp [h1, h2]
theorem swoI : Sort.SWO ltI where
  irrefl x := by rw [ltI_eq]; simp
  trans x y z h1 h2 := by rw [ltI_eq] at *; simp at *; omega
  ntrans x y z h1 h2 := by rw [ltI_eq] at *; simp at *; omega
def sortI (l : List Int) : List Int := l.mergeSort fun x y => !ltI y x
theorem sortI_perm (l : List Int) : (sortI l).Perm l := List.mergeSort_perm l _
theorem sortI_sorted (l : List Int) : (sortI l).Pairwise (· ≤ ·) := by
  have := List.pairwise_mergeSort (le := fun x y : Int => !ltI y x) (fun a b c h1 h2 => by simp [ltI_eq] at *; omega) (fun a b => by simp [ltI_eq]; omega) l
  refine this.imp ?_
  intro a b h
  simpa [ltI_eq] using h

theorem entFlat (f : Int → En) : ∀ (l : List Int) (t : Nat), t < l.length * 4 → (l.flatMap (encE f))[t]? = some ((encE f l[t / 4]!)[t % 4]!)
  | [], t, h => by simp at h
  | x :: r, 0, _ => rfl
  | x :: r, 1, _ => rfl
  | x :: r, 2, _ => rfl
  | x :: r, 3, _ => rfl
  | x :: r, t + 4, h => by
    have := entFlat f r t (by simp at h; omega)
    rw [List.flatMap_cons, show t + 4 = t + 1 + 1 + 1 + 1 from rfl]
    show (r.flatMap (encE f))[t]? = _
    rw [this, show (t + 1 + 1 + 1 + 1) / 4 = t / 4 + 1 by omega, show (t + 1 + 1 + 1 + 1) % 4 = t % 4 by omega]
    simp
theorem entLen (f : Int → En) : ∀ l : List Int, (l.flatMap (encE f)).length = l.length * 4
  | [] => rfl
  | x :: r => by rw [List.flatMap_cons, List.length_append, entLen f r, List.length_cons, encE_length]; omega

theorem sort_ent (f : Int → En) (base : Nat) (A : Option Addr) (c : Nat) (hs : List Int) (w : World) (hown : w.ownsRow base 43 4 (.slice A hs.length c) hs.length (hs.flatMap (encE f))) (hl : hs.length ≤ 1000000) :
    Calls Tryd.prog 26 #[.slice A hs.length c, .func (.func 27) #[] #[]] w fun e w' => e = .returned (.tuple #[]) ∧
      w'.ownsRow base 43 4 (.slice A hs.length c) hs.length ((sortI hs).flatMap (encE f)) ∧ w.grownBy w' (Value.slice A hs.length c).ownBlock := by
  by_cases hnil : hs = []
  · subst hnil
    have := AnyF.slices_SortFunc_none sortEnt A c (.func (.func 27) #[] #[]) w
    refine this.mono ?_
    rintro e w' ⟨rfl, rfl⟩
    refine ⟨rfl, ?_, ⟨rfl, rfl, rfl, Nat.le_refl _, fun _ _ _ => rfl⟩⟩
    simpa [sortI] using hown
  · obtain ⟨hlen, hown'⟩ := hown
    rcases hown' with ⟨e, _⟩ | ⟨g, cap, cur, hv, hb, hg, h1, h2, h3, h4⟩
    · exact absurd (List.length_eq_zero_iff.1 (by injection e)) hnil
    cases hv
    have hgl := lt_of_block hg
    have hH : Sort.HoldsK (encE f) 4 w g 0 hs.toArray := by
      intro t ht
      have ht' : t < hs.length * 4 := by simpa using ht
      refine ⟨?_, by simp [World.frozen?, hg]⟩
      rw [cell_of_row w g (0 + t) _ _ (0, 0) hg, Nat.zero_add, Sort.get_flatK _ _ _ t (by simpa using ht')]
      have h5 := entFlat f hs t ht'
      rw [← h4, List.getElem?_take_of_lt ht', Array.getElem?_toList] at h5
      rw [h5]
      simp
    have hsz : hs.toArray.size = hs.length := by simp
    have hcon := AnyQ.slices_SortFunc_total sortEnt 4 Tryd.isAgg43 Tryd.sizeOf43 (encE f) (fun _ => rfl) (fun x v hv => by simp [encE] at hv; rcases hv with rfl | rfl | rfl | rfl <;> rfl) Lib.compareInt swoI 27 #[] g 0 c hs.toArray w
      (enters_of Tryd.func27 (by kernel_rfl) rfl) (fun _ _ _ _ x y => less_any f x y _) hH hgl (by rw [hsz]; omega) (fun x y a b => by
        have a' : ltI x y = false := a
        have b' : ltI y x = false := b
        rw [ltI_eq] at a' b'
        have := of_decide_eq_false a'
        have := of_decide_eq_false b'
        omega)
    rw [hsz] at hcon
    refine hcon.mono ?_
    rintro e w' ⟨rfl, m, os, rfl⟩
    obtain ⟨ts, hts⟩ : ∃ ts, sortI hs = ts := ⟨_, rfl⟩
    have htl : ts.length = hs.length := by rw [← hts]; exact (sortI_perm hs).length_eq
    rw [show (hs.toArray.toList.mergeSort fun x y => !(ltOf Lib.compareInt) y x) = ts from hts, hts]
    have hblk : (sortWorldK (encE f) 4 w g 0 m ts.toArray os).heap[g]? = some (.cells (Sort.putCells id 0 (Sort.flatK (encE f) 4 ts.toArray) cur) 43 (0, 0)) := by
      unfold sortWorldK Sort.putRowK
      rw [Sort.heap_grow_old _ _ (by simpa using hgl)]
      simp [Sort.putRow, Sort.mapBlock, Sort.ahead, Array.getElem?_modify, hg, Sort.onCells]
    refine ⟨rfl, ⟨?_, .inr ⟨g, c, _, rfl, hb, hblk, h1, h2, by simp [Sort.putCells, h3], ?_⟩⟩, ⟨rfl, rfl, rfl, ?_, fun k hk hne => ?_⟩⟩
    · rw [show (ts.flatMap (encE f)).length = ts.length * 4 by rw [entLen], htl]
    · apply List.ext_getElem?
      intro t
      by_cases ht : t < hs.length * 4
      · rw [List.getElem?_take_of_lt ht, Array.getElem?_toList, entFlat f ts t (by rw [htl]; exact ht)]
        have h7 : t < cur.size := by rw [h3]; omega
        have h8 : t < ts.length * 4 := by rw [htl]; exact ht
        simp only [Sort.putCells, Array.getElem?_mapIdx, Array.getElem?_eq_getElem h7, Option.map_some, Nat.zero_le, true_and, Nat.zero_add, Nat.sub_zero, Sort.size_flatK, List.size_toArray, id]
        rw [if_pos h8, Sort.get_flatK _ _ _ t (by simpa using h8)]
        simp
      · rw [List.getElem?_take_eq_none (by omega), List.getElem?_eq_none]
        rw [show (ts.flatMap (encE f)).length = ts.length * 4 by rw [entLen]]
        omega
    · unfold sortWorldK Sort.putRowK; simp
    · unfold sortWorldK Sort.putRowK
      rw [Sort.heap_grow_old _ _ (by simpa using hk)]
      have : g ≠ k := fun e => hne (by rw [e]; rfl)
      simp [Sort.putRow, Sort.mapBlock, Sort.ahead, Array.getElem?_modify, this]
end Go.Proofs.YtdmmcgcglkblhaaDoor
