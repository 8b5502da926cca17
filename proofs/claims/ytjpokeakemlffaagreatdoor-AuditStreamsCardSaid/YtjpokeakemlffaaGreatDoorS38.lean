/-
  Walks and laws, one behind the other (part 38).
-/
import Derived.Test.YtjpokeakemlffaaGreatDoorS8
import Derived.Test.YtjpokeakemlffaaGreatDoorS24
import Derived.Test.YtjpokeakemlffaaGreatDoorS31
import Derived.Test.YtjpokeakemlffaaGreatDoorS37
set_option linter.unusedSimpArgs false
set_option linter.unusedVariables false
/-
  The order of streams: cmp.Or of two, the closure of Streams, and slices.SortFunc with it, at streams that their names tell.
-/
namespace Go.Proofs.YtjpokeakemlffaaGreatDoor
open Go.RowKit Go.Shelf
structure StR where
  A1 : Option Addr
  n1 : Nat
  c1 : Nat
  A2 : Option Addr
  n2 : Nat
  c2 : Nat
  sh : Bool
  cl : Bool
  ov : Bool
  e : Int
abbrev strC (s h : Int) (r : StR) : List Value := [.int .i64 s, .int .i64 h, .slice r.A1 r.n1 r.c1, .slice r.A2 r.n2 r.c2, .bool r.sh, .bool r.cl, .bool r.ov, .int .i64 r.e]
def encS (f : Int × Int → StR) (x : Int × Int) : List Value := strC x.1 x.2 (f x)
theorem encS_length (f : Int × Int → StR) (x : Int × Int) : (encS f x).length = 8 := rfl
def or2 (a b : Int) : Int := if a = 0 then b else a
set_option maxRecDepth 100000 in
set_option maxHeartbeats 1600000 in
theorem or_any {w : World} {g : Nat} (a b : Int) (h0 : w.cell? ⟨g, 0, none⟩ = some (.int .i64 a)) (h1 : w.cell? ⟨g, 1, none⟩ = some (.int .i64 b)) :
    Calls Tryz.prog 17 #[.slice (some ⟨g, 0, none⟩) 2 2] w fun e w' => e = .returned (.int .i64 (or2 a b)) ∧ w' = w := by
  by_cases ha : a = 0
  · by_cases hb : b = 0
    · subst ha hb
      go_enter Tryz.func17, Tryz.ntmps17
      go_wp2_with fail
      go_loopw [8] (fun i wr => ∃ j : Nat, j ≤ 2 ∧ i = .int .i64 j ∧ wr = w) (fun i _ => 2 - (intOf i).toNat)
      case atStart => exact ⟨0, by omega, rfl, rfl⟩
      case round =>
        obtain ⟨j, hj, rfl, rfl⟩ := hrel
        obtain rfl | rfl | rfl : j = 0 ∨ j = 1 ∨ j = 2 := by omega
        · go_wp2_with fail
          go_roundw
          case rel => exact ⟨1, by omega, rfl, by first | rfl | trivial⟩
          case measure => simp [intOf]
        · go_wp2_with fail
          go_roundw
          case rel => exact ⟨2, by omega, rfl, by first | rfl | trivial⟩
          case measure => simp [intOf]
        · go_wp2_with fail
          go_ret
          exact ⟨rfl, rfl⟩
    · subst ha
      have hbb : (b == 0) = false := by simp [hb]
      have hr : or2 0 b = b := rfl
      rw [hr]
      clear hr
      go_enter Tryz.func17, Tryz.ntmps17
      go_wp2_with fail
      go_loopw [8] (fun i wr => ∃ j : Nat, j ≤ 1 ∧ i = .int .i64 j ∧ wr = w) (fun i _ => 2 - (intOf i).toNat)
      case atStart => exact ⟨0, by omega, rfl, rfl⟩
      case round =>
        obtain ⟨j, hj, rfl, rfl⟩ := hrel
        obtain rfl | rfl : j = 0 ∨ j = 1 := by omega
        · go_wp2_with fail
          go_roundw
          case rel => exact ⟨1, by omega, rfl, by first | rfl | trivial⟩
          case measure => simp [intOf]
        · go_wp2_with fail
          go_ret
          exact ⟨rfl, rfl⟩
  · have hab : (a == 0) = false := by simp [ha]
    have hr : or2 a b = a := if_neg ha
    rw [hr]
    clear hr
    go_enter Tryz.func17, Tryz.ntmps17
    go_wp2_with fail
    go_loopw [8] (fun i wr => i = .int .i64 0 ∧ wr = w) (fun i _ => 2 - (intOf i).toNat)
    case atStart => exact ⟨rfl, rfl⟩
    case round =>
      obtain ⟨rfl, rfl⟩ := hrel
      go_wp2_with fail
      go_ret
      exact ⟨rfl, rfl⟩
def cmpN (x y : Int × Int) : Int := or2 (Lib.compareInt x.1 y.1) (Lib.compareInt x.2 y.2)
set_option maxRecDepth 100000 in
set_option maxHeartbeats 1600000 in
theorem lessN_any (f : Int × Int → StR) (x y : Int × Int) (w : World) : Calls Tryz.prog 16 #[.agg (strC x.1 x.2 (f x)).toArray, .agg (strC y.1 y.2 (f y)).toArray] w fun e w' => e = .returned (.int .i64 (cmpN x y)) ∧ ∃ q os', w' = Sort.grow (w.drewN q) os' := by
  obtain ⟨a, ha⟩ : ∃ a, Lib.compareInt x.1 y.1 = a := ⟨_, rfl⟩
  obtain ⟨b, hb⟩ : ∃ b, Lib.compareInt x.2 y.2 = b := ⟨_, rfl⟩
  have c1 := fun W' => cmp_any x.1 y.1 W'
  have c2 := fun W' => cmp_any x.2 y.2 W'
  unfold cmpN
  rw [ha] at c1 ⊢
  rw [hb] at c2 ⊢
  clear ha hb
  obtain ⟨x1, x2⟩ := x
  obtain ⟨y1, y2⟩ := y
  obtain ⟨rx, hrx⟩ : ∃ r, f (x1, x2) = r := ⟨_, rfl⟩
  obtain ⟨ry, hry⟩ : ∃ r, f (y1, y2) = r := ⟨_, rfl⟩
  rw [hrx, hry]
  clear hrx hry
  obtain ⟨A1, n1, k1, A2, n2, k2, p1, p2, p3, p4⟩ := rx
  obtain ⟨B1, m1, j1, B2, m2, j2, q1, q2, q3, q4⟩ := ry
  obtain ⟨oA, hoA⟩ : ∃ o, Obj.cells #[.int .i64 x1, .int .i64 x2, .slice A1 n1 k1, .slice A2 n2 k2, .bool p1, .bool p2, .bool p3, .int .i64 p4] 31 = o := ⟨_, rfl⟩
  obtain ⟨oB, hoB⟩ : ∃ o, Obj.cells #[.int .i64 y1, .int .i64 y2, .slice B1 m1 j1, .slice B2 m2 j2, .bool q1, .bool q2, .bool q3, .int .i64 q4] 31 = o := ⟨_, rfl⟩
  have bA := ((Bk.new w #[.int .i64 x1, .int .i64 x2, .slice A1 n1 k1, .slice A2 n2 k2, .bool p1, .bool p2, .bool p3, .int .i64 p4] 31).fz (Fz.alloc _ (.cells #[.int .i64 y1, .int .i64 y2, .slice B1 m1 j1, .slice B2 m2 j2, .bool q1, .bool q2, .bool q3, .int .i64 q4] 31)) (by simp)).fz (Fz.drew _ 1) (by simp)
  have bB := (Bk.new (w.alloc (.cells #[.int .i64 x1, .int .i64 x2, .slice A1 n1 k1, .slice A2 n2 k2, .bool p1, .bool p2, .bool p3, .int .i64 p4] 31)) #[.int .i64 y1, .int .i64 y2, .slice B1 m1 j1, .slice B2 m2 j2, .bool q1, .bool q2, .bool q3, .int .i64 q4] 31).fz (Fz.drew _ 1) (by simp)
  rw [show (w.alloc (.cells #[.int .i64 x1, .int .i64 x2, .slice A1 n1 k1, .slice A2 n2 k2, .bool p1, .bool p2, .bool p3, .int .i64 p4] 31)).heap.size = w.heap.size + 1 by simp] at bB
  have e0 : ((w.alloc oA).alloc oB).drew.cell? ⟨w.heap.size, 0, none⟩ = some (.int .i64 x1) := by rw [← hoA, ← hoB]; exact bA.c 0
  have e1 : ((w.alloc oA).alloc oB).drew.cell? ⟨w.heap.size, 1, none⟩ = some (.int .i64 x2) := by rw [← hoA, ← hoB]; exact bA.c 1
  have e2 : ((w.alloc oA).alloc oB).drew.cell? ⟨w.heap.size + 1, 0, none⟩ = some (.int .i64 y1) := by rw [← hoA, ← hoB]; exact bB.c 0
  have e3 : ((w.alloc oA).alloc oB).drew.cell? ⟨w.heap.size + 1, 1, none⟩ = some (.int .i64 y2) := by rw [← hoA, ← hoB]; exact bB.c 1
  obtain ⟨oC, hoC⟩ : ∃ o, Obj.cells #[.int .i64 a, .int .i64 b] 3 = o := ⟨_, rfl⟩
  have g0 : (((w.alloc oA).alloc oB).drew.alloc oC).cell? ⟨w.heap.size, 0, none⟩ = some (.int .i64 x1) := by rw [← hoA, ← hoB]; exact (bA.fz (Fz.alloc _ _) (by simp)).c 0
  have g1 : (((w.alloc oA).alloc oB).drew.alloc oC).cell? ⟨w.heap.size, 1, none⟩ = some (.int .i64 x2) := by rw [← hoA, ← hoB]; exact (bA.fz (Fz.alloc _ _) (by simp)).c 1
  have g2 : (((w.alloc oA).alloc oB).drew.alloc oC).cell? ⟨w.heap.size + 1, 0, none⟩ = some (.int .i64 y1) := by rw [← hoA, ← hoB]; exact (bB.fz (Fz.alloc _ _) (by simp)).c 0
  have g3 : (((w.alloc oA).alloc oB).drew.alloc oC).cell? ⟨w.heap.size + 1, 1, none⟩ = some (.int .i64 y2) := by rw [← hoA, ← hoB]; exact (bB.fz (Fz.alloc _ _) (by simp)).c 1
  have HO : Keep (Calls Tryz.prog 17 #[.slice (some ⟨w.heap.size + 1 + 1, 0, none⟩) 2 2] (((w.alloc oA).alloc oB).drew.alloc oC) fun e w' => e = .returned (.int .i64 (or2 a b)) ∧ w' = ((w.alloc oA).alloc oB).drew.alloc oC) := ⟨by
    have hs : ((w.alloc oA).alloc oB).drew.heap.size = w.heap.size + 1 + 1 := by show ((w.alloc oA).alloc oB).heap.size = _; simp
    have nb := Bk.new ((w.alloc oA).alloc oB).drew #[.int .i64 a, .int .i64 b] 3
    rw [hs, hoC] at nb
    exact or_any a b (nb.c 0) (nb.c 1)⟩
  clear bA bB
  go_enter Tryz.func16, Tryz.ntmps16
  go_wp2_with fail
  -- reg less
  refine wp_region_noPanic ?_
  refine wp_region_held_drew (S := fun X => X.cell? ⟨w.heap.size, 0, none⟩ = some (.int .i64 x1) ∧ X.cell? ⟨w.heap.size, 1, none⟩ = some (.int .i64 x2) ∧ X.cell? ⟨w.heap.size + 1, 0, none⟩ = some (.int .i64 y1) ∧ X.cell? ⟨w.heap.size + 1, 1, none⟩ = some (.int .i64 y2)) (by kernel_rfl) ⟨e0, e1, e2, e3⟩ (fun hHeld => ?_)
  refine wpAnyH_pures' (fun d => ([1000, 1000, 1000, 1000, 12, 0, 1, 2, 3, 4, 5, 6, 7, 8, 9, 10, 11] : List Nat).getD d 1000) [0, 1, 2, 3, 5, 6, 7, 8] 5 (by kernel_rfl) (by kernel_rfl) (by kernel_rfl) (fun _ _ _ _ _ h => h) (by assumption) (fun K hK => ?_)
  iterate 8 (refine Ys_cons (v := ?_) rfl (Or.inl ⟨by rfl, ?_⟩) ?_; rotate_left; (focus (intro w hSw; go_simp; (try with_reducible rfl))); try simp only [Act.put, List.setIfInBounds_toArray, List.set_cons_zero, List.set_cons_succ, List.getElem_toArray, List.getElem_cons_zero, List.getElem_cons_succ])
  refine hK _ ?_
  clear hK K
  change wpAnyH _ _ _ _ _ _ #[true, true, true, true, false, true, true, true, true, false, false, false, false] _ _
  refine wpAnyH_ready (rs := [4]) (by kernel_rfl) (by simp) ?_
  refine AllReadyH.cons rfl (fun K hK => ?_) AllReadyH.nil
  go_simp
  refine (c1 _).mono ?_
  rintro e X ⟨rfl, hX⟩
  rw [hX]
  clear hX
  refine hK.out _ _ ?_ (fun hHeld => ?_)
  · first | exact ⟨e0, e1, e2, e3⟩ | exact ⟨g0, g1, g2, g3⟩
  clear hK K
  try simp only [Act.put, List.setIfInBounds_toArray, List.set_cons_zero, List.set_cons_succ, List.getElem_toArray, List.getElem_cons_zero, List.getElem_cons_succ]
  refine wpAnyH_ready (rs := [9]) (by kernel_rfl) (by simp) ?_
  refine AllReadyH.cons rfl (fun K hK => ?_) AllReadyH.nil
  go_simp
  refine (c2 _).mono ?_
  rintro e X ⟨rfl, hX⟩
  rw [hX]
  clear hX
  refine hK.out _ _ ?_ (fun hHeld => ?_)
  · first | exact ⟨e0, e1, e2, e3⟩ | exact ⟨g0, g1, g2, g3⟩
  clear hK K
  try simp only [Act.put, List.setIfInBounds_toArray, List.set_cons_zero, List.set_cons_succ, List.getElem_toArray, List.getElem_cons_zero, List.getElem_cons_succ]
  refine wpAnyH_ready (rs := [10]) (by kernel_rfl) (by simp) ?_
  refine AllReadyH.cons rfl (fun K hK => ?_) AllReadyH.nil
  go_simp
  refine hK.out _ _ ?_ (fun hHeld => ?_)
  · first | exact ⟨e0, e1, e2, e3⟩ | exact ⟨g0, g1, g2, g3⟩
  clear hK K
  try simp only [Act.put, List.setIfInBounds_toArray, List.set_cons_zero, List.set_cons_succ, List.getElem_toArray, List.getElem_cons_zero, List.getElem_cons_succ]
  refine wpAnyH_ready (rs := [11]) (by kernel_rfl) (by simp) ?_
  refine AllReadyH.cons rfl (fun K hK => ?_) AllReadyH.nil
  go_simp
  refine HO.out.mono ?_
  rintro e X ⟨rfl, hX⟩
  rw [hX]
  clear hX
  refine hK.out _ _ ?_ (fun hHeld => ?_)
  · first | exact ⟨e0, e1, e2, e3⟩ | exact ⟨g0, g1, g2, g3⟩
  clear hK K
  try simp only [Act.put, List.setIfInBounds_toArray, List.set_cons_zero, List.set_cons_succ, List.getElem_toArray, List.getElem_cons_zero, List.getElem_cons_succ]
  refine wpAnyH_take (i := 12) (v := ?_) rfl (by kernel_rfl) (by kernel_rfl) (by kernel_rfl) (fun _ _ _ h => h) (Or.inl ⟨by rfl, ?_⟩) (by assumption) ?_
  rotate_left
  · intro w hSw; go_simp; (try with_reducible rfl)
  try simp only [Act.put, List.setIfInBounds_toArray, List.set_cons_zero, List.set_cons_succ, List.getElem_toArray, List.getElem_cons_zero, List.getElem_cons_succ]
  refine wpAnyH_done (by kernel_rfl) ?_ _
  refine NoPanic.normal ?_
  go_wp2_with fail
  go_ret
  refine ⟨rfl, 1, #[oA] ++ #[oB] ++ #[oC], ?_⟩
  rw [Sort.alloc_eq_grow, Sort.alloc_eq_grow, Sort.alloc_eq_grow]
  first
    | rfl
    | (show Sort.grow (Sort.grow (Sort.grow w #[oA]) #[oB]) #[oC] = _; simp [Sort.grow])
    | (simp only [Sort.grow]; rfl)
    | (simp [Sort.grow, World.drew, World.drewN])
  -- end reg
def ltN : Int × Int → Int × Int → Bool := ltOf cmpN
theorem cmpI (x y : Int) : Lib.compareInt x y = if x < y then -1 else if y < x then 1 else 0 := rfl
theorem ltN_eq (x y : Int × Int) : ltN x y = decide (x.1 < y.1 ∨ (x.1 = y.1 ∧ x.2 < y.2)) := by
  unfold ltN ltOf cmpN or2
  rw [cmpI, cmpI]
  by_cases h1 : x.1 < y.1
  · simp [h1]
  · by_cases h2 : y.1 < x.1
    · have : ¬ x.1 = y.1 := by omega
      simp [h1, h2, this]
    · have e : x.1 = y.1 := by omega
      by_cases h3 : x.2 < y.2
      · simp [e, h3]
      · by_cases h4 : y.2 < x.2 <;> simp [e, h3, h4]
theorem swoN : Sort.SWO ltN where
  irrefl x := by rw [ltN_eq]; simp
  trans x y z h1 h2 := by rw [ltN_eq] at *; simp at *; omega
  ntrans x y z h1 h2 := by rw [ltN_eq] at *; simp at *; omega
def sortN (l : List (Int × Int)) : List (Int × Int) := l.mergeSort fun x y => !ltN y x
theorem sortN_perm (l : List (Int × Int)) : (sortN l).Perm l := List.mergeSort_perm l _
theorem strFlat (f : Int × Int → StR) (l : List (Int × Int)) (t : Nat) (h : t < l.length * 8) : (l.flatMap (encS f))[t]? = some ((encS f l[t / 8]!)[t % 8]!) := by
  have hq : t / 8 < l.length := by omega
  have h8 : t % 8 < (encS f l[t / 8]).length := by rw [encS_length]; omega
  have h1 := flat_at (encS_length f) l (t / 8) _ (List.getElem?_eq_getElem hq) (t % 8) _ (List.getElem?_eq_getElem h8)
  rw [show t / 8 * 8 + t % 8 = t by omega] at h1
  have e1 : l[t / 8]! = l[t / 8] := getElem!_pos l (t / 8) hq
  rw [h1, e1, getElem!_pos (encS f l[t / 8]) (t % 8) h8]
theorem strLen (f : Int × Int → StR) (l : List (Int × Int)) : (l.flatMap (encS f)).length = l.length * 8 := flat_length (encS_length f) l
set_option maxRecDepth 100000 in
theorem sort_str (f : Int × Int → StR) (base : Nat) (A : Option Addr) (c : Nat) (hs : List (Int × Int)) (w : World) (hown : w.ownsRow base 31 8 (.slice A hs.length c) hs.length (hs.flatMap (encS f))) (hl : hs.length ≤ 1000000) :
    Calls Tryz.prog 15 #[.slice A hs.length c, .func (.func 16) #[] #[]] w fun e w' => e = .returned (.tuple #[]) ∧
      w'.ownsRow base 31 8 (.slice A hs.length c) hs.length ((sortN hs).flatMap (encS f)) ∧ w.grownBy w' (Value.slice A hs.length c).ownBlock := by
  by_cases hnil : hs = []
  · subst hnil
    have := AnyF.slices_SortFunc_none sortStm A c (.func (.func 16) #[] #[]) w
    refine this.mono ?_
    rintro e w' ⟨rfl, rfl⟩
    refine ⟨rfl, ?_, ⟨rfl, rfl, rfl, Nat.le_refl _, fun _ _ _ => rfl⟩⟩
    simpa [sortN] using hown
  · obtain ⟨hlen, hown'⟩ := hown
    rcases hown' with ⟨e, _⟩ | ⟨g, cap, cur, hv, hb, hg, h1, h2, h3, h4⟩
    · exact absurd (List.length_eq_zero_iff.1 (by injection e)) hnil
    cases hv
    have hgl := lt_of_block hg
    have hH : Sort.HoldsK (encS f) 8 w g 0 hs.toArray := by
      intro t ht
      have ht' : t < hs.length * 8 := by simpa using ht
      refine ⟨?_, by simp [World.frozen?, hg]⟩
      rw [cell_of_row w g (0 + t) _ _ (0, 0) hg, Nat.zero_add, Sort.get_flatK _ _ _ t (by simpa using ht')]
      have h5 := strFlat f hs t ht'
      rw [← h4, List.getElem?_take_of_lt ht', Array.getElem?_toList] at h5
      rw [h5]
      simp
    have hsz : hs.toArray.size = hs.length := by simp
    have hcon := AnyQ.slices_SortFunc_total sortStm 8 Tryz.isAgg31 Tryz.sizeOf31 (encS f) (fun _ => rfl) (fun x v hv => by simp [encS] at hv; rcases hv with rfl | rfl | rfl | rfl | rfl | rfl | rfl | rfl <;> rfl) cmpN swoN 16 #[] g 0 c hs.toArray w
      (enters_of Tryz.func16 (by kernel_rfl) rfl) (fun _ _ _ _ x y => lessN_any f x y _) hH hgl (by rw [hsz]; omega) (fun x y a b => by
        have a' : ltN x y = false := a
        have b' : ltN y x = false := b
        rw [ltN_eq] at a' b'
        have a2 := of_decide_eq_false a'
        have b2 := of_decide_eq_false b'
        apply Prod.ext <;> omega)
    rw [hsz] at hcon
    refine hcon.mono ?_
    rintro e w' ⟨rfl, m, os, rfl⟩
    obtain ⟨ts, hts⟩ : ∃ ts, sortN hs = ts := ⟨_, rfl⟩
    have htl : ts.length = hs.length := by rw [← hts]; exact (sortN_perm hs).length_eq
    rw [show (hs.toArray.toList.mergeSort fun x y => !(ltOf cmpN) y x) = ts from hts, hts]
    have hblk : (sortWorldK (encS f) 8 w g 0 m ts.toArray os).heap[g]? = some (.cells (Sort.putCells id 0 (Sort.flatK (encS f) 8 ts.toArray) cur) 31 (0, 0)) := by
      unfold sortWorldK Sort.putRowK
      rw [Sort.heap_grow_old _ _ (by simpa using hgl)]
      simp [Sort.putRow, Sort.mapBlock, Sort.ahead, Array.getElem?_modify, hg, Sort.onCells]
    refine ⟨rfl, ⟨?_, .inr ⟨g, c, _, rfl, hb, hblk, h1, h2, by simp [Sort.putCells, h3], ?_⟩⟩, ⟨rfl, rfl, rfl, ?_, fun k hk hne => ?_⟩⟩
    · rw [show (ts.flatMap (encS f)).length = ts.length * 8 by rw [strLen], htl]
    · apply List.ext_getElem?
      intro t
      by_cases ht : t < hs.length * 8
      · rw [List.getElem?_take_of_lt ht, Array.getElem?_toList, strFlat f ts t (by rw [htl]; exact ht)]
        have h7 : t < cur.size := by rw [h3]; omega
        have h8 : t < ts.length * 8 := by rw [htl]; exact ht
        simp only [Sort.putCells, Array.getElem?_mapIdx, Array.getElem?_eq_getElem h7, Option.map_some, Nat.zero_le, true_and, Nat.zero_add, Nat.sub_zero, Sort.size_flatK, List.size_toArray, id]
        rw [if_pos h8, Sort.get_flatK _ _ _ t (by simpa using h8)]
        simp
      · rw [List.getElem?_take_eq_none (by omega), List.getElem?_eq_none]
        rw [show (ts.flatMap (encS f)).length = ts.length * 8 by rw [strLen]]
        omega
    · unfold sortWorldK Sort.putRowK; simp
    · unfold sortWorldK Sort.putRowK
      rw [Sort.heap_grow_old _ _ (by simpa using hk)]
      have : g ≠ k := fun e => hne (by rw [e]; rfl)
      simp [Sort.putRow, Sort.mapBlock, Sort.ahead, Array.getElem?_modify, this]
end Go.Proofs.YtjpokeakemlffaaGreatDoor
