/-
  Walks and laws, one behind the other (part 10).
-/
import Derived.Maps.OwnSet
import Derived.OneCell
import Derived.Test.YtjpokeakemlffaaGreatDoorProg
import Derived.Test.YtjpokeakemlffaaGreatDoorS2
import Derived.Test.YtjpokeakemlffaaGreatDoorS9
set_option linter.unusedSimpArgs false
set_option linter.unusedVariables false
/-
  The wheel in memory: one block of 51 cells (the lists of the three rings, what is beyond, the tick, the map), each list a row of its own, no two of them one. No function's text in sight.
-/
namespace Go.Proofs.YtjpokeakemlffaaGreatDoor
open Go.RowKit
def Apt (a b : Value) : Prop := (a.ownBlock = none ∧ b.ownBlock = none) ∨ a.ownBlock ≠ b.ownBlock
theorem Apt.sym {a b : Value} (h : Apt a b) : Apt b a := h.elim (fun ⟨x, y⟩ => .inl ⟨y, x⟩) (fun x => .inr (Ne.symm x))
theorem Apt.free {a b : Value} (h : Apt a b) : b.ownBlock = none ∨ b.ownBlock ≠ a.ownBlock := h.elim (fun ⟨_, y⟩ => .inl y) (fun x => .inr (Ne.symm x))
theorem Apt.nil (a : Value) : Apt a (.slice none 0 0) := by
  unfold Apt
  cases h : a.ownBlock with
  | none => exact .inl ⟨rfl, rfl⟩
  | some k => exact .inr (by simp [Value.ownBlock])
theorem Apt.grow {a b a' : Value} {w : World} {base n : Nat} {e : TypeId} {xs : List Value} {sz : Nat} (h : Apt a b) (hb : w.ownsRow base e sz b n xs) (ha : a'.ownBlock = a.ownBlock ∨ a'.ownBlock = some w.heap.size) : Apt a' b := by
  rcases ha with ha | ha
  · rcases h with ⟨x, y⟩ | x
    · exact .inl ⟨ha.trans x, y⟩
    · exact .inr (by rw [ha]; exact x)
  · refine .inr fun e => ?_
    have := (hb.lt _ (e.symm.trans ha)).2
    omega
def dueC (d : Due) : List Value := [.int .i64 d.1, .int .i64 d.2]
theorem dueC_length (d : Due) : (dueC d).length = 2 := rfl
def put {α : Type} (f : Nat → α) (i : Nat) (v : α) : Nat → α := fun j => if j = i then v else f j
theorem put_same {α : Type} (f : Nat → α) (i : Nat) (v : α) : put f i v i = v := if_pos rfl
theorem put_other {α : Type} (f : Nat → α) {i j : Nat} (v : α) (h : j ≠ i) : put f i v j = f j := if_neg h
def whArr (S : Nat → Value) (now : Int) (m : Nat) : Array Value := ((List.range 49).map S ++ [Value.int .i64 now, Value.map (some m)]).toArray
theorem whArr_at (S : Nat → Value) (now : Int) (m i : Nat) (h : i < 49) : (whArr S now m)[i]? = some (S i) := by
  simp [whArr, List.getElem?_append_left, h]
theorem whArr_now (S : Nat → Value) (now : Int) (m : Nat) : (whArr S now m)[49]? = some (.int .i64 now) := by
  simp [whArr]
theorem whArr_map (S : Nat → Value) (now : Int) (m : Nat) : (whArr S now m)[50]? = some (.map (some m)) := by
  simp [whArr]
theorem whArr_size (S : Nat → Value) (now : Int) (m : Nat) : (whArr S now m).size = 51 := by simp [whArr]
theorem whArr_set (S : Nat → Value) (now : Int) (m i : Nat) (v : Value) (h : i < 49) : (whArr S now m).setIfInBounds i v = whArr (put S i v) now m := by
  apply Array.ext
  · simp [whArr]
  · intro j h1 h2
    rw [whArr_size] at h2
    have hg : ∀ (S : Nat → Value), (whArr S now m)[j]? = some (if j < 49 then S j else if j = 49 then .int .i64 now else .map (some m)) := by
      intro S
      by_cases hj : j < 49
      · rw [if_pos hj, whArr_at S now m j hj]
      · rw [if_neg hj]
        by_cases hk : j = 49
        · subst hk; rw [if_pos rfl, whArr_now]
        · have : j = 50 := by omega
          subst this; rw [if_neg hk, whArr_map]
    have e1 := hg S
    have e2 := hg (put S i v)
    rw [Array.getElem?_eq_getElem (by rw [whArr_size]; exact h2)] at e1 e2
    injection e1 with e1
    injection e2 with e2
    rw [e2, Array.getElem_setIfInBounds]
    · by_cases hij : i = j
      · subst hij; rw [if_pos rfl, if_pos h, put_same]
      · rw [if_neg hij, e1, put_other S v (Ne.symm hij)]
    · rw [whArr_size]; exact h2
structure WSt (w : World) (base b m : Nat) (S : Nat → Value) (N : Nat → List Due) (now : Int) : Prop where
  hb : base ≤ b
  hm : base ≤ m
  ne : m ≠ b
  blk : w.heap[b]? = some (.cells (whArr S now m) 261 (0, 0))
  mp : m < w.heap.size
  rows : ∀ i, i < 49 → w.ownsRow base 195 2 (S i) (N i).length ((N i).flatMap dueC)
  apart : ∀ i j, i < 49 → j < 49 → i ≠ j → Apt (S i) (S j)
  off : ∀ i, i < 49 → (S i).ownBlock ≠ some b ∧ (S i).ownBlock ≠ some m
section
variable {w w' : World} {base b m : Nat} {S : Nat → Value} {N : Nat → List Due} {now : Int}
theorem WSt.cell (h : WSt w base b m S N now) (i : Nat) (hi : i < 49) : w.cell? ⟨b, i, none⟩ = some (S i) := by
  rw [cell_of_row w b i _ _ (0, 0) h.blk]; exact whArr_at S now m i hi
theorem WSt.tickC (h : WSt w base b m S N now) : w.cell? ⟨b, 49, none⟩ = some (.int .i64 now) := by
  rw [cell_of_row w b 49 _ _ (0, 0) h.blk]; exact whArr_now S now m
theorem WSt.mapC (h : WSt w base b m S N now) : w.cell? ⟨b, 50, none⟩ = some (.map (some m)) := by
  rw [cell_of_row w b 50 _ _ (0, 0) h.blk]; exact whArr_map S now m
theorem WSt.free (h : WSt w base b m S N now) (i : Nat) : w.frozen? ⟨b, i, none⟩ = false := by simp [World.frozen?, h.blk]
theorem WSt.blt (h : WSt w base b m S N now) : b < w.heap.size := lt_of_block h.blk
theorem WSt.kept {row : Option Nat} (h : WSt w base b m S N now) (hg : w.grownBy w' row) (h1 : some b ≠ row) (h3 : ∀ i, i < 49 → (S i).ownBlock = none ∨ (S i).ownBlock ≠ row) : WSt w' base b m S N now where
  hb := h.hb
  hm := h.hm
  ne := h.ne
  blk := (hg.block b h.blt h1).trans h.blk
  mp := Nat.lt_of_lt_of_le h.mp hg.size
  rows := fun i hi => (h.rows i hi).kept hg (h3 i hi)
  apart := h.apart
  off := h.off
theorem WSt.alloc (h : WSt w base b m S N now) (o : Obj) : WSt (w.alloc o) base b m S N now :=
  h.kept (World.grownBy_alloc w o none) (by simp) (fun i _ => by cases hv : (S i).ownBlock <;> simp)
theorem WSt.below (h : WSt w base b m S N now) (hB : Below w.heap.size w w') : WSt w' base b m S N now :=
  h.kept (grown_of_below hB none) (by simp) (fun i _ => by cases hv : (S i).ownBlock <;> simp)
theorem WSt.drew (h : WSt w base b m S N now) (k : Nat) : WSt (w.drewN k) base b m S N now :=
  ⟨h.hb, h.hm, h.ne, h.blk, h.mp, h.rows, h.apart, h.off⟩
theorem cells_set {w : World} {g : Nat} {t : TypeId} {arr : Array Value} (h : w.heap[g]? = some (.cells arr t (0, 0))) (i : Nat) (v : Value) :
    (w.setCell ⟨g, i, none⟩ v).heap[g]? = some (.cells (arr.setIfInBounds i v) t (0, 0)) := by
  have hlt := lt_of_block h
  have h' : w.heap[g] = .cells arr t (0, 0) := by simpa [Array.getElem?_eq_getElem hlt] using h
  show (w.heap.modify g _)[g]? = _
  rw [Array.getElem?_eq_getElem (by simpa using hlt), Array.getElem_modify_self, h']
  rfl
theorem WSt.appended (h : WSt w base b m S N now) {i : Nat} (hi : i < 49) {v' : Value} {l' : List Due} (hown : w'.ownsRow base 195 2 v' l'.length (l'.flatMap dueC))
    (hg : w.grownBy w' (S i).ownBlock) (hbl : v'.ownBlock = none ∨ v'.ownBlock = (S i).ownBlock ∨ v'.ownBlock = some w.heap.size) :
    WSt (w'.setCell ⟨b, i, none⟩ v') base b m (put S i v') (put N i l') now := by
  have hoff : v'.ownBlock ≠ some b ∧ v'.ownBlock ≠ some m := by
    rcases hbl with e | e | e
    · rw [e]; simp
    · rw [e]; exact h.off i hi
    · rw [e]
      have := h.blt
      have := h.mp
      simp; omega
  have hap : ∀ j, j < 49 → j ≠ i → Apt v' (S j) := fun j hj hne => by
    rcases hbl with e | e
    · cases hS : (S j).ownBlock with
      | none => exact .inl ⟨e, hS⟩
      | some k => exact .inr (by rw [e, hS]; simp)
    · exact (h.apart i j hi hj (Ne.symm hne)).grow (h.rows j hj) e
  have hblk : w'.heap[b]? = some (.cells (whArr S now m) 261 (0, 0)) := (hg.block b h.blt (fun e => (h.off i hi).1 e.symm)).trans h.blk
  refine ⟨h.hb, h.hm, h.ne, ?_, ?_, fun j hj => ?_, fun j k hj hk hne => ?_, fun j hj => ?_⟩
  · rw [cells_set hblk, whArr_set S now m i v' hi]
  · simpa using Nat.lt_of_lt_of_le h.mp hg.size
  · by_cases e : j = i
    · subst e; rw [put_same, put_same]; exact ownsRow_setCell_other hown hoff.1 v'
    · rw [put_other S v' e, put_other N l' e]
      exact ownsRow_setCell_other ((h.rows j hj).kept hg (h.apart i j hi hj (Ne.symm e)).free) (h.off j hj).1 v'
  · by_cases e : j = i
    · subst e; rw [put_same, put_other S v' (Ne.symm hne)]; exact hap k hk (Ne.symm hne)
    · rw [put_other S v' e]
      by_cases e2 : k = i
      · subst e2; rw [put_same]; exact (hap j hj e).sym
      · rw [put_other S v' e2]; exact h.apart j k hj hk hne
  · by_cases e : j = i
    · subst e; rw [put_same]; exact hoff
    · rw [put_other S v' e]; exact h.off j hj
theorem WSt.taken (h : WSt w base b m S N now) {i : Nat} (hi : i < 49) : WSt (w.setCell ⟨b, i, none⟩ (.slice none 0 0)) base b m (put S i (.slice none 0 0)) (put N i []) now :=
  h.appended hi (World.ownsRow_nil _ _ _ _) (by exact ⟨rfl, rfl, rfl, Nat.le_refl _, fun _ _ _ => rfl⟩) (.inl rfl)
end
end Go.Proofs.YtjpokeakemlffaaGreatDoor
