/-
  The reference of layer 3, its small functions: rotr, Words; rows of words.
-/
import Derived.Test.YtdmmcgcglkblhaaDoorShaLaw
import Derived.WalkKit
import Derived.Laws.Rows
import Derived.LoopTactic
import Derived.BigQuiet
import Derived.Deep.QuietTactic
import Derived.Test.YtdmmcgcglkblhaaDoorRowN
namespace Go.Proofs.YtdmmcgcglkblhaaDoor
open Go.RowKit

/-- The cell of a word. -/
def encW (x : W32) : List Value := [w32 x]
theorem encW_length (x : W32) : (encW x).length = 1 := rfl
theorem encWOne (x : W32) : ∀ u ∈ encW x, u.oneCell' = true := by simp [encW, Value.oneCell']
theorem flat_encW : ∀ l : List W32, l.flatMap encW = l.map w32
  | [] => rfl
  | x :: r => by rw [List.flatMap_cons, flat_encW r]; rfl
theorem Rd.word {w : World} {B : Nat} {A : Option Addr} {l : List W32} (h : Rd w B 1 encW A l) (hl : l ≠ []) : ∃ b off, A = some ⟨b, off, none⟩ ∧ b < B ∧ ∀ k (hk : k < l.length), w.cell? ⟨b, off + k, none⟩ = some (w32 l[k]) := by
  obtain ⟨b, off, e, hb, hc⟩ := h hl
  refine ⟨b, off, e, hb, fun k hk => ?_⟩
  have := hc k _ (List.getElem?_eq_getElem hk) 0 (w32 l[k]) rfl
  simpa using this
/-- Block g begins with the words V, and may be written. -/
def RowW (w : World) (t : TypeId) (g : Nat) (V : List W32) : Prop := ∃ cur : Array Value, w.heap[g]? = some (.cells cur t (0, 0)) ∧ ∀ (i : Nat) (x : W32), V[i]? = some x → cur[i]? = some (w32 x)
theorem RowW.cell {w : World} {t : TypeId} {g : Nat} {V : List W32} (h : RowW w t g V) (i : Nat) (hi : i < V.length) : w.cell? ⟨g, i, none⟩ = some (w32 V[i]) := by
  obtain ⟨cur, hg, hc⟩ := h
  rw [cell_of_row w g i _ t (0, 0) hg, hc i _ (List.getElem?_eq_getElem hi)]
theorem RowW.free {w : World} {t : TypeId} {g : Nat} {V : List W32} (h : RowW w t g V) (i : Nat) : w.frozen? ⟨g, i, none⟩ = false := by
  obtain ⟨cur, hg, _⟩ := h
  simp [World.frozen?, hg]
theorem RowW.lt {w : World} {t : TypeId} {g : Nat} {V : List W32} (h : RowW w t g V) : g < w.heap.size := by
  obtain ⟨cur, hg, _⟩ := h
  exact lt_of_block hg
theorem RowW.set {w : World} {t : TypeId} {g : Nat} {V : List W32} (h : RowW w t g V) (i : Nat) (x : W32) : RowW (w.setCell ⟨g, i, none⟩ (w32 x)) t g (V.set i x) := by
  obtain ⟨cur, hg, hc⟩ := h
  refine ⟨_, heap_setCell_same w g i cur t (w32 x) hg, fun j y hy => ?_⟩
  rw [List.getElem?_set] at hy
  rw [Array.getElem?_setIfInBounds]
  split at hy
  · rename_i e
    split at hy
    · rename_i hlt
      subst e
      obtain rfl : x = y := by simpa using hy
      rw [if_pos rfl, if_pos]
      have := hc i _ (List.getElem?_eq_getElem hlt)
      exact (Array.getElem?_eq_some_iff.1 this).1
    · cases hy
  · rename_i e
    rw [if_neg e]
    exact hc j y hy
theorem RowW.keep {w w' : World} {t : TypeId} {g : Nat} {V : List W32} (h : RowW w t g V) (hk : w'.heap[g]? = w.heap[g]?) : RowW w' t g V := by
  obtain ⟨cur, hg, hc⟩ := h
  exact ⟨cur, hk.trans hg, hc⟩
theorem RowW.of_own {w : World} {base n : Nat} {e : TypeId} {v : Value} {V : List W32} (h : w.ownsRow base e 1 v n (V.flatMap encW)) (hn : 0 < n) :
    ∃ g c, v = .slice (some ⟨g, 0, none⟩) n c ∧ base ≤ g ∧ n ≤ c ∧ RowW w e g V := by
  rcases h.2 with ⟨_, h0⟩ | ⟨g, cap, cur, rfl, hb, hh, hnc, hcm, hcs, ht⟩
  · omega
  · refine ⟨g, cap, rfl, hb, hnc, cur, hh, fun i x hx => ?_⟩
    have hf : (V.flatMap encW)[i]? = some (w32 x) := by rw [flat_encW, List.getElem?_map, hx]; rfl
    rw [← ht, List.getElem?_take] at hf
    split at hf
    · simpa using hf
    · cases hf

theorem w_shl24 (x : W32) : wv x * 16777216 % 4294967296 = wv (x <<< 24) := w_shl x 24
theorem w_shl16 (x : W32) : wv x * 65536 % 4294967296 = wv (x <<< 16) := w_shl x 16
theorem w_shl8 (x : W32) : wv x * 256 % 4294967296 = wv (x <<< 8) := w_shl x 8

theorem w_shl24w (x : W32) : IntKind.u32.wrap (wv x * 16777216) = wv (x <<< 24) := by rw [IntKind.wrap_u32]; exact w_shl24 x
theorem w_shl16w (x : W32) : IntKind.u32.wrap (wv x * 65536) = wv (x <<< 16) := by rw [IntKind.wrap_u32]; exact w_shl16 x
theorem w_shl8w (x : W32) : IntKind.u32.wrap (wv x * 256) = wv (x <<< 8) := by rw [IntKind.wrap_u32]; exact w_shl8 x
theorem rotr_any (x : W32) (k : Int) (h0 : 0 < k) (h1 : k < 32) (w : World) :
    Calls Tryd.prog 70 #[w32 x, .int .u32 k] w fun e w' => e = .returned (w32 (rotr x k.toNat)) ∧ w = w' := by
  obtain ⟨s, hs⟩ : ∃ s : Nat, (s : Int) = k := ⟨k.toNat, by omega⟩
  subst hs
  obtain ⟨r, hr⟩ : ∃ r : Nat, (r : Int) = 32 - (s : Int) := ⟨32 - s, by omega⟩
  have hr0 : 0 < r := by omega
  have hr1 : r < 32 := by omega
  have hrs : r = 32 - s := by omega
  have HR := Keep.mk hrs
  have hsub : (32 : Int) - (s : Int) = (r : Int) := hr.symm
  clear hr hrs
  go_enter Tryd.func70, Tryd.ntmps70
  go_wp2
  go_ret
  refine ⟨?_, rfl⟩
  have h := HR.out
  refine congrArg (fun n => Ending.returned (.int .u32 n)) ?_
  rw [rotr, Int.toNat_natCast, ← h, ← w_or, ← w_shl, ← w_shr]
theorem rotr_q (x : W32) (k : Int) (h0 : 0 < k) (h1 : k < 32) (w : World) (n : Nat) :
    Calls Tryd.prog 70 #[w32 x, .int .u32 k] (w.drewN n) fun e w' => e = .returned (w32 (rotr x k.toNat)) ∧ ∃ j, w' = w.drewN j :=
  (rotr_any x k h0 h1 _).mono fun _ _ ⟨he, hm⟩ => ⟨he, n, hm.symm⟩

/-- An append of a new row of words onto a row of the call's own. -/
theorem wpList_append_words {ops : Array Oper} {rest : List Oper} {o : Oper} {a : Act} {Q : Exit → Act → World → Prop} {w : World} (hgd : o.guard = none) (s x : Operand) (t : TypeId)
    (ho : o.op = .call { callee := .builtin .append, args := #[s, x], argTypes := #[t, t] }) (ht : Tryd.prog.underlying t = some (.slice 30))
    (base : Nat) (v : Value) (n : Nat) (xs : List W32) (hs : a.eval s = v) (hown : w.ownsRow base 30 1 v n (xs.flatMap encW))
    (g k : Nat) (ws : List W32) (hx : a.eval x = .slice (some ⟨g, 0, none⟩) k k) (tt : TypeId) (hg : w.heap[g]? = some (.cells (ws.map w32).toArray tt (0, 0))) (hk : ws.length = k)
    (hn : n ≤ 1000000) (hk2 : k ≤ 1000000) (hbase : base ≤ w.heap.size)
    (h : ∀ v' w', w'.ownsRow base 30 1 v' (n + k) ((xs ++ ws).flatMap encW) → w.grownBy w' v.ownBlock → (v'.ownBlock = v.ownBlock ∨ v'.ownBlock = some w.heap.size) → wpList Tryd.prog ops Q rest (a.put o.dst v') w') :
    wpList Tryd.prog ops Q (o :: rest) a w := by
  obtain ⟨i0, hi, hz0, hz1, hz2⟩ := info_parts infoW
  have ha : Arg w 1 encW (some ⟨g, 0, none⟩) k k ws := Arg.ofRow encW_length (t := tt) (fr := (0, 0)) (by rw [flat_encW]; exact hg) k hk (by unfold maxLen; omega)
  refine wpList_append_rd hgd s x t ho base 30 i0 (.int .u32 0) 1 4 ht hi hz0 hz1 hz2 rfl (by decide) v n _ hs hown _ k k _ encW ws hx ha.hnil ha.hlen encW_length ha.rd encWOne (by unfold maxLen; omega) (by omega) hbase ?_
  intro v' w' h1 h2 h3
  exact h v' w' (by rw [List.flatMap_append]; exact h1) h2 h3
/-- The same as a step of a region that draws its order. -/
theorem step_append_words {ops : Array Oper} {o : Oper} {a : Act} {K : Act → World → Prop} {Q : Exit → Act → World → Prop} {E : Prop} {w : World} (hgd : o.guard = none) (s x : Operand) (t : TypeId)
    (ho : o.op = .call { callee := .builtin .append, args := #[s, x], argTypes := #[t, t] }) (ht : Tryd.prog.underlying t = some (.slice 30))
    (base : Nat) (v : Value) (n : Nat) (xs : List W32) (hs : a.eval s = v) (hown : w.ownsRow base 30 1 v n (xs.flatMap encW))
    (g k : Nat) (ws : List W32) (hx : a.eval x = .slice (some ⟨g, 0, none⟩) k k) (tt : TypeId) (hg : w.heap[g]? = some (.cells (ws.map w32).toArray tt (0, 0))) (hk : ws.length = k)
    (hn : n ≤ 1000000) (hk2 : k ≤ 1000000) (hbase : base ≤ w.heap.size)
    (h : ∀ v' w', w'.ownsRow base 30 1 v' (n + k) ((xs ++ ws).flatMap encW) → w.grownBy w' v.ownBlock → (v'.ownBlock = v.ownBlock ∨ v'.ownBlock = some w.heap.size) → K (a.put o.dst v') w') :
    if Region.wanted o (yielded ops a.tmps) = true then Oper.wp Tryd.prog o a w K Q else E := by
  obtain ⟨i0, hi, hz0, hz1, hz2⟩ := info_parts infoW
  have ha : Arg w 1 encW (some ⟨g, 0, none⟩) k k ws := Arg.ofRow encW_length (t := tt) (fr := (0, 0)) (by rw [flat_encW]; exact hg) k hk (by unfold maxLen; omega)
  refine step_append_rd (by simp [Region.wanted, hgd]) s x t ho base 30 i0 (.int .u32 0) 1 4 ht hi hz0 hz1 hz2 rfl (by decide) v n _ hs hown _ k k _ encW ws hx ha.hnil ha.hlen encW_length ha.rd encWOne (by unfold maxLen; omega) (by omega) hbase ?_
  intro v' w' h1 h2 h3
  exact h v' w' (by rw [List.flatMap_append]; exact h1) h2 h3
end Go.Proofs.YtdmmcgcglkblhaaDoor
