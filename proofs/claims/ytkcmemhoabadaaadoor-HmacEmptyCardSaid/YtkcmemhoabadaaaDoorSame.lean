/-
  The contract of the reference's Same; a new block is a slice that reads.
-/
import Derived.Test.YtkcmemhoabadaaaDoorProg
import Derived.Test.YtkcmemhoabadaaaDoorBase
import Derived.WalkKit
import Derived.Laws.Rows
import Derived.LoopTactic
import Derived.BigQuiet
import Derived.Deep.QuietTactic
namespace Go.Proofs.YtkcmemhoabadaaaDoor
open Go.RowKit

theorem refSame_any (A C : Option Addr) (l m : List Int) (ca cc : Nat) (w : World) (hl : Rd w w.heap.size 1 encB A l) (hm : Rd w w.heap.size 1 encB C m) (h1 : l.length ≤ 140737488351232) (h2 : m.length ≤ 140737488351232) :
    Calls Tryd.prog 15 #[.slice A l.length ca, .slice C m.length cc] w fun r w' => r = .returned (.bool (decide (l = m))) ∧ ∃ n, w' = w.drewN n := by
  by_cases hn : l.length = m.length
  · have hnH := Lib.hid hn
    have hle : l.length ≤ m.length := by omega
    have hge : m.length ≤ l.length := by omega
    have hB : (((l.length : Nat) : Int) != ((m.length : Nat) : Int)) = false := by simp [hn]
    clear hn
    go_enter Tryd.func15, Tryd.ntmps15
    go_wp2
    go_loopw [5] (fun i wr => ∃ k n : Nat, k ≤ l.length ∧ i = .int .i64 k ∧ wr = w.drewN n ∧ ∀ (j : Nat) (hj : j < k) (h : j < l.length) (h' : j < m.length), l[j] = m[j]) (fun i _ => l.length - (intOf i).toNat)
    case atStart => exact ⟨0, 0, by omega, rfl, rfl, fun j h => absurd h (by omega)⟩
    case round =>
      obtain ⟨k, n, hk, rfl, rfl, hall⟩ := hrel
      have hallH := Lib.hid hall
      clear hall
      by_cases hlt : k < l.length
      · obtain ⟨b, off, rfl, _, hc⟩ := hl.byte (List.ne_nil_of_length_pos (by omega))
        obtain ⟨b', off', rfl, _, hc'⟩ := hm.byte (List.ne_nil_of_length_pos (by omega))
        have c1 := hc k hlt
        have c2 := hc' k (by omega)
        clear hc hc'
        by_cases he : l[k] = m[k]'(by omega)
        · have heH := Lib.hid he
          have heB : (l[k] != m[k]'(by omega)) = false := by simp [he]
          clear he
          go_wp2
          go_quiet (fail)
          go_wp2
          go_roundw
          case rel =>
            refine ⟨k + 1, _, by omega, by go_num, rfl, fun j hj h h' => ?_⟩
            by_cases e : j = k
            · subst e; exact heH.out
            · exact hallH.out j (by omega) h h'
          case measure => simp [intOf]; omega
        · have heH := Lib.hid he
          have heB : (l[k] != m[k]'(by omega)) = true := by simp [he]
          clear he
          go_wp2
          go_quiet (fail)
          go_wp2
          go_ret
          refine ⟨ret_bool ?_, n + _, by rw [World.drewN_drewN]⟩
          symm; rw [decide_eq_false_iff_not]
          intro e; subst e; exact heH.out rfl
      · go_wp2
        go_ret
        refine ⟨ret_bool ?_, _, rfl⟩
        symm; rw [decide_eq_true_iff]
        exact List.ext_getElem hnH.out fun j h h' => hallH.out j (by omega) h h'
  · have hB : (((l.length : Nat) : Int) != ((m.length : Nat) : Int)) = true := by simp; omega
    have hnH := Lib.hid hn
    clear hn
    go_enter Tryd.func15, Tryd.ntmps15
    go_wp2
    go_ret
    refine ⟨ret_bool ?_, 0, rfl⟩
    symm; rw [decide_eq_false_iff_not]
    intro e; exact hnH.out (by rw [e])

theorem same_any (A C : Option Addr) (l m : List Int) (n k ca cc : Nat) (w : World) (hl : Arg w 1 encB A n ca l) (hm : Arg w 1 encB C k cc m) (h1 : n ≤ 1000000) (h2 : k ≤ 1000000) :
    Calls Tryd.prog 15 #[.slice A n ca, .slice C k cc] w fun r w' => r = .returned (.bool (decide (l = m))) ∧ ∃ n, w' = w.drewN n := by
  obtain rfl := hl.hlen
  obtain rfl := hm.hlen
  exact refSame_any A C l m ca cc w hl.rd hm.rd (by omega) (by omega)
/-- A block known whole is a slice that reads. -/
theorem Arg.ofRow {α : Type} {w : World} {g : Nat} {t : TypeId} {fr : Nat × Nat} {sz : Nat} {enc : α → List Value} (henc : ∀ x, (enc x).length = sz) {l : List α} (h : w.heap[g]? = some (.cells (l.flatMap enc).toArray t fr)) (n : Nat) (hn : l.length = n) (hm : n ≤ maxLen) :
    Arg w sz enc (some ⟨g, 0, none⟩) n n l := by
  subst hn
  exact ⟨rfl, Nat.le_refl _, hm, (fun e => by cases e), fun hl => ⟨g, 0, rfl, lt_of_block h, fun i x hx j v hv => by
    rw [Nat.zero_add, cell_of_row w g _ _ t fr h]
    simpa using flat_at henc l i x hx j v hv⟩⟩
theorem Arg.new' {α : Type} (w : World) (g : Nat) (hg : w.heap.size = g) (t : TypeId) (fr : Nat × Nat) (sz : Nat) (enc : α → List Value) (henc : ∀ x, (enc x).length = sz) (l : List α) (n : Nat) (hn : l.length = n) (hm : n ≤ maxLen) :
    Arg (w.alloc (.cells (l.flatMap enc).toArray t fr)) sz enc (some ⟨g, 0, none⟩) n n l := by
  subst hg
  exact Arg.ofRow henc (heap_alloc_new w _) n hn hm
theorem flat_encB' : ∀ l : List Int, l.flatMap encB = l.map (Value.int .u8)
  | [] => rfl
  | x :: r => by rw [List.flatMap_cons, flat_encB' r]; rfl
/-- A block of bytes known whole. -/
theorem Arg.row {w : World} {g : Nat} {t : TypeId} {fr : Nat × Nat} {l : List Int} (h : w.heap[g]? = some (.cells (l.map (Value.int .u8)).toArray t fr)) (n : Nat) (hn : l.length = n) (hm : n ≤ maxLen) : Arg w 1 encB (some ⟨g, 0, none⟩) n n l :=
  Arg.ofRow encB_length (by rw [flat_encB']; exact h) n hn hm
end Go.Proofs.YtkcmemhoabadaaaDoor
