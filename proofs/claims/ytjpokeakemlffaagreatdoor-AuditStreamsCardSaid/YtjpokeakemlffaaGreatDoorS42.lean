/-
  Walks and laws, one behind the other (part 42).
-/
import Derived.BigQuiet
import Derived.Deep.QuietTactic
import Derived.Laws.Rows
import Derived.LoopTactic
import Derived.Test.YtjpokeakemlffaaGreatDoorProg
import Derived.WalkKit
import Derived.Test.YtjpokeakemlffaaGreatDoorS2
import Derived.Test.YtjpokeakemlffaaGreatDoorS7
set_option linter.unusedSimpArgs false
set_option linter.unusedVariables false
/-
  The contract of the reference's Same.
-/
namespace Go.Proofs.YtjpokeakemlffaaGreatDoor
open Go.RowKit
theorem refSame_any (A C : Option Addr) (l m : List Int) (ca cc : Nat) (w : World) (hl : Rd w w.heap.size 1 encB A l) (hm : Rd w w.heap.size 1 encB C m) (h1 : l.length ≤ 140737488351232) (h2 : m.length ≤ 140737488351232) :
    Calls Tryz.prog 21 #[.slice A l.length ca, .slice C m.length cc] w fun r w' => r = .returned (.bool (decide (l = m))) ∧ ∃ n, w' = w.drewN n := by
  by_cases hn : l.length = m.length
  · have hnH := Lib.hid hn
    have hle : l.length ≤ m.length := by omega
    have hge : m.length ≤ l.length := by omega
    have hB : (((l.length : Nat) : Int) != ((m.length : Nat) : Int)) = false := by simp [hn]
    clear hn
    go_enter Tryz.func21, Tryz.ntmps21
    go_wp2
    go_loopw [5] (fun i wr => ∃ k n : Nat, k ≤ l.length ∧ i = .int .i64 k ∧ wr = w.drewN n ∧ ∀ (j : Nat) (hj : j < k) (h : j < l.length) (h' : j < m.length), l[j] = m[j]) (fun i _ => l.length - (intOf i).toNat)
    case atStart => exact ⟨0, 0, by omega, rfl, rfl, fun j h => absurd h (by omega)⟩
    case round =>
      obtain ⟨k, n, hk, rfl, rfl, hall⟩ := hrel
      have hallH := Lib.hid hall
      clear hall
      by_cases hlt : k < l.length
      · obtain ⟨b, off, rfl, _, hc⟩ := hl.byte (List.ne_nil_of_length_pos (by omega))
        obtain ⟨b', off', rfl, _, hc'⟩ := hm.byte (List.ne_nil_of_length_pos (by omega))
        have c1 := hc k hlt
        have c2 := hc' k (by omega)
        clear hc hc'
        by_cases he : l[k] = m[k]'(by omega)
        · have heH := Lib.hid he
          have heB : (l[k] != m[k]'(by omega)) = false := by simp [he]
          clear he
          go_wp2
          go_quiet (fail)
          go_wp2
          go_roundw
          case rel =>
            refine ⟨k + 1, _, by omega, by go_num, rfl, fun j hj h h' => ?_⟩
            by_cases e : j = k
            · subst e; exact heH.out
            · exact hallH.out j (by omega) h h'
          case measure => simp [intOf]; omega
        · have heH := Lib.hid he
          have heB : (l[k] != m[k]'(by omega)) = true := by simp [he]
          clear he
          go_wp2
          go_quiet (fail)
          go_wp2
          go_ret
          refine ⟨ret_bool ?_, n + _, by rw [World.drewN_drewN]⟩
          symm; rw [decide_eq_false_iff_not]
          intro e; subst e; exact heH.out rfl
      · go_wp2
        go_ret
        refine ⟨ret_bool ?_, _, rfl⟩
        symm; rw [decide_eq_true_iff]
        exact List.ext_getElem hnH.out fun j h h' => hallH.out j (by omega) h h'
  · have hB : (((l.length : Nat) : Int) != ((m.length : Nat) : Int)) = true := by simp; omega
    have hnH := Lib.hid hn
    clear hn
    go_enter Tryz.func21, Tryz.ntmps21
    go_wp2
    go_ret
    refine ⟨ret_bool ?_, 0, rfl⟩
    symm; rw [decide_eq_false_iff_not]
    intro e; exact hnH.out (by rw [e])
end Go.Proofs.YtjpokeakemlffaaGreatDoor
