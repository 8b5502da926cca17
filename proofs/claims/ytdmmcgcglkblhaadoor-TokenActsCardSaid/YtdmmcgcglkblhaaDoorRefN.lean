/-
  The reference's Number.
-/
import Derived.Test.YtdmmcgcglkblhaaDoorKeyT
import Derived.Test.YtdmmcgcglkblhaaDoorRefE
namespace Go.Proofs.YtdmmcgcglkblhaaDoor
open Go.RowKit

/-- The reference's Number. -/
theorem number_any (A : Option Addr) (n c : Nat) (l : List Int) (w : World) (ha : Arg w 1 encB A n c l) (hall : ∀ z ∈ l, 0 ≤ z ∧ z ≤ 255) (hn : n ≤ 8) :
    Calls Tryd.prog 41 #[.slice A n c] w fun e w' => e = .returned (.int .u64 (beN l)) ∧ w = w' := by
  have haH := Lib.hid ha
  have hlen := Keep.mk ha.hlen
  have hallH := Lib.hid hall
  clear ha hall
  go_enter Tryd.func41, Tryd.ntmps41
  go_wp2
  go_loop [3, 4] (fun x i => ∃ j : Nat, j ≤ n ∧ i = .int .i64 j ∧ x = .int .u64 (beN (l.take j))) (fun _ i => n - (intOf i).toNat)
  case atStart => exact ⟨0, by omega, rfl, rfl⟩
  case round =>
    obtain ⟨j, hj, rfl, rfl⟩ := hrel
    by_cases hlt : j < n
    · obtain ⟨b, off, rfl, hbl, hc⟩ := haH.out.rd.byte (List.ne_nil_of_length_pos (by rw [hlen.out]; omega))
      have c0 := hc j (by rw [hlen.out]; exact hlt)
      have hzb := hallH.out (l[j]'(by rw [hlen.out]; exact hlt)) (List.getElem_mem _)
      obtain ⟨z, hz⟩ : ∃ z, l[j]'(by rw [hlen.out]; exact hlt) = z := ⟨_, rfl⟩
      have hsn : beN (l.take (j + 1)) = beN (l.take j) * 256 + z := by
        rw [List.take_succ_eq_append_getElem (by rw [hlen.out]; exact hlt), beN_snoc, hz]
      have hbd := beN_bd (l.take j) (fun y hy => hallH.out y (List.mem_of_mem_take hy))
      have hp : (256 : Int) ^ (l.take j).length ≤ 72057594037927936 := pow7 (by rw [List.length_take]; omega)
      rw [hz] at c0 hzb
      have HSN := Keep.mk hsn
      have hx0 := hbd.1
      have hx1 : beN (l.take j) < 72057594037927936 := by have := hbd.2; omega
      obtain ⟨z0, z1⟩ := hzb
      clear hc hz hsn hbd hp
      generalize beN (l.take j) = x at *
      go_wp2
      go_round
      case rel => exact ⟨j + 1, by omega, by go_num, by rw [HSN.out, Int.mul_comm]⟩
      case measure => simp [intOf] <;> omega
    · have hge : n ≤ j := by omega
      have hfin : l.take j = l := List.take_of_length_le (by rw [hlen.out]; exact hge)
      have HF := Keep.mk hfin
      clear hfin
      go_wp2
      go_ret
      exact ⟨by rw [HF.out]; rfl, rfl⟩
end Go.Proofs.YtdmmcgcglkblhaaDoor
