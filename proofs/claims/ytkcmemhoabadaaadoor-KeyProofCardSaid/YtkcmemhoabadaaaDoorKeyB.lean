/-
  Layer 5: key.Token; the reference's Bytes and Number.
-/
import Derived.Test.YtkcmemhoabadaaaDoorKeyA
import Derived.Test.YtkcmemhoabadaaaDoorRefE
namespace Go.Proofs.YtkcmemhoabadaaaDoor
open Go.RowKit

/-- A key's token. -/
def tokN (x : Int) : Int := beN ((digB (beB x 8)).take 4)
theorem digB_byte' (l : List Int) : ∀ z ∈ digB l, 0 ≤ z ∧ z ≤ 255 := fun z hz => by
  obtain ⟨x, _, hx⟩ := List.mem_flatMap.1 hz
  exact beB_byte _ _ z hx
theorem tok_bd (x : Int) : 0 ≤ tokN x ∧ tokN x < 4294967296 := by
  have h := beN_bd ((digB (beB x 8)).take 4) (fun z hz => digB_byte' _ z (List.mem_of_mem_take hz))
  rw [List.length_take, digB_length] at h
  exact h
theorem tok_wrap (x : Int) : IntKind.u32.wrap (tokN x) = tokN x := by rw [IntKind.wrap_u32]; have := tok_bd x; omega
def rd' (l : List Int) : List Int := bytesW (rdigN ((pad l).length / 64) (pad l) beginsR)
theorem tok_zero : tokN 0 = 2941612277 := by
  rw [tokN, digB_eq _ (beB_byte 0 8)]
  decide +kernel

set_option maxHeartbeats 1000000 in
theorem token_any (x : Int) (w : World) (h0 : 0 ≤ x) (h1 : x < 18446744073709551616) :
    Calls Tryd.prog 18 #[.int .u64 x] w fun e w' => e = .returned (.int .u32 (tokN x)) ∧ Below w.heap.size w w' := by
  have H0 := Keep.mk h0
  have H1 := Keep.mk h1
  clear h0 h1
  go_enter Tryd.func18, Tryd.ntmps18
  go_wp2_with fail
  have a1 := Arg.new' w _ rfl 32 (0, 0) 1 encU encU_length [x] 1 rfl (by decide)
  refine (wide_any 8 _ 1 1 [x] _ a1 (fun z hz => by simp only [List.mem_singleton] at hz; subst hz; exact ⟨H0.out, H1.out⟩) (by omega) (by omega) (by omega)).mono ?_
  rintro e w1 ⟨A1, c1, rfl, ha1, hb1⟩
  have hw : wideB 8 [x] = beB x 8 := by simp [wideB]
  rw [hw] at ha1
  have HA1 := Keep.mk ha1
  have HB1 := Lib.hid (((Below.refl _ w).alloc (Nat.le_refl _) _).trans (hb1.mono (by simp)))
  clear a1 ha1 hb1 hw
  go_wp2_with fail
  refine (of_new w1 _ 1 [⟨A1, 8 * 1, c1, beB x 8⟩] (beB x 8) rfl rfl (PcsOk.one HA1.out) (by simp [glue]) (by omega) (by rw [beB_length]; omega) (beB_byte x 8)).mono ?_
  rintro e w2 ⟨rfl, hb2⟩
  have HB2 := Lib.hid (HB1.out.trans (hb2.mono HB1.out.size))
  clear hb2
  go_wp2_with fail
  refine (head_any (digB (beB x 8)) 4 _ (digB_length _) (digB_byte' _) (by omega) (by omega)).mono ?_
  rintro e w3 ⟨rfl, hb3⟩
  have hb := HB2.out.trans (hb3.mono HB2.out.size)
  have HB3 := Lib.hid hb
  rw [show beN ((digB (beB x 8)).take 4) = tokN x from rfl]
  have htw := tok_wrap x
  clear hb hb3
  go_wp2_with fail
  go_ret
  exact ⟨rfl, HB3.out⟩
theorem wakes05_any (w : World) : Calls Tryd.prog 17 #[] w fun e w' => e = .returned (.bool true) ∧ Below w.heap.size w w' := by
  have hz : ((2941612277 : Int) == 2941612277) = true := by decide
  go_enter Tryd.func17, Tryd.ntmps17
  go_wp2_with fail
  refine (token_any 0 w (by omega) (by omega)).mono ?_
  rintro e w1 ⟨rfl, hb1⟩
  rw [tok_zero]
  go_wp2_with fail
  go_ret
  exact ⟨rfl, hb1⟩

/-- The reference's Number. -/
theorem number_any (A : Option Addr) (n c : Nat) (l : List Int) (w : World) (ha : Arg w 1 encB A n c l) (hall : ∀ z ∈ l, 0 ≤ z ∧ z ≤ 255) (hn : n ≤ 8) :
    Calls Tryd.prog 34 #[.slice A n c] w fun e w' => e = .returned (.int .u64 (beN l)) ∧ w = w' := by
  have haH := Lib.hid ha
  have hlen := Keep.mk ha.hlen
  have hallH := Lib.hid hall
  clear ha hall
  go_enter Tryd.func34, Tryd.ntmps34
  go_wp2
  go_loop [3, 4] (fun x i => ∃ j : Nat, j ≤ n ∧ i = .int .i64 j ∧ x = .int .u64 (beN (l.take j))) (fun _ i => n - (intOf i).toNat)
  case atStart => exact ⟨0, by omega, rfl, rfl⟩
  case round =>
    obtain ⟨j, hj, rfl, rfl⟩ := hrel
    by_cases hlt : j < n
    · obtain ⟨b, off, rfl, hbl, hc⟩ := haH.out.rd.byte (List.ne_nil_of_length_pos (by rw [hlen.out]; omega))
      have c0 := hc j (by rw [hlen.out]; exact hlt)
      have hzb := hallH.out (l[j]'(by rw [hlen.out]; exact hlt)) (List.getElem_mem _)
      obtain ⟨z, hz⟩ : ∃ z, l[j]'(by rw [hlen.out]; exact hlt) = z := ⟨_, rfl⟩
      have hsn : beN (l.take (j + 1)) = beN (l.take j) * 256 + z := by
        rw [List.take_succ_eq_append_getElem (by rw [hlen.out]; exact hlt), beN_snoc, hz]
      have hbd := beN_bd (l.take j) (fun y hy => hallH.out y (List.mem_of_mem_take hy))
      have hp : (256 : Int) ^ (l.take j).length ≤ 72057594037927936 := pow7 (by rw [List.length_take]; omega)
      rw [hz] at c0 hzb
      have HSN := Keep.mk hsn
      have hx0 := hbd.1
      have hx1 : beN (l.take j) < 72057594037927936 := by have := hbd.2; omega
      obtain ⟨z0, z1⟩ := hzb
      clear hc hz hsn hbd hp
      generalize beN (l.take j) = x at *
      go_wp2
      go_round
      case rel => exact ⟨j + 1, by omega, by go_num, by rw [HSN.out, Int.mul_comm]⟩
      case measure => simp [intOf] <;> omega
    · have hge : n ≤ j := by omega
      have hfin : l.take j = l := List.take_of_length_le (by rw [hlen.out]; exact hge)
      have HF := Keep.mk hfin
      clear hfin
      go_wp2
      go_ret
      exact ⟨by rw [HF.out]; rfl, rfl⟩
end Go.Proofs.YtkcmemhoabadaaaDoor
