/-
  key.Token.
-/
import Derived.Test.YtcjanieeepcddaaGreatDoorKeyA
import Derived.Test.YtcjanieeepcddaaGreatDoorShaLaw
namespace Go.Proofs.YtcjanieeepcddaaGreatDoor
open Go.RowKit

/-- A key's token. -/
def tokN (x : Int) : Int := beN ((digB (beB x 8)).take 4)
theorem digB_byte' (l : List Int) : ∀ z ∈ digB l, 0 ≤ z ∧ z ≤ 255 := fun z hz => by
  obtain ⟨x, _, hx⟩ := List.mem_flatMap.1 hz
  exact beB_byte _ _ z hx
theorem tok_bd (x : Int) : 0 ≤ tokN x ∧ tokN x < 4294967296 := by
  have h := beN_bd ((digB (beB x 8)).take 4) (fun z hz => digB_byte' _ z (List.mem_of_mem_take hz))
  rw [List.length_take, digB_length] at h
  exact h
theorem tok_wrap (x : Int) : IntKind.u32.wrap (tokN x) = tokN x := by rw [IntKind.wrap_u32]; have := tok_bd x; omega
def rd' (l : List Int) : List Int := bytesW (rdigN ((pad l).length / 64) (pad l) beginsR)
theorem tok_zero : tokN 0 = 2941612277 := by
  rw [tokN, digB_eq _ (beB_byte 0 8)]
  decide +kernel

set_option maxHeartbeats 1000000 in
theorem token_any (x : Int) (w : World) (h0 : 0 ≤ x) (h1 : x < 18446744073709551616) :
    Calls Tryz.prog 72 #[.int .u64 x] w fun e w' => e = .returned (.int .u32 (tokN x)) ∧ Below w.heap.size w w' := by
  have H0 := Keep.mk h0
  have H1 := Keep.mk h1
  clear h0 h1
  go_enter Tryz.func72, Tryz.ntmps72
  go_wp2_with fail
  have a1 := Arg.new' w _ rfl 22 (0, 0) 1 encU encU_length [x] 1 rfl (by decide)
  refine (wide_any 8 _ 1 1 [x] _ a1 (fun z hz => by simp only [List.mem_singleton] at hz; subst hz; exact ⟨H0.out, H1.out⟩) (by omega) (by omega) (by omega)).mono ?_
  rintro e w1 ⟨A1, c1, rfl, ha1, hb1⟩
  have hw : wideB 8 [x] = beB x 8 := by simp [wideB]
  rw [hw] at ha1
  have HA1 := Keep.mk ha1
  have HB1 := Lib.hid (((Below.refl _ w).alloc (Nat.le_refl _) _).trans (hb1.mono (by simp)))
  clear a1 ha1 hb1 hw
  go_wp2_with fail
  refine (of_new w1 _ 1 [⟨A1, 8 * 1, c1, beB x 8⟩] (beB x 8) rfl rfl (PcsOk.one HA1.out) (by simp [glue]) (by omega) (by rw [beB_length]; omega) (beB_byte x 8)).mono ?_
  rintro e w2 ⟨rfl, hb2⟩
  have HB2 := Lib.hid (HB1.out.trans (hb2.mono HB1.out.size))
  clear hb2
  go_wp2_with fail
  refine (head_any (digB (beB x 8)) 4 _ (digB_length _) (digB_byte' _) (by omega) (by omega)).mono ?_
  rintro e w3 ⟨rfl, hb3⟩
  have hb := HB2.out.trans (hb3.mono HB2.out.size)
  have HB3 := Lib.hid hb
  rw [show beN ((digB (beB x 8)).take 4) = tokN x from rfl]
  have htw := tok_wrap x
  clear hb hb3
  go_wp2_with fail
  go_ret
  exact ⟨rfl, HB3.out⟩
end Go.Proofs.YtcjanieeepcddaaGreatDoor
