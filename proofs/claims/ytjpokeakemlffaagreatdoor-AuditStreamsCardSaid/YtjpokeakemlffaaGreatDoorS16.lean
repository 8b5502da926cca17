/-
  Walks and laws, one behind the other (part 16).
-/
import Derived.BigQuiet
import Derived.Deep.QuietTactic
import Derived.Laws.BitsAllLaws
import Derived.Laws.BitsLemmas
import Derived.LoopTactic
import Derived.Outline
import Derived.Test.YtjpokeakemlffaaGreatDoorProg
import Derived.WalkKit
import Derived.Test.YtjpokeakemlffaaGreatDoorS2
import Derived.Test.YtjpokeakemlffaaGreatDoorS9
set_option linter.unusedSimpArgs false
set_option linter.unusedVariables false
/-
  The contracts of bits.RotateLeft32 and sha.turns.
-/
namespace Go.Proofs.YtjpokeakemlffaaGreatDoor
open Go.RowKit
def wv (x : W32) : Int := (x.toNat : Int)
abbrev w32 (x : W32) : Value := .int .u32 (wv x)
theorem wv_lo (x : W32) : 0 ≤ wv x := by unfold wv; omega
theorem wv_hi (x : W32) : wv x < 4294967296 := by have := x.isLt; unfold wv; omega
theorem w_or (x y : W32) : bits .or .u32 (wv x) (wv y) = wv (x ||| y) := by
  unfold wv; rw [u32_or_nat _ _ x.isLt y.isLt, BitVec.toNat_or]
theorem w_xor (x y : W32) : bits .xor .u32 (wv x) (wv y) = wv (x ^^^ y) := by
  unfold wv; rw [u32_xor_nat _ _ x.isLt y.isLt, BitVec.toNat_xor]
theorem w_and (x y : W32) : bits .and .u32 (wv x) (wv y) = wv (x &&& y) := by
  unfold wv; rw [u32_and_nat _ _ x.isLt y.isLt, BitVec.toNat_and]
theorem w_add (x y : W32) : (wv x + wv y) % 4294967296 = wv (x + y) := by
  unfold wv; rw [BitVec.toNat_add]; omega
theorem w_add3 (x y z : W32) : (wv x + wv y + wv z) % 4294967296 = wv (x + y + z) := by
  unfold wv; rw [BitVec.toNat_add, BitVec.toNat_add]; omega
theorem w_wrap (x y : W32) : IntKind.u32.wrap (wv x + wv y) = wv (x + y) := by
  rw [IntKind.wrap_u32]; exact w_add x y
theorem w_shr (x : W32) (k : Nat) : wv x / 2 ^ k = wv (x >>> k) := by
  unfold wv; rw [BitVec.toNat_ushiftRight, Nat.shiftRight_eq_div_pow]; norm_cast
theorem w_shl (x : W32) (k : Nat) : wv x * 2 ^ k % 4294967296 = wv (x <<< k) := by
  unfold wv
  rw [BitVec.toNat_shiftLeft, Nat.shiftLeft_eq]
  show _ = ((x.toNat * 2 ^ k % 4294967296 : Nat) : Int)
  rw [Int.natCast_emod, Int.natCast_mul, Int.natCast_pow]
  rfl
theorem neg_and31 {k : Int} (h0 : 0 < k) (h1 : k < 32) : bits .and .u64 (IntKind.u64.wrap (-k)) 31 = 32 - k := by
  rw [IntKind.wrap_u64]
  have h : (-k) % 18446744073709551616 = 18446744073709551616 - k := by omega
  rw [h, u64_and _ _ (by omega) (by omega) (by omega) (by omega), show (31 : Int).toNat = 2 ^ 5 - 1 from rfl, Nat.and_two_pow_sub_one_eq_mod]
  omega
theorem rotl_any (x : W32) (k : Int) (h0 : 0 < k) (h1 : k < 32) (w : World) :
    Calls Tryz.prog 355 #[w32 x, .int .i64 (-k)] w fun e w' => e = .returned (w32 (rr x k.toNat)) ∧ w = w' := by
  obtain ⟨s, hs⟩ : ∃ s : Nat, (s : Int) = 32 - k := ⟨(32 - k).toNat, by omega⟩
  have hk : bits .and .u64 (IntKind.u64.wrap (-k)) 31 = (s : Int) := by rw [neg_and31 h0 h1, hs]
  have hs0 : 0 < s := by omega
  have hs1 : s < 32 := by omega
  have HS := Lib.hid hs
  clear hs
  go_enter Tryz.func355, Tryz.ntmps355
  go_wp2
  go_ret
  refine ⟨?_, rfl⟩
  have h := HS.out
  have hk' : k.toNat = 32 - s := by omega
  have e : ((32 - s : Nat)) = 32 - s := rfl
  rw [hk', rr, show 32 - (32 - s) = s by omega]
  refine congrArg (fun n => Ending.returned (.int .u32 n)) ?_
  rw [← w_or, ← w_shl, ← w_shr]
set_option maxHeartbeats 400000 in
theorem turns_any (x : W32) (a b c : Int) (a0 : 0 < a) (a1 : a < 32) (b0 : 0 < b) (b1 : b < 32) (c0 : 0 < c) (c1 : c < 32) (w : World) :
    Calls Tryz.prog 354 #[w32 x, .int .i64 a, .int .i64 b, .int .i64 c] w fun e w' => e = .returned (w32 (trn x a.toNat b.toNat c.toNat)) ∧ w = w' := by
  go_enter Tryz.func354, Tryz.ntmps354
  go_wp2_with (go_at_call 355; refine (rotl_any x _ (by omega) (by omega) _).mono ?_; rintro e w' ⟨rfl, rfl⟩)
  go_ret
  exact ⟨congrArg (fun n => Ending.returned (.int .u32 n)) (by rw [w_xor, w_xor]; rfl), rfl⟩
end Go.Proofs.YtjpokeakemlffaaGreatDoor
