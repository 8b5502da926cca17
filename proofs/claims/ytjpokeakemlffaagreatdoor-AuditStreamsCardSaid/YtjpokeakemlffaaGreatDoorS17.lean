/-
  Walks and laws, one behind the other (part 17).
-/
import Derived.Test.YtjpokeakemlffaaGreatDoorS15
import Derived.Test.YtjpokeakemlffaaGreatDoorS16
set_option linter.unusedSimpArgs false
set_option linter.unusedVariables false
/-
  The contract of sha.word: the i-th word of a row of digits.
-/
namespace Go.Proofs.YtjpokeakemlffaaGreatDoor
open Go.RowKit
def wordOf (l : List Int) (i : Nat) : W32 := BitVec.ofInt 32 (hexN ((l.drop (8 * i)).take 8))
theorem wv_ofInt {n : Int} (h0 : 0 ≤ n) (h1 : n < 4294967296) : wv (BitVec.ofInt 32 n) = n := by
  obtain ⟨m, rfl⟩ := Int.eq_ofNat_of_zero_le h0
  unfold wv
  rw [BitVec.ofInt_natCast, BitVec.toNat_ofNat]
  have : m < 2 ^ 32 := by omega
  rw [Nat.mod_eq_of_lt this]
theorem strB_extract (s : ByteArray) (a b : Nat) : strB (s.extract a b) = ((strB s).drop a).take (b - a) := by
  unfold strB
  rw [← List.map_drop, ← List.map_take]
  congr 1
  simp [ByteArray.data_extract, Array.toList_extract]
set_option maxHeartbeats 1000000 in
theorem word_any (row : ByteArray) (l : List Int) (m i : Nat) (hl : strB row = l) (hm : m ≤ 1000) (hrow : l.length = 8 * m) (hi : i < m) (hx : ∀ c ∈ l, isHex c) (w : World) :
    Calls Tryz.prog 324 #[.string row, .int .i64 i] w fun e w' => e = .returned (w32 (wordOf l i)) ∧ Below w.heap.size w w' := by
  have hsz : row.size = 8 * m := by rw [← hl] at hrow; simpa [strB] using hrow
  have h8 : ((l.drop (8 * i)).take 8).length = 8 := by rw [List.length_take, List.length_drop]; omega
  have hex : ∀ c ∈ (l.drop (8 * i)).take 8, isHex c := fun c hc => hx c (List.mem_of_mem_drop (List.mem_of_mem_take hc))
  have he : strB (row.extract (8 * i) (8 * i + 8)) = (l.drop (8 * i)).take 8 := by rw [strB_extract, hl]; congr 1; omega
  have hbd := hexN_bd _ hex
  rw [h8] at hbd
  have n0 := hbd.1
  have n1 : hexN ((l.drop (8 * i)).take 8) < 4294967296 := hbd.2
  have hwv := wv_ofInt n0 n1
  have HV := Lib.hid hwv
  have HE := Lib.hid he
  have H8 := Lib.hid h8
  have HX := Lib.hid hex
  have hs1 : row.size ≤ 8 * m := by omega
  have hs2 : 8 * m ≤ row.size := by omega
  clear hl hrow hx hbd hwv he h8 hex hsz
  go_enter Tryz.func324, Tryz.ntmps324
  go_wp2_with (go_at_call 353; refine (parse16_any _ ((l.drop (8 * i)).take 8) HE.out H8.out HX.out _).mono ?_; rintro e w1 ⟨rfl, hb1⟩)
  go_ret
  exact ⟨congrArg (fun n => Ending.returned (.int .u32 n)) HV.out.symm, hb1⟩
def roundsL : List Int := [52, 50, 56, 97, 50, 102, 57, 56, 55, 49, 51, 55, 52, 52, 57, 49, 98, 53, 99, 48, 102, 98, 99, 102, 101, 57, 98, 53, 100, 98, 97, 53, 51, 57, 53, 54, 99, 50, 53, 98, 53, 57, 102, 49, 49, 49, 102, 49, 57, 50, 51, 102, 56, 50, 97, 52, 97, 98, 49, 99, 53, 101, 100, 53, 100, 56, 48, 55, 97, 97, 57, 56, 49, 50, 56, 51, 53, 98, 48, 49, 50, 52, 51, 49, 56, 53, 98, 101, 53, 53, 48, 99, 55, 100, 99, 51, 55, 50, 98, 101, 53, 100, 55, 52, 56, 48, 100, 101, 98, 49, 102, 101, 57, 98, 100, 99, 48, 54, 97, 55, 99, 49, 57, 98, 102, 49, 55, 52, 101, 52, 57, 98, 54, 57, 99, 49, 101, 102, 98, 101, 52, 55, 56, 54, 48, 102, 99, 49, 57, 100, 99, 54, 50, 52, 48, 99, 97, 49, 99, 99, 50, 100, 101, 57, 50, 99, 54, 102, 52, 97, 55, 52, 56, 52, 97, 97, 53, 99, 98, 48, 97, 57, 100, 99, 55, 54, 102, 57, 56, 56, 100, 97, 57, 56, 51, 101, 53, 49, 53, 50, 97, 56, 51, 49, 99, 54, 54, 100, 98, 48, 48, 51, 50, 55, 99, 56, 98, 102, 53, 57, 55, 102, 99, 55, 99, 54, 101, 48, 48, 98, 102, 51, 100, 53, 97, 55, 57, 49, 52, 55, 48, 54, 99, 97, 54, 51, 53, 49, 49, 52, 50, 57, 50, 57, 54, 55, 50, 55, 98, 55, 48, 97, 56, 53, 50, 101, 49, 98, 50, 49, 51, 56, 52, 100, 50, 99, 54, 100, 102, 99, 53, 51, 51, 56, 48, 100, 49, 51, 54, 53, 48, 97, 55, 51, 53, 52, 55, 54, 54, 97, 48, 97, 98, 98, 56, 49, 99, 50, 99, 57, 50, 101, 57, 50, 55, 50, 50, 99, 56, 53, 97, 50, 98, 102, 101, 56, 97, 49, 97, 56, 49, 97, 54, 54, 52, 98, 99, 50, 52, 98, 56, 98, 55, 48, 99, 55, 54, 99, 53, 49, 97, 51, 100, 49, 57, 50, 101, 56, 49, 57, 100, 54, 57, 57, 48, 54, 50, 52, 102, 52, 48, 101, 51, 53, 56, 53, 49, 48, 54, 97, 97, 48, 55, 48, 49, 57, 97, 52, 99, 49, 49, 54, 49, 101, 51, 55, 54, 99, 48, 56, 50, 55, 52, 56, 55, 55, 52, 99, 51, 52, 98, 48, 98, 99, 98, 53, 51, 57, 49, 99, 48, 99, 98, 51, 52, 101, 100, 56, 97, 97, 52, 97, 53, 98, 57, 99, 99, 97, 52, 102, 54, 56, 50, 101, 54, 102, 102, 51, 55, 52, 56, 102, 56, 50, 101, 101, 55, 56, 97, 53, 54, 51, 54, 102, 56, 52, 99, 56, 55, 56, 49, 52, 56, 99, 99, 55, 48, 50, 48, 56, 57, 48, 98, 101, 102, 102, 102, 97, 97, 52, 53, 48, 54, 99, 101, 98, 98, 101, 102, 57, 97, 51, 102, 55, 99, 54, 55, 49, 55, 56, 102, 50]
def beginsL : List Int := [54, 97, 48, 57, 101, 54, 54, 55, 98, 98, 54, 55, 97, 101, 56, 53, 51, 99, 54, 101, 102, 51, 55, 50, 97, 53, 52, 102, 102, 53, 51, 97, 53, 49, 48, 101, 53, 50, 55, 102, 57, 98, 48, 53, 54, 56, 56, 99, 49, 102, 56, 51, 100, 57, 97, 98, 53, 98, 101, 48, 99, 100, 49, 57]
instance (c : Int) : Decidable (isHex c) := by unfold isHex; infer_instance
theorem roundsL_length : roundsL.length = 8 * 64 := by decide +kernel
theorem beginsL_length : beginsL.length = 8 * 8 := by decide +kernel
theorem roundsL_hex : ∀ c ∈ roundsL, isHex c := by decide +kernel
theorem beginsL_hex : ∀ c ∈ beginsL, isHex c := by decide +kernel
def kW (i : Nat) : W32 := wordOf roundsL i
def bW (i : Nat) : W32 := wordOf beginsL i
end Go.Proofs.YtjpokeakemlffaaGreatDoor
