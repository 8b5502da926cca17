/-
  Walks and laws, one behind the other (part 15).
-/
import Derived.Laws.IdiomStrings
import Derived.LoopTactic
import Derived.Outline
import Derived.OwnWalk
import Derived.Test.YtjpokeakemlffaaGreatDoorProg
import Derived.WalkKit
import Derived.WalkSpells
import Derived.Test.YtjpokeakemlffaaGreatDoorS2
set_option linter.unusedSimpArgs false
set_option linter.unusedVariables false
/-
  The contract of strconv.ParseUint at base 16 and 32 bits, for eight digits.
-/
namespace Go.Proofs.YtjpokeakemlffaaGreatDoor
open Go.RowKit
theorem lower_any (c : Int) (h0 : 97 ≤ c) (h1 : c ≤ 102) (w : World) :
    Calls Tryz.prog 374 #[.int .u8 c] w fun e w' => e = .returned (.int .u8 c) ∧ w = w' := by
  have hb : bits .or .u8 c 32 = c := by
    obtain ⟨n, rfl⟩ := Int.eq_ofNat_of_zero_le (show 0 ≤ c by omega)
    have : n = 97 ∨ n = 98 ∨ n = 99 ∨ n = 100 ∨ n = 101 ∨ n = 102 := by omega
    rcases this with rfl | rfl | rfl | rfl | rfl | rfl <;> decide
  go_enter Tryz.func374, Tryz.ntmps374
  go_wp2
  go_ret
  exact ⟨by rw [← hb]; rfl, rfl⟩
def isHex (c : Int) : Prop := (48 ≤ c ∧ c ≤ 57) ∨ (97 ≤ c ∧ c ≤ 102)
def hexD (c : Int) : Int := if c ≤ 57 then c - 48 else c - 87
def hexN (l : List Int) : Int := l.foldl (fun a c => a * 16 + hexD c) 0
theorem hexN_snoc (l : List Int) (c : Int) : hexN (l ++ [c]) = hexN l * 16 + hexD c := by simp [hexN]
theorem hexN_from : ∀ (l : List Int) (a : Int) (m : Nat), (∀ c ∈ l, isHex c) → 0 ≤ a → a < 16 ^ m → 0 ≤ l.foldl (fun a c => a * 16 + hexD c) a ∧ l.foldl (fun a c => a * 16 + hexD c) a < 16 ^ (m + l.length)
  | [], a, m, _, h0, h1 => ⟨h0, h1⟩
  | c :: r, a, m, h, h0, h1 => by
    have hd := h c (by simp)
    have h3 : 0 ≤ hexD c ∧ hexD c ≤ 15 := by unfold isHex at hd; unfold hexD; split <;> omega
    have := hexN_from r (a * 16 + hexD c) (m + 1) (fun z hz => h z (by simp [hz])) (by omega) (by rw [Int.pow_succ]; omega)
    rw [List.foldl_cons, List.length_cons, show m + (r.length + 1) = m + 1 + r.length by omega]
    exact this
theorem hexN_bd (l : List Int) (h : ∀ c ∈ l, isHex c) : 0 ≤ hexN l ∧ hexN l < 16 ^ l.length := by
  have := hexN_from l 0 0 h (by omega) (by decide)
  rwa [Nat.zero_add] at this
theorem pow16 {n : Nat} (h : n ≤ 7) : (16 : Int) ^ n ≤ 268435456 := by
  have : n = 0 ∨ n = 1 ∨ n = 2 ∨ n = 3 ∨ n = 4 ∨ n = 5 ∨ n = 6 ∨ n = 7 := by omega
  rcases this with h | h | h | h | h | h | h | h <;> rw [h] <;> decide
def strB (s : ByteArray) : List Int := s.data.toList.map fun b => (b.toNat : Int)
set_option maxRecDepth 100000 in
set_option maxHeartbeats 4000000 in
theorem parse16_in (s : ByteArray) (l : List Int) (hl : strB s = l) (h8 : l.length = 8) (hx : ∀ c ∈ l, isHex c) (w : World) :
    Calls Tryz.prog 368 #[.string s, .int .i64 16, .int .i64 32] w fun e w' => e = .returned (.tuple #[.int .u64 (hexN l), .nilIface]) ∧ Below w.heap.size w w' := by
  have hs : s.size = 8 := by rw [← hl] at h8; simpa [strB] using h8
  have hne : s.toList.isEmpty = false := by
    rw [ByteArray.toList_eq]
    have : s.data.toList.length = 8 := by simpa using hs
    cases h : s.data.toList with
    | nil => rw [h] at this; simp at this
    | cons a r => rfl
  obtain ⟨C, W1, hconv, hcell, hb⟩ : ∃ C W1, (convert 9 24 (.string s)).run Tryz.prog w = .ok (.slice (some ⟨w.heap.size, 0, none⟩) s.size C) W1 ∧ (∀ k (h : k < l.length), W1.cell? ⟨w.heap.size, k, none⟩ = some (.int .u8 l[k])) ∧ Below w.heap.size w W1 := by
    refine ⟨_, _, run_bytes_of_string w 9 24 5 s Tryz.underlying9 Tryz.underlying24 Tryz.underlying5, fun k hk => ?_, (Below.refl _ w).drew.alloc (Nat.le_refl _) _⟩
    subst hl
    have hk' : k < s.data.size := by simpa [strB] using hk
    have := World.cell?_alloc_mark w.drew (bytesRow s (grownCap w s.size 0 5)) 5 ((bytesRow s (grownCap w s.size 0 5)).size, (bytesRow s (grownCap w s.size 0 5)).size + 1) k
    rw [bytesRow_at _ _ _ hk'] at this
    refine this.trans ?_
    simp [strB]
  rw [hs] at hconv
  have hcH := Lib.hid hcell
  have hxH := Lib.hid hx
  have h8H := Lib.hid h8
  have hl8 : l.length ≤ 8 := by omega
  have hg8 : 8 ≤ l.length := by omega
  clear hcell hx h8 hl hs
  go_enter Tryz.func368, Tryz.ntmps368
  go_wp2_with fail
  have HC := Lib.hid hconv
  clear hconv hne
  go_loop [12, 13, 101] (fun u n i => ∃ k : Nat, k ≤ 8 ∧ i = .int .i64 k ∧ u = .bool false ∧ n = .int .u64 (hexN (l.take k))) (fun _ _ i => 8 - (intOf i).toNat)
  case atStart => exact ⟨0, by omega, rfl, rfl, rfl⟩
  case round =>
    obtain ⟨k, hk, rfl, rfl, rfl⟩ := hrel
    by_cases hlt : k < 8
    · have c0 := hcH.out k (by omega)
      have hd := hxH.out l[k] (List.getElem_mem _)
      have hbd := hexN_bd (l.take k) (fun c hc => hxH.out c (List.mem_of_mem_take hc))
      have hp : (16 : Int) ^ (l.take k).length ≤ 268435456 := pow16 (by rw [List.length_take]; omega)
      have n0 := hbd.1
      have n1 : hexN (l.take k) ≤ 268435455 := by have := hbd.2; omega
      have hsn : hexN (l.take (k + 1)) = hexN (l.take k) * 16 + hexD l[k] := by
        rw [List.take_succ_eq_append_getElem (by omega), hexN_snoc]
      have HS := Lib.hid hsn
      clear hbd hp hsn
      generalize hexN (l.take k) = n at *
      rcases hd with ⟨d0, d1⟩ | ⟨d0, d1⟩
      · have hh : hexD l[k] = l[k] - 48 := by unfold hexD; rw [if_pos d1]
        have HH := Lib.hid hh
        clear hh
        go_wp2
        go_round
        case rel => exact ⟨k + 1, by omega, by go_num, rfl, by rw [HS.out, HH.out]⟩
        case measure => simp [intOf] <;> omega
      · have hh : hexD l[k] = l[k] - 97 + 10 := by unfold hexD; rw [if_neg (by omega)]; omega
        have HH := Lib.hid hh
        clear hh
        go_wp2_with (go_at_call 374; refine (lower_any _ (by omega) (by omega) _).mono ?_; rintro e w' ⟨rfl, rfl⟩)
        go_round
        case rel => exact ⟨k + 1, by omega, by go_num, rfl, by rw [HS.out, HH.out]⟩
        case measure => simp [intOf] <;> omega
    · obtain rfl : k = 8 := by omega
      have ht : l.take 8 = l := List.take_of_length_le hl8
      have HT := Lib.hid ht
      clear ht
      go_wp2
      go_ret2
      exact ⟨by rw [HT.out]; rfl, hb⟩
set_option maxHeartbeats 1000000 in
theorem parse16_any (s : ByteArray) (l : List Int) (hl : strB s = l) (h8 : l.length = 8) (hx : ∀ c ∈ l, isHex c) (w : World) :
    Calls Tryz.prog 353 #[.string s, .int .i64 16, .int .i64 32] w fun e w' => e = .returned (.tuple #[.int .u64 (hexN l), .nilIface]) ∧ Below w.heap.size w w' := by
  have HL := Lib.hid hl
  have H8 := Lib.hid h8
  have HX := Lib.hid hx
  clear hl h8 hx
  go_enter Tryz.func353, Tryz.ntmps353
  go_wp2_with (go_at_call 368; refine (parse16_in s l HL.out H8.out HX.out _).mono ?_; rintro e w1 ⟨rfl, hb1⟩)
  go_ret2
  exact ⟨rfl, hb1⟩
end Go.Proofs.YtjpokeakemlffaaGreatDoor
