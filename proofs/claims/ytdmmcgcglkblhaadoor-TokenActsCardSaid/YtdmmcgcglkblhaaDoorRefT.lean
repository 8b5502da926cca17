/-
  The reference's Bytes and Token.
-/
import Derived.Test.YtdmmcgcglkblhaaDoorRefN
namespace Go.Proofs.YtdmmcgcglkblhaaDoor
open Go.RowKit

theorem refWidth_any (n : Int) (w : World) (h0 : 1 ≤ n) (h1 : n ≤ 8) :
    Calls Tryd.prog 59 #[.int .i64 n] w fun e w' => e = .returned (.int .i64 n) ∧ w = w' := by
  go_enter Tryd.func59, Tryd.ntmps59
  go_wp2
  go_ret
  exact ⟨rfl, rfl⟩
theorem wrap_tdiv {z : Int} (h0 : 0 ≤ z) (h1 : z < 18446744073709551616) : IntKind.u64.wrap (z.tdiv 256) = z / 256 := by rw [IntKind.wrap_u64, Int.tdiv_eq_ediv_of_nonneg h0]; omega
theorem beB_get (n : Int) : ∀ (k i : Nat) (h : i < k), (beB n k)[i]'(by rw [beB_length]; exact h) = shB n (k - 1 - i) % 256
  | 0, i, h => absurd h (by omega)
  | k + 1, 0, _ => rfl
  | k + 1, i + 1, h => by
    have := beB_get n k i (by omega)
    rw [show k + 1 - 1 - (i + 1) = k - 1 - i by omega, ← this]
    rfl

set_option maxRecDepth 100000 in
set_option maxHeartbeats 2000000 in
theorem bytes_any (x : Int) (k : Nat) (w : World) (x0 : 0 ≤ x) (x1 : x < 18446744073709551616) (k1 : 1 ≤ k) (k8 : k ≤ 8) :
    Calls Tryd.prog 40 #[.int .u64 x, .int .i64 k] w fun e w' => ∃ A' c', e = .returned (.slice A' k c') ∧ Arg w' 1 encB A' k c' (beB x k) ∧ Below w.heap.size w w' := by
  have hbd := Lib.hid (shB_bd x0 x1)
  clear x0 x1
  go_enter Tryd.func40, Tryd.ntmps40
  go_wp2_with (go_at_call 59; refine (refWidth_any _ _ (by omega) (by omega)).mono ?_; rintro e w' ⟨rfl, rfl⟩)
  go_loopw [5, 6] (fun v i wr => ∃ j : Nat, j ≤ k ∧ i = .int .i64 j ∧ wr.ownsRow w.heap.size 5 1 v j (((beB x k).take j).flatMap encB) ∧ Below w.heap.size w wr) (fun _ i _ => k - (intOf i).toNat)
  case atStart => exact ⟨0, by omega, rfl, World.ownsRow_nil _ _ _ _, Below.refl _ _⟩
  case round =>
    obtain ⟨j, hj, rfl, hown, hb⟩ := hrel
    by_cases hlt : j < k
    · have hsn : (beB x k).take (j + 1) = (beB x k).take j ++ [shB x (k - 1 - j) % 256] := by
        rw [List.take_succ_eq_append_getElem (by rw [beB_length]; exact hlt), beB_get x k j hlt]
      have HSN := Keep.mk hsn
      have HO := Lib.hid hown
      have HB := Lib.hid hb
      have hbs := hb.size
      clear hsn hown hb
      go_wp2_with fail
      obtain ⟨wo, rfl⟩ : ∃ wo : World, wo = wr := ⟨_, rfl⟩
      go_loop [7, 8] (fun xv kv => ∃ i : Nat, i + j + 1 ≤ k ∧ kv = .int .i64 ((j + 1 + i : Nat) : Int) ∧ xv = .int .u64 (shB x i)) (fun _ kv => k - (intOf kv).toNat)
      case atStart => exact ⟨0, by omega, by go_num, rfl⟩
      case round =>
        obtain ⟨i, hi, rfl, rfl⟩ := hrel
        by_cases hlt2 : j + 1 + i < k
        · have hnx : shB x (i + 1) = shB x i / 256 := rfl
          have HNX := Keep.mk hnx
          have hz := hbd.out i
          obtain ⟨z, hzz⟩ : ∃ z, shB x i = z := ⟨_, rfl⟩
          rw [hzz] at hz HNX ⊢
          obtain ⟨z0, z1⟩ := hz
          have HZ1 := Keep.mk z1
          clear hnx hzz z1
          go_wp2_with fail
          go_round
          case rel => exact ⟨i + 1, by omega, by go_num, by rw [HNX.out, wrap_tdiv z0 HZ1.out]⟩
          case measure => simp [intOf] <;> omega
        · have hik : i = k - 1 - j := by omega
          have hge : k ≤ j + 1 + i := by omega
          have HIK : Keep (shB x (k - 1 - j) % 256 = shB x i % 256) := ⟨by rw [hik]⟩
          have hz := hbd.out i
          obtain ⟨z, hzz⟩ : ∃ z, shB x i = z := ⟨_, rfl⟩
          rw [hzz] at hz HIK ⊢
          obtain ⟨z0, z1⟩ := hz
          have HZ1 := Keep.mk z1
          clear hik hzz z1
          go_wp2_with (first
            | (refine wpList_append_bytes rfl (.tmp 26) (.tmp 30) 68 rfl Tryd.underlying68 w.heap.size _ j _ rfl (HO.out.alloc _) wo.heap.size 1 [_] rfl 5 (heap_alloc_new _ _) rfl (by omega) (by omega) (by simp; omega) ?_; intro v4 w4 hown4 hgr4 hat4; have hb4 : Below w.heap.size w w4 := (HB.out.alloc hbs _).grown hgr4 (by simp; omega) (fun j e => (HO.out.lt j e).1); have HO4 := Lib.hid hown4; clear hgr4 hat4 hown4)
            | fail)
          go_roundw
          case rel =>
            refine ⟨j + 1, by omega, by go_num, ?_, hb4⟩
            rw [HSN.out, HIK.out]
            exact HO4.out
          case measure => simp [intOf] <;> omega
    · have hjk : j = k := by omega
      have hge : k ≤ j := by omega
      rw [List.take_of_length_le (by rw [beB_length]; exact hge)] at hown
      rw [hjk] at hown
      obtain ⟨A', c', rfl, ha'⟩ := Arg.of_own (by decide) encB_length hown
      have HA := Keep.mk ha'
      have HB := Lib.hid hb
      clear hjk ha' hown hb hj
      go_wp2_with fail
      go_ret
      exact ⟨A', c', rfl, HA.out, HB.out⟩

/-- The reference's Token. -/
theorem refToken_any (x : Int) (w : World) (h0 : 0 ≤ x) (h1 : x < 18446744073709551616) :
    Calls Tryd.prog 29 #[.int .u64 x] w fun e w' => e = .returned (.int .u32 (tokN x)) ∧ Below w.heap.size w w' := by
  have H0 := Keep.mk h0
  have H1 := Keep.mk h1
  clear h0 h1
  go_enter Tryd.func29, Tryd.ntmps29
  go_wp2_with fail
  refine (bytes_any x 8 w H0.out H1.out (by omega) (by omega)).mono ?_
  rintro e w1 ⟨A1, c1, rfl, ha1, hb1⟩
  have HA1 := Keep.mk ha1
  have HB1 := Lib.hid hb1
  clear ha1 hb1
  go_wp2_with fail
  refine (refOf_any A1 8 c1 (beB x 8) w1 HA1.out (beB_byte x 8) (by omega)).mono ?_
  rintro e w2 ⟨A2, c2, rfl, ha2, hb2⟩
  have hcap2 := ha2.hcap
  have hmax2 := ha2.hmax
  unfold maxLen at hmax2
  have HA2 := Keep.mk (ha2.take (k := 4) (by omega))
  have HB2 := Lib.hid (HB1.out.trans (hb2.mono HB1.out.size))
  clear ha2 hb2
  go_wp2_with fail
  refine (number_any A2 4 c2 _ w2 HA2.out (fun z hz => digB_byte' _ z (List.mem_of_mem_take hz)) (by omega)).mono ?_
  rintro e w3 ⟨rfl, rfl⟩
  rw [show beN ((digB (beB x 8)).take 4) = tokN x from rfl]
  have htw := tok_wrap x
  go_wp2_with fail
  go_ret
  exact ⟨rfl, HB2.out⟩

end Go.Proofs.YtdmmcgcglkblhaaDoor
