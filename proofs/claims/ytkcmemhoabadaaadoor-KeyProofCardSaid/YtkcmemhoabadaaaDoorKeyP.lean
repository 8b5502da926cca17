/-
  Layer 5: key.Proof and the reference's; the law KeyProof, walked.
-/
import Derived.Test.YtkcmemhoabadaaaDoorKeyC
import Derived.Test.YtkcmemhoabadaaaDoorHmR
import Derived.Test.YtkcmemhoabadaaaDoorHmJ
namespace Go.Proofs.YtkcmemhoabadaaaDoor
open Go.RowKit

/-- What proves two keys. -/
def prfN (a b n m : Int) : Int := beN ((hmB (beB a 8 ++ beB b 8) (beB n 4 ++ beB m 4)).take 8)
theorem app_byte {l m : List Int} (h1 : ∀ z ∈ l, 0 ≤ z ∧ z ≤ 255) (h2 : ∀ z ∈ m, 0 ≤ z ∧ z ≤ 255) : ∀ z ∈ l ++ m, 0 ≤ z ∧ z ≤ 255 := fun z hz => (List.mem_append.1 hz).elim (h1 z) (h2 z)
theorem u64_of_u32 {n : Int} (h0 : 0 ≤ n) (h1 : n ≤ 4294967295) : IntKind.u64.wrap n = n := by rw [IntKind.wrap_u64]; omega

set_option maxRecDepth 100000 in
set_option maxHeartbeats 1000000 in
theorem proof_any (a b n m : Int) (w : World) (a0 : 0 ≤ a) (a1 : a < 18446744073709551616) (b0 : 0 ≤ b) (b1 : b < 18446744073709551616) (n0 : 0 ≤ n) (n1 : n ≤ 4294967295) (m0 : 0 ≤ m) (m1 : m ≤ 4294967295) :
    Calls Tryd.prog 25 #[.int .u64 a, .int .u64 b, .int .u32 n, .int .u32 m] w fun e w' => e = .returned (.int .u64 (prfN a b n m)) ∧ Below w.heap.size w w' := by
  have hnw := u64_of_u32 n0 n1
  have hmw := u64_of_u32 m0 m1
  have HA : Keep ((0 ≤ a ∧ a < 18446744073709551616) ∧ 0 ≤ b ∧ b < 18446744073709551616) := ⟨⟨a0, a1⟩, b0, b1⟩
  have HN : Keep ((0 ≤ n ∧ n < 18446744073709551616) ∧ 0 ≤ m ∧ m < 18446744073709551616) := ⟨by omega⟩
  clear a0 a1 b0 b1 n0 n1 m0 m1
  go_enter Tryd.func25, Tryd.ntmps25
  go_wp2_with fail
  refine (wide_any 8 _ 2 2 [a, b] _ (Arg.new' w _ rfl 32 (0, 0) 1 encU encU_length [a, b] 2 rfl (by decide)) (fun z hz => by simp only [List.mem_cons, List.not_mem_nil, or_false] at hz; rcases hz with rfl | rfl; (· exact HA.out.1); (· exact HA.out.2)) (by omega) (by omega) (by omega)).mono ?_
  rintro e w1 ⟨A1, c1, rfl, ha1, hb1⟩
  rw [show wideB 8 [a, b] = beB a 8 ++ beB b 8 from by simp [wideB]] at ha1
  have HK1 := Keep.mk ha1
  have HB1 := Keep.mk (((Below.refl _ w).alloc (Nat.le_refl _) _).trans (hb1.mono (by simp)))
  clear ha1 hb1
  go_wp2_with fail
  refine (wide_any 4 _ 2 2 [n, m] _ (Arg.new' w1 _ rfl 32 (0, 0) 1 encU encU_length [n, m] 2 rfl (by decide)) (fun z hz => by simp only [List.mem_cons, List.not_mem_nil, or_false] at hz; rcases hz with rfl | rfl; (· exact HN.out.1); (· exact HN.out.2)) (by omega) (by omega) (by omega)).mono ?_
  rintro e w2 ⟨A2, c2, rfl, ha2, hb2⟩
  rw [show wideB 4 [n, m] = beB n 4 ++ beB m 4 from by simp [wideB]] at ha2
  have HT2 := Keep.mk ha2
  have hb2' := ((Below.refl _ w1).alloc (Nat.le_refl _) _).trans (hb2.mono (by simp))
  have HK2 := Keep.mk (HK1.out.below hb2')
  have HB2 := Keep.mk (HB1.out.trans (hb2'.mono HB1.out.size))
  clear ha2 hb2 hb2' HK1 HB1
  go_wp2_with fail
  refine (hm_new A1 (8 * 2) c1 (beB a 8 ++ beB b 8) w2 _ 1 [⟨A2, 4 * 2, c2, beB n 4 ++ beB m 4⟩] (beB n 4 ++ beB m 4) rfl rfl HK2.out (app_byte (beB_byte _ _) (beB_byte _ _)) (by omega) (PcsOk.one HT2.out) (glue_one _ _ _ _) (by omega) (by rw [List.length_append, beB_length, beB_length]; omega) (app_byte (beB_byte _ _) (beB_byte _ _))).mono ?_
  rintro e w3 ⟨rfl, hb3⟩
  have HB3 := Keep.mk (HB2.out.trans (hb3.mono HB2.out.size))
  clear hb3
  go_wp2_with fail
  refine (head_any (hmB (beB a 8 ++ beB b 8) (beB n 4 ++ beB m 4)) 8 _ (hmB_length _ _) (digB_byte _) (by omega) (by omega)).mono ?_
  rintro e w4 ⟨rfl, hb4⟩
  have HB4 := Keep.mk (HB3.out.trans (hb4.mono HB3.out.size))
  clear hb4
  rw [show beN ((hmB (beB a 8 ++ beB b 8) (beB n 4 ++ beB m 4)).take 8) = prfN a b n m from rfl]
  go_wp2_with fail
  go_ret
  exact ⟨rfl, HB4.out⟩

set_option maxRecDepth 100000 in
set_option maxHeartbeats 2000000 in
theorem refProof_any (a b n m : Int) (w : World) (a0 : 0 ≤ a) (a1 : a < 18446744073709551616) (b0 : 0 ≤ b) (b1 : b < 18446744073709551616) (n0 : 0 ≤ n) (n1 : n ≤ 4294967295) (m0 : 0 ≤ m) (m1 : m ≤ 4294967295) :
    Calls Tryd.prog 26 #[.int .u64 a, .int .u64 b, .int .u32 n, .int .u32 m] w fun e w' => e = .returned (.int .u64 (prfN a b n m)) ∧ Below w.heap.size w w' := by
  have hnw := u64_of_u32 n0 n1
  have hmw := u64_of_u32 m0 m1
  have HA : Keep ((0 ≤ a ∧ a < 18446744073709551616) ∧ 0 ≤ b ∧ b < 18446744073709551616) := ⟨⟨a0, a1⟩, b0, b1⟩
  have HN : Keep ((0 ≤ n ∧ n < 18446744073709551616) ∧ 0 ≤ m ∧ m < 18446744073709551616) := ⟨by omega⟩
  clear a0 a1 b0 b1 n0 n1 m0 m1
  go_enter Tryd.func26, Tryd.ntmps26
  go_wp2_with fail
  refine (bytes_any a 8 w HA.out.1.1 HA.out.1.2 (by omega) (by omega)).mono ?_
  rintro e w1 ⟨A1, c1, rfl, ha1, hb1⟩
  have HA1 := Keep.mk ha1
  have HB1 := Keep.mk hb1
  clear ha1 hb1
  go_wp2_with (first
    | (refine wpList_append_came rfl (.tmp 12) (.tmp 14) 22 rfl Tryd.underlying22 w.heap.size (.slice none 0 0) 0 [] rfl (World.ownsRow_nil _ _ _ _) A1 8 c1 (beB a 8) rfl HA1.out (by omega) (by omega) HB1.out.size w HB1.out ?_; intro v2 w2 hown2 hb2; have HO2 := Keep.mk hown2; have HB2 := Keep.mk hb2; clear hown2 hb2)
    | fail)
  refine (bytes_any b 8 w2 HA.out.2.1 HA.out.2.2 (by omega) (by omega)).mono ?_
  rintro e w3 ⟨A3, c3, rfl, ha3, hb3⟩
  have HA3 := Keep.mk ha3
  have HB3 := Keep.mk (HB2.out.trans (hb3.mono HB2.out.size))
  have HO3 := Keep.mk (own_below HO2.out hb3)
  clear ha3 hb3
  go_wp2_with (first
    | (refine wpList_append_came rfl (.tmp 16) (.tmp 18) 22 rfl Tryd.underlying22 w.heap.size v2 (0 + 8) _ rfl HO3.out A3 8 c3 (beB b 8) rfl HA3.out (by omega) (by omega) HB3.out.size w HB3.out ?_; intro v4 w4 hown4 hb4; obtain ⟨A4, c4, rfl, ha4⟩ := Arg.of_own (by decide) encB_length hown4; rw [List.nil_append] at ha4; have HK4 := Keep.mk ha4; have HB4 := Keep.mk hb4; clear hown4 hb4 ha4)
    | fail)
  refine (bytes_any n 4 w4 HN.out.1.1 HN.out.1.2 (by omega) (by omega)).mono ?_
  rintro e w5 ⟨A5, c5, rfl, ha5, hb5⟩
  have HA5 := Keep.mk ha5
  have HB5 := Keep.mk hb5
  clear ha5 hb5
  go_wp2_with (first
    | (refine wpList_append_came rfl (.tmp 20) (.tmp 23) 22 rfl Tryd.underlying22 w4.heap.size (.slice none 0 0) 0 [] rfl (World.ownsRow_nil _ _ _ _) A5 4 c5 (beB n 4) rfl HA5.out (by omega) (by omega) HB5.out.size w4 HB5.out ?_; intro v6 w6 hown6 hb6; have HO6 := Keep.mk hown6; have HB6 := Keep.mk hb6; clear hown6 hb6)
    | fail)
  refine (bytes_any m 4 w6 HN.out.2.1 HN.out.2.2 (by omega) (by omega)).mono ?_
  rintro e w7 ⟨A7, c7, rfl, ha7, hb7⟩
  have HA7 := Keep.mk ha7
  have HB7 := Keep.mk (HB6.out.trans (hb7.mono HB6.out.size))
  have HO7 := Keep.mk (own_below HO6.out hb7)
  clear ha7 hb7
  go_wp2_with (first
    | (refine wpList_append_came rfl (.tmp 25) (.tmp 28) 22 rfl Tryd.underlying22 w4.heap.size v6 (0 + 4) _ rfl HO7.out A7 4 c7 (beB m 4) rfl HA7.out (by omega) (by omega) HB7.out.size w4 HB7.out ?_; intro v8 w8 hown8 hb8; obtain ⟨A8, c8, rfl, ha8⟩ := Arg.of_own (by decide) encB_length hown8; rw [List.nil_append] at ha8; have HT8 := Keep.mk ha8; have HB8 := Keep.mk hb8; clear hown8 hb8 ha8)
    | fail)
  refine (refHm_any A4 (0 + 8 + 8) c4 (beB a 8 ++ beB b 8) A8 (0 + 4 + 4) c8 (beB n 4 ++ beB m 4) w8 (HK4.out.below HB8.out) (app_byte (beB_byte _ _) (beB_byte _ _)) (by omega) HT8.out (app_byte (beB_byte _ _) (beB_byte _ _)) (by omega)).mono ?_
  rintro e w9 ⟨A9, c9, rfl, ha9, hb9⟩
  have hc9 := ha9.hcap
  have hm9 := ha9.hmax
  unfold maxLen at hm9
  have HA9 := Keep.mk (ha9.take (k := 8) (by omega))
  have HB9 := Keep.mk (HB4.out.trans ((HB8.out.trans (hb9.mono HB8.out.size)).mono HB4.out.size))
  clear ha9 hb9
  go_wp2_with fail
  refine (number_any A9 8 c9 _ w9 HA9.out (fun z hz => digB_byte _ z (List.mem_of_mem_take hz)) (by omega)).mono ?_
  rintro e w10 ⟨rfl, rfl⟩
  rw [show beN ((hmB (beB a 8 ++ beB b 8) (beB n 4 ++ beB m 4)).take 8) = prfN a b n m from rfl]
  go_wp2_with fail
  go_ret
  exact ⟨rfl, HB9.out⟩

/-- Two numbers at g, two at h. -/
def Four (W : World) (g h : Nat) (a b n m : Int) : Prop :=
  W.cell? ⟨g, 0, none⟩ = some (.int .u64 a) ∧ W.cell? ⟨g, 1, none⟩ = some (.int .u64 b) ∧ W.cell? ⟨h, 0, none⟩ = some (.int .u32 n) ∧ W.cell? ⟨h, 1, none⟩ = some (.int .u32 m) ∧ g < W.heap.size ∧ h < W.heap.size
theorem Four.below {W W' : World} {g h : Nat} {a b n m : Int} (H : Four W g h a b n m) (hb : Below W.heap.size W W') : Four W' g h a b n m := by
  obtain ⟨h1, h2, h3, h4, h5, h6⟩ := H
  exact ⟨(hb.cell (p := ⟨g, 0, none⟩) h5).trans h1, (hb.cell (p := ⟨g, 1, none⟩) h5).trans h2, (hb.cell (p := ⟨h, 0, none⟩) h6).trans h3, (hb.cell (p := ⟨h, 1, none⟩) h6).trans h4, Nat.lt_of_lt_of_le h5 hb.size, Nat.lt_of_lt_of_le h6 hb.size⟩

set_option maxRecDepth 100000 in
set_option maxHeartbeats 2000000 in
theorem keyProof_walk (a b n m : Int) (w : World) (a0 : 0 ≤ a) (a1 : a < 18446744073709551616) (b0 : 0 ≤ b) (b1 : b < 18446744073709551616) (n0 : 0 ≤ n) (n1 : n ≤ 4294967295) (m0 : 0 ≤ m) (m1 : m ≤ 4294967295) :
    Calls Tryd.prog 12 #[.agg #[.int .u64 a, .int .u64 b], .agg #[.int .u32 n, .int .u32 m]] w fun e w' => e = .returned (.bool true) ∧ Below w.heap.size w w' := by
  have HA : Keep ((0 ≤ a ∧ a < 18446744073709551616) ∧ 0 ≤ b ∧ b < 18446744073709551616) := ⟨⟨a0, a1⟩, b0, b1⟩
  have HN : Keep ((0 ≤ n ∧ n ≤ 4294967295) ∧ 0 ≤ m ∧ m ≤ 4294967295) := ⟨⟨n0, n1⟩, m0, m1⟩
  clear a0 a1 b0 b1 n0 n1 m0 m1
  go_enter Tryd.func12, Tryd.ntmps12
  go_wp2_with fail
  refine (wakes05_any _).mono ?_
  rintro e w1 ⟨rfl, hb1⟩
  have hF0 : Four ((w.alloc (.cells #[.int .u64 a, .int .u64 b] 43)).alloc (.cells #[.int .u32 n, .int .u32 m] 44)) w.heap.size (w.heap.size + 1) a b n m := by
    have h1 := heap_alloc2_old w (.cells #[.int .u64 a, .int .u64 b] 43) (.cells #[.int .u32 n, .int .u32 m] 44)
    have h2 := heap_alloc2_new w (.cells #[.int .u64 a, .int .u64 b] 43) (.cells #[.int .u32 n, .int .u32 m] 44)
    exact ⟨cell_of_row _ _ 0 _ _ _ h1, cell_of_row _ _ 1 _ _ _ h1, cell_of_row _ _ 0 _ _ _ h2, cell_of_row _ _ 1 _ _ _ h2, lt_of_block h1, lt_of_block h2⟩
  have HF1 := Keep.mk (hF0.below hb1)
  have HB1 := Keep.mk ((((Below.refl _ w).alloc (Nat.le_refl _) _).alloc (by simp) _).trans (hb1.mono (by simp; omega)))
  clear hF0 hb1
  obtain ⟨c0, c1, c2, c3, _, _⟩ := HF1.out
  go_wp2_with fail
  clear c0 c1 c2 c3
  refine (proof_any a b n m w1 HA.out.1.1 HA.out.1.2 HA.out.2.1 HA.out.2.2 HN.out.1.1 HN.out.1.2 HN.out.2.1 HN.out.2.2).mono ?_
  rintro e w2 ⟨rfl, hb2⟩
  have HF2 := Keep.mk (HF1.out.below hb2)
  have HB2 := Keep.mk (HB1.out.trans (hb2.mono HB1.out.size))
  clear hb2
  obtain ⟨c0, c1, c2, c3, _, _⟩ := HF2.out
  go_wp2_with fail
  clear c0 c1 c2 c3
  refine (proof_any b a m n w2 HA.out.2.1 HA.out.2.2 HA.out.1.1 HA.out.1.2 HN.out.2.1 HN.out.2.2 HN.out.1.1 HN.out.1.2).mono ?_
  rintro e w3 ⟨rfl, hb3⟩
  have HF3 := Keep.mk (HF2.out.below hb3)
  have HB3 := Keep.mk (HB2.out.trans (hb3.mono HB2.out.size))
  clear hb3
  obtain ⟨c0, c1, c2, c3, _, _⟩ := HF3.out
  go_wp2_with fail
  clear c0 c1 c2 c3
  refine (refProof_any a b n m w3 HA.out.1.1 HA.out.1.2 HA.out.2.1 HA.out.2.2 HN.out.1.1 HN.out.1.2 HN.out.2.1 HN.out.2.2).mono ?_
  rintro e w4 ⟨rfl, hb4⟩
  have HF4 := Keep.mk (HF3.out.below hb4)
  have HB4 := Keep.mk (HB3.out.trans (hb4.mono HB3.out.size))
  clear hb4
  obtain ⟨c0, c1, c2, c3, _, _⟩ := HF4.out
  have hq1 : (prfN a b n m == prfN a b n m) = true := by simp
  have hq2 : (prfN b a m n == prfN b a m n) = true := by simp
  go_wp2_with fail
  clear c0 c1 c2 c3
  refine (refProof_any b a m n w4 HA.out.2.1 HA.out.2.2 HA.out.1.1 HA.out.1.2 HN.out.2.1 HN.out.2.2 HN.out.1.1 HN.out.1.2).mono ?_
  rintro e w5 ⟨rfl, hb5⟩
  go_wp2_with fail
  go_ret
  exact ⟨rfl, HB4.out.trans (hb5.mono HB4.out.size)⟩
end Go.Proofs.YtkcmemhoabadaaaDoor
