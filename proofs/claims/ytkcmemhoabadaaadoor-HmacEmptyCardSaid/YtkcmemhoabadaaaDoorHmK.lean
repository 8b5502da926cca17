/-
  Layer 4: the law HmacKeys, walked.
-/
import Derived.Test.YtkcmemhoabadaaaDoorHmR
import Derived.Test.YtkcmemhoabadaaaDoorHmJ
namespace Go.Proofs.YtkcmemhoabadaaaDoor
open Go.RowKit

theorem hmB_zeros (l t : List Int) (j : Nat) (h : l.length + j ≤ 64) : hmB (l ++ List.replicate j 0) t = hmB l t := by
  have h1 : keyB (l ++ List.replicate j 0) = l ++ List.replicate j 0 := by rw [keyB, if_neg (by rw [List.length_append, List.length_replicate]; omega)]
  have h2 : keyB l = l := by rw [keyB, if_neg (by omega)]
  have h3 : key64 (l ++ List.replicate j 0) = key64 l := by
    rw [key64, key64, List.append_assoc, List.length_append, List.length_replicate, List.replicate_append_replicate]
    congr 2
    omega
  have h4 : ∀ x, xorB (l ++ List.replicate j 0) x = xorB l x := fun x => by rw [xorB, xorB, h3]
  rw [hmB, hmB, h1, h2, h4, h4]
theorem hmB_long (l t : List Int) (h : 64 < l.length) : hmB (digB l) t = hmB l t := by
  have h1 : keyB (digB l) = digB l := by rw [keyB, if_neg (by rw [digB_length]; omega)]
  have h2 : keyB l = digB l := by rw [keyB, if_pos h]
  rw [hmB, hmB, h1, h2]

set_option maxRecDepth 100000 in
set_option maxHeartbeats 2000000 in
theorem hmacKeys_short (A : Option Addr) (n c : Nat) (l : List Int) (B : Option Addr) (m d : Nat) (t : List Int) (z : Int) (w : World) (ha : Arg w 1 encB A n c l) (hl : ∀ z ∈ l, 0 ≤ z ∧ z ≤ 255) (hb : Arg w 1 encB B m d t) (ht : ∀ z ∈ t, 0 ≤ z ∧ z ≤ 255) (z0 : 0 ≤ z) (z1 : z ≤ 255) (h64 : n ≤ 64) (h300 : m ≤ 300) :
    Calls Tryd.prog 9 #[.slice A n c, .slice B m d, .int .u8 z] w fun e w' => e = .returned (.bool true) ∧ Below w.heap.size w w' := by
  have HA := Keep.mk ha
  have HBt := Keep.mk hb
  have HLb := Lib.hid hl
  have HTb := Lib.hid ht
  have hc1 := ha.hcap
  have hc2 := hb.hcap
  have HLl := Keep.mk ha.hlen
  have HTl := Keep.mk hb.hlen
  clear ha hl hb ht
  obtain ⟨zn, rfl⟩ := Int.eq_ofNat_of_zero_le z0
  go_enter Tryd.func9, Tryd.ntmps9
  go_wp2_with (first
    | (go_at_call 22; refine (wakes04_any _).mono ?_; rintro e w1 ⟨rfl, hb1⟩; have HB1 := Keep.mk hb1; have HA1 := Keep.mk (HA.out.below hb1); have HT1 := Keep.mk (HBt.out.below hb1); clear hb1)
    | (refine wpList_append_came rfl (.tmp 34) (.tmp 35) 22 rfl Tryd.underlying22 w1.heap.size (.slice (some ⟨w1.heap.size, 0, none⟩) 0 0) 0 [] rfl (World.ownsRow_lit w1 #[] 0 (Nat.le_refl _) (by decide) rfl) A n c l rfl (HA1.out.alloc _) (by omega) (by omega) (by simp) w1 ((Below.refl _ w1).alloc (Nat.le_refl _) _) ?_
       intro v2 w2 hown2 hb2
       rw [List.nil_append, Nat.zero_add] at hown2
       have HO2 := Keep.mk hown2
       have HB2 := Keep.mk hb2
       clear hown2 hb2)
    | fail)
  go_loopw [8, 38] (fun v i wr => ∃ (i' j T : Nat), i' ≤ zn ∧ i = .int .u8 i' ∧ Keep (T = n + j) ∧ T ≤ 64 ∧ wr.ownsRow w1.heap.size 5 1 v T ((l ++ List.replicate j 0).flatMap encB) ∧ Below w1.heap.size w1 wr) (fun _ i _ => zn - (intOf i).toNat)
  case atStart => exact ⟨0, 0, n, by omega, rfl, ⟨rfl⟩, h64, by simpa using HO2.out, HB2.out⟩
  case round =>
    obtain ⟨i', j, T, hi', rfl, hT, hT64, hown, hb⟩ := hrel
    obtain ⟨Av, cv, rfl, hcv⟩ := own_slice hown
    by_cases hlt : i' < zn
    · have HO := Lib.hid hown
      have HB := Lib.hid hb
      have hbs := hb.size
      clear hown hb HO2 HB2
      by_cases hT2 : T < 64
      · go_wp2_with (first
          | (refine wpList_append_bytes rfl (.tmp 43) (.tmp 44) 22 rfl Tryd.underlying22 w1.heap.size _ T _ rfl (HO.out.alloc _) wr.heap.size 1 [0] rfl 5 (heap_alloc_new _ _) rfl (by omega) (by omega) (by simp; omega) ?_; intro v4 w4 hown4 hgr4 hat4; have hb4 : Below w1.heap.size w1 w4 := (HB.out.alloc hbs _).grown hgr4 (by simp; omega) (fun j e => (HO.out.lt j e).1); have HO4 := Lib.hid hown4; obtain ⟨A4, c4, rfl, _⟩ := own_slice hown4; clear hgr4 hat4 hown4)
          | fail)
        go_roundw
        case rel =>
          refine ⟨i' + 1, j + 1, T + 1, by omega, by go_num, ⟨by have := hT.out; omega⟩, by omega, ?_, hb4⟩
          have h := HO4.out
          rw [List.replicate_succ', ← List.append_assoc]
          exact h
        case measure => simp [intOf] <;> omega
      · go_wp2_with fail
        go_roundw
        case rel => exact ⟨i' + 1, j, T, by omega, by go_num, hT, hT64, HO.out, HB.out⟩
        case measure => simp [intOf] <;> omega
    · have hge : zn ≤ i' := by omega
      have ha' : Arg wr 1 encB Av T cv (l ++ List.replicate j 0) := by
        obtain ⟨A', c', e, h⟩ := Arg.of_own (by decide) encB_length hown
        cases e
        exact h
      have HA' := Keep.mk ha'
      have HB := Keep.mk hb
      have HK := Keep.mk (HA1.out.below hb)
      have HT := Keep.mk (HT1.out.below hb)
      have hzz : hmB (l ++ List.replicate j 0) t = hmB l t := hmB_zeros l t j (by rw [HLl.out]; have := hT.out; omega)
      have HZZ := Keep.mk hzz
      have hlb2 : ∀ z ∈ l ++ List.replicate j 0, 0 ≤ z ∧ z ≤ 255 := fun z hz => by
        rcases List.mem_append.1 hz with h | h
        · exact HLb.out z h
        · obtain ⟨_, rfl⟩ := List.mem_replicate.1 h; omega
      have HLB2 := Lib.hid hlb2
      clear ha' hb hown hzz hlb2 HO2 HB2
      go_wp2_with fail
      refine (hm_new A n c l wr _ 1 [⟨B, m, d, t⟩] t rfl rfl HK.out HLb.out (by omega) (PcsOk.one HT.out) (glue_one _ _ _ _) (by omega) (by rw [HTl.out]; omega) HTb.out).mono ?_
      rintro e w5 ⟨rfl, hb5⟩
      obtain ⟨D, hD⟩ : ∃ D, hmB l t = D := ⟨_, rfl⟩
      have hDl : D.length = 32 := by rw [← hD, hmB_length]
      have HD := Keep.mk hD
      have HDl := Keep.mk hDl
      rw [hD]
      clear hD hDl
      go_wp2_with fail
      refine (hm_new Av T cv (l ++ List.replicate j 0) w5 _ 1 [⟨B, m, d, t⟩] t rfl rfl (HA'.out.below hb5) HLB2.out (by omega) (PcsOk.one (HT.out.below hb5)) (glue_one _ _ _ _) (by omega) (by rw [HTl.out]; omega) HTb.out).mono ?_
      rintro e w6 ⟨rfl, hb6⟩
      rw [HZZ.out, HD.out]
      go_wp2_with (first
        | (refine wpList_eql_arr rfl 24 _ _ _ rfl 5 32 .u8 Tryd.underlying24 Tryd.underlying5 infoB1 eqGuard32 D HDl.out rfl rfl ?_)
        | fail)
      go_ret
      exact ⟨rfl, HB1.out.trans ((HB.out.trans ((hb5.trans (hb6.mono hb5.size)).mono HB.out.size)).mono HB1.out.size)⟩
end Go.Proofs.YtkcmemhoabadaaaDoor
