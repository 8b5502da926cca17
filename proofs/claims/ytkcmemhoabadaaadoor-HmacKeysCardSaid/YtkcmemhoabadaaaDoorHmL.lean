/-
  Layer 4: the law HmacKeys at a long key, walked; the law.
-/
import Derived.Test.YtkcmemhoabadaaaDoorHmK
namespace Go.Proofs.YtkcmemhoabadaaaDoor
open Go.RowKit

theorem eqArr_run (D : List Int) (hl : D.length = 32) (w : World) : (binOp .eql 24 (.agg (bArr D)) (.agg (bArr D))).run Tryd.prog w = .ok (.bool true) w :=
  run_eql_arr 24 5 32 .u8 Tryd.underlying24 Tryd.underlying5 infoB1 D hl w
theorem eqIn_run (D : List Int) (hl : D.length = 32) (w : World) : (Op.equalIn 10000 24 (.agg (bArr D)) (.agg (bArr D))).run Tryd.prog w = .ok true w := by
  rw [show (10000 : Nat) = 9998 + 1 + 1 from rfl]
  exact run_equalIn_arr 9998 24 5 32 .u8 Tryd.underlying24 Tryd.underlying5 infoB1 D hl w

set_option maxRecDepth 100000 in
set_option maxHeartbeats 2000000 in
theorem hmacKeys_long (A : Option Addr) (n c : Nat) (l : List Int) (B : Option Addr) (m d : Nat) (t : List Int) (z : Int) (w : World) (ha : Arg w 1 encB A n c l) (hl : ∀ z ∈ l, 0 ≤ z ∧ z ≤ 255) (hb : Arg w 1 encB B m d t) (ht : ∀ z ∈ t, 0 ≤ z ∧ z ≤ 255) (h64 : 64 < n) (h3 : n ≤ 300) (h300 : m ≤ 300) :
    Calls Tryd.prog 9 #[.slice A n c, .slice B m d, .int .u8 z] w fun e w' => e = .returned (.bool true) ∧ Below w.heap.size w w' := by
  have HA := Keep.mk ha
  have HBt := Keep.mk hb
  have HLb := Lib.hid hl
  have HTb := Lib.hid ht
  have hc1 := ha.hcap
  have hc2 := hb.hcap
  have HLl := Keep.mk ha.hlen
  have HTl := Keep.mk hb.hlen
  clear ha hl hb ht
  go_enter Tryd.func9, Tryd.ntmps9
  go_wp2_with (go_at_call 22; refine (wakes04_any _).mono ?_; rintro e w1 ⟨rfl, hb1⟩; have HB1 := Keep.mk hb1; have HA1 := Keep.mk (HA.out.below hb1); have HT1 := Keep.mk (HBt.out.below hb1); clear hb1)
  refine (of_new w1 _ 1 [⟨A, n, c, l⟩] l rfl rfl (PcsOk.one HA1.out) (by simp [glue]) (by omega) (by rw [HLl.out]; omega) HLb.out).mono ?_
  rintro e w4 ⟨rfl, hb4⟩
  have hlong : hmB (digB l) t = hmB l t := hmB_long l t (by rw [HLl.out]; omega)
  obtain ⟨E, hE⟩ : ∃ E, digB l = E := ⟨_, rfl⟩
  have hEl : E.length = 32 := by rw [← hE, digB_length]
  have hEb : ∀ z ∈ E, 0 ≤ z ∧ z ≤ 255 := by rw [← hE]; exact digB_byte _
  rw [hE] at hlong ⊢
  have HEl := Keep.mk hEl
  have HEb := Lib.hid hEb
  have HB4 := Keep.mk (HB1.out.trans (hb4.mono HB1.out.size))
  have HA4 := Keep.mk (HA1.out.below hb4)
  have HT4 := Keep.mk (HT1.out.below hb4)
  have H32 : Hid ((Tryd.prog.info? 24).map (·.size) = some (bArr E).size) := Lib.hid (by rw [bArr_size, hEl]; exact infoA32)
  have HSz : Hid ((bArr (List.replicate 32 0)).size = (bArr E).size) := Lib.hid (by rw [bArr_size, bArr_size, hEl]; rfl)
  have hA : Keep ((w4.alloc (.cells (bArr (List.replicate 32 0)) 24)).heap[w4.heap.size]? = some (.cells (bArr (List.replicate 32 0)) 24 (0, 0))) := ⟨heap_alloc_new _ _⟩
  obtain ⟨D, hD⟩ : ∃ D, hmB l t = D := ⟨_, rfl⟩
  have hDl : D.length = 32 := by rw [← hD, hmB_length]
  rw [hD] at hlong
  have HD := Keep.mk hD
  have HDE := Keep.mk hlong
  have hEq := eqArr_run D hDl
  have hEq2 := eqIn_run D hDl
  have HEq := Keep.mk hEq
  have HEq2 := Keep.mk hEq2
  clear hE hEl hEb hb4 hD hDl hlong hEq hEq2 HA1 HT1 HB1
  go_wp2_with (first
    | (refine wpList_store_row rfl 24 _ _ rfl w4.heap.size 24 (bArr (List.replicate 32 0)) (bArr E) rfl rfl hA.out H32.out HSz.out (bArr_one _) ?_)
    | fail)
  have hB : ((w4.alloc (.cells (bArr (List.replicate 32 0)) 24)).setRow w4.heap.size (bArr E)).heap[w4.heap.size]? = some (.cells (bArr E) 24 (0, 0)) := setRow_heap _ _ _ _ _ _ hA.out
  have hb5 : Below w4.heap.size w4 ((w4.alloc (.cells (bArr (List.replicate 32 0)) 24)).setRow w4.heap.size (bArr E)) := below_setRow ((Below.refl _ w4).alloc (Nat.le_refl _) _) (Nat.le_refl _) _
  change Code.wp _ _ _ _ ((w4.alloc (.cells (bArr (List.replicate 32 0)) 24)).setRow w4.heap.size (bArr E))
  generalize (w4.alloc (.cells (bArr (List.replicate 32 0)) 24)).setRow w4.heap.size (bArr E) = w5 at *
  have HArr := Keep.mk (Arg.row hB 32 HEl.out (by decide))
  have HA5 := Keep.mk (HA4.out.below hb5)
  have HT5 := Keep.mk (HT4.out.below hb5)
  have HB5 := Keep.mk (HB4.out.trans (hb5.mono HB4.out.size))
  clear hB hb5 hA HA4 HT4 HB4 H32 HSz
  have hm : (Tryd.prog.eqGuardType Tryd.prog.depth 24) = false := eqGuard32
  have hEq := HEq.out
  have hEq2 := HEq2.out
  go_region_held3 (fun W => Below w5.heap.size w5 W) (first | with_reducible assumption | with_reducible exact (Below.refl _ _).drew | with_reducible exact ((Below.refl _ w5).alloc (Nat.le_refl _) _).drew | exact (((Below.refl _ w5).alloc (Nat.le_refl _) _).alloc (by simp) _).drew | exact HW6.alloc HW6.size _ | exact HW7)
    (first
      | (go_at_call_of 23 (Value.slice (some ⟨w4.heap.size, 0, none⟩) 32 32)
         refine (hmOf_any (some ⟨w4.heap.size, 0, none⟩) 32 32 E _ 1 1 [⟨B, m, d, t⟩] _ (HArr.out.below (by with_reducible assumption)) HEb.out (by omega) ?row (PcsOk.one (HT5.out.below (by with_reducible assumption))) (by omega) (by rw [glue_one, HTl.out]; omega) (by rw [glue_one]; exact HTb.out)).mono ?_
         case row => first | exact Arg.new' w6 _ rfl 22 (0, 0) 1 encP encP_length [⟨B, m, d, t⟩] 1 rfl (by decide) | exact HRa.out | exact HRb.out
         rintro e w7 ⟨rfl, hb7⟩
         rw [glue_one, HDE.out]
         have HW7 : Below w5.heap.size w5 w7 := Below.trans (by with_reducible assumption) (hb7.mono (Below.size (by with_reducible assumption))))
      | (go_at_call_of 23 (Value.slice A n c)
         refine (hmOf_any A n c l _ 1 1 [⟨B, m, d, t⟩] _ (HA5.out.below (by with_reducible assumption)) HLb.out (by omega) ?row (PcsOk.one (HT5.out.below (by with_reducible assumption))) (by omega) (by rw [glue_one, HTl.out]; omega) (by rw [glue_one]; exact HTb.out)).mono ?_
         case row => first | exact (Arg.new' w5 _ rfl 22 (0, 0) 1 encP encP_length [⟨B, m, d, t⟩] 1 rfl (by decide)).drew | exact ((Arg.new' w5 _ rfl 22 (0, 0) 1 encP encP_length [⟨B, m, d, t⟩] 1 rfl (by decide)).alloc _).drew | exact (Arg.new' (w5.alloc _) (w5.heap.size + 1) (World.size_alloc _ _) 22 (0, 0) 1 encP encP_length [⟨B, m, d, t⟩] 1 rfl (by decide)).drew
         rintro e w6 ⟨rfl, hb6⟩
         rw [glue_one, HD.out]
         have HW6 : Below w5.heap.size w5 w6 := Below.trans (by with_reducible assumption) (hb6.mono (Below.size (by with_reducible assumption)))
         (try have HRa := Keep.mk ((((Arg.new' w5 _ rfl 22 (0, 0) 1 encP encP_length [⟨B, m, d, t⟩] 1 rfl (by decide)).alloc (.cells #[.slice B m d] 22)).drew).below hb6))
         (try have HRb := Keep.mk (((Arg.new' (w5.alloc (.cells #[.slice B m d] 22)) (w5.heap.size + 1) (World.size_alloc _ _) 22 (0, 0) 1 encP encP_length [⟨B, m, d, t⟩] 1 rfl (by decide)).drew).below hb6)))
      | fail)
  all_goals
    go_wp2_with fail
    go_ret
    exact ⟨rfl, HB5.out.trans (HW7.mono HB5.out.size)⟩

theorem hmacKeys_walk (A : Option Addr) (n c : Nat) (l : List Int) (B : Option Addr) (m d : Nat) (t : List Int) (z : Int) (w : World) (ha : Arg w 1 encB A n c l) (hl : ∀ z ∈ l, 0 ≤ z ∧ z ≤ 255) (hb : Arg w 1 encB B m d t) (ht : ∀ z ∈ t, 0 ≤ z ∧ z ≤ 255) (z0 : 0 ≤ z) (z1 : z ≤ 255) :
    Calls Tryd.prog 9 #[.slice A n c, .slice B m d, .int .u8 z] w fun e w' => e = .returned (.bool true) ∧ Below w.heap.size w w' := by
  by_cases h300 : 300 < n
  · have hc1 := ha.hcap
    have hm1 := ha.hmax
    have hc2 := hb.hcap
    have hm2 := hb.hmax
    unfold maxLen at hm1 hm2
    clear ha hl hb ht
    go_enter Tryd.func9, Tryd.ntmps9
    go_wp2_with (go_at_call 22; refine (wakes04_any _).mono ?_; rintro e w1 ⟨rfl, hb1⟩)
    go_ret
    exact ⟨rfl, hb1⟩
  by_cases h3 : 300 < m
  · have hc1 := ha.hcap
    have hm1 := ha.hmax
    have hc2 := hb.hcap
    have hm2 := hb.hmax
    unfold maxLen at hm1 hm2
    clear ha hl hb ht
    go_enter Tryd.func9, Tryd.ntmps9
    go_wp2_with (go_at_call 22; refine (wakes04_any _).mono ?_; rintro e w1 ⟨rfl, hb1⟩)
    go_ret
    exact ⟨rfl, hb1⟩
  by_cases h64 : n ≤ 64
  · exact hmacKeys_short A n c l B m d t z w ha hl hb ht z0 z1 h64 (by omega)
  · exact hmacKeys_long A n c l B m d t z w ha hl hb ht (by omega) (by omega) (by omega)
end Go.Proofs.YtkcmemhoabadaaaDoor
