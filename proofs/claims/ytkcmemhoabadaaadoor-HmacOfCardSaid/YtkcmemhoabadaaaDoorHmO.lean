/-
  Layer 4: the law HmacOf, walked.
-/
import Derived.Test.YtkcmemhoabadaaaDoorHmR
import Derived.Test.YtkcmemhoabadaaaDoorHmJ
import Derived.Laws.OwnMore
namespace Go.Proofs.YtkcmemhoabadaaaDoor
open Go.RowKit

set_option maxRecDepth 100000 in
set_option maxHeartbeats 2000000 in
theorem hmacOf_walk (A : Option Addr) (n c : Nat) (l : List Int) (B : Option Addr) (m d : Nat) (t : List Int) (w : World) (ha : Arg w 1 encB A n c l) (hl : ∀ z ∈ l, 0 ≤ z ∧ z ≤ 255) (hb : Arg w 1 encB B m d t) (ht : ∀ z ∈ t, 0 ≤ z ∧ z ≤ 255) :
    Calls Tryd.prog 8 #[.slice A n c, .slice B m d] w fun e w' => e = .returned (.bool true) ∧ Below w.heap.size w w' := by
  have HA := Keep.mk ha
  have HBt := Keep.mk hb
  have HLb := Lib.hid hl
  have HTb := Lib.hid ht
  have hc1 := ha.hcap
  have hm1 := ha.hmax
  have hc2 := hb.hcap
  have hm2 := hb.hmax
  have HLl := Keep.mk ha.hlen
  have HTl := Keep.mk hb.hlen
  unfold maxLen at hm1 hm2
  clear ha hl hb ht
  by_cases h300 : 300 < n
  · go_enter Tryd.func8, Tryd.ntmps8
    go_wp2_with (go_at_call 22; refine (wakes04_any _).mono ?_; rintro e w1 ⟨rfl, hb1⟩)
    go_ret
    exact ⟨rfl, hb1⟩
  by_cases h500 : 500 < m
  · go_enter Tryd.func8, Tryd.ntmps8
    go_wp2_with (go_at_call 22; refine (wakes04_any _).mono ?_; rintro e w1 ⟨rfl, hb1⟩)
    go_ret
    exact ⟨rfl, hb1⟩
  go_enter Tryd.func8, Tryd.ntmps8
  go_wp2_with (first
    | (go_at_call 22; refine (wakes04_any _).mono ?_; rintro e w1 ⟨rfl, hb1⟩; have HB1 := Keep.mk hb1; have HA1 := Keep.mk (HA.out.below hb1); have HT1 := Keep.mk (HBt.out.below hb1); clear hb1)
    | (refine wpList_append_came rfl (.tmp 18) (.tmp 19) 22 rfl Tryd.underlying22 w1.heap.size (.slice (some ⟨w1.heap.size, 0, none⟩) 0 0) 0 [] rfl (World.ownsRow_lit w1 #[] 0 (Nat.le_refl _) (by decide) rfl) A n c l rfl (HA1.out.alloc _) (by omega) (by omega) (by simp) w1 ((Below.refl _ w1).alloc (Nat.le_refl _) _) ?_
       intro v2 w2 hown2 hb2
       obtain ⟨A2, c2, rfl, ha2⟩ := Arg.of_own (by decide) encB_length hown2
       rw [List.nil_append, Nat.zero_add] at ha2
       rw [Nat.zero_add]
       have HK2 := Keep.mk ha2
       have HB2 := Keep.mk (HB1.out.trans (hb2.mono HB1.out.size))
       have HA2 := Keep.mk (HA1.out.below hb2)
       have HT2 := Keep.mk (HT1.out.below hb2)
       clear hown2 hb2 ha2)
    | (refine wpList_append_came rfl (.tmp 21) (.tmp 22) 22 rfl Tryd.underlying22 w2.heap.size (.slice (some ⟨w2.heap.size, 0, none⟩) 0 0) 0 [] rfl (World.ownsRow_lit w2 #[] 0 (Nat.le_refl _) (by decide) rfl) B m d t rfl (HT2.out.alloc _) (by omega) (by omega) (by simp) w2 ((Below.refl _ w2).alloc (Nat.le_refl _) _) ?_
       intro v3 w3 hown3 hb3
       obtain ⟨A3, c3, rfl, ha3⟩ := Arg.of_own (by decide) encB_length hown3
       rw [List.nil_append, Nat.zero_add] at ha3
       rw [Nat.zero_add]
       have HT3' := Keep.mk ha3
       have HB3 := Keep.mk (HB2.out.trans (hb3.mono HB2.out.size))
       have HA3 := Keep.mk (HA2.out.below hb3)
       have HT3 := Keep.mk (HT2.out.below hb3)
       have HK3 := Keep.mk (HK2.out.below hb3)
       clear hown3 hb3 ha3)
    | fail)
  refine (hm_new A2 n c2 l w3 _ 1 [⟨A3, m, c3, t⟩] t rfl rfl HK3.out HLb.out (by omega) (PcsOk.one HT3'.out) (glue_one _ _ _ _) (by omega) (by rw [HTl.out]; omega) HTb.out).mono ?_
  rintro e w4 ⟨rfl, hb4⟩
  obtain ⟨D, hD⟩ : ∃ D, hmB l t = D := ⟨_, rfl⟩
  have HD := Keep.mk hD
  have hDl : D.length = 32 := by rw [← hD, hmB_length]
  rw [hD]
  have HDl := Keep.mk hDl
  have HB4 := Keep.mk (HB3.out.trans (hb4.mono HB3.out.size))
  have HA4 := Keep.mk (HA3.out.below hb4)
  have HT4 := Keep.mk (HT3.out.below hb4)
  have HK4 := Keep.mk (HK3.out.below hb4)
  have HT4' := Keep.mk (HT3'.out.below hb4)
  have H32 : Hid ((Tryd.prog.info? 24).map (·.size) = some (bArr D).size) := Lib.hid (by rw [bArr_size, hDl]; exact infoA32)
  have HSz : Hid ((bArr (List.replicate 32 0)).size = (bArr D).size) := Lib.hid (by rw [bArr_size, bArr_size, hDl]; rfl)
  have hA : Keep ((w4.alloc (.cells (bArr (List.replicate 32 0)) 24)).heap[w4.heap.size]? = some (.cells (bArr (List.replicate 32 0)) 24 (0, 0))) := ⟨heap_alloc_new _ _⟩
  clear hD hDl hb4 HA1 HA2 HA3 HT1 HT2 HT3 HT3' HK2 HK3 HB1 HB2 HB3
  go_wp2_with (first
    | (refine wpList_store_row rfl 24 _ _ rfl w4.heap.size 24 (bArr (List.replicate 32 0)) (bArr D) rfl rfl hA.out H32.out HSz.out (bArr_one _) ?_)
    | fail)
  have hB : ((w4.alloc (.cells (bArr (List.replicate 32 0)) 24)).setRow w4.heap.size (bArr D)).heap[w4.heap.size]? = some (.cells (bArr D) 24 (0, 0)) := setRow_heap _ _ _ _ _ _ hA.out
  have hb5 : Below w4.heap.size w4 ((w4.alloc (.cells (bArr (List.replicate 32 0)) 24)).setRow w4.heap.size (bArr D)) := below_setRow ((Below.refl _ w4).alloc (Nat.le_refl _) _) (Nat.le_refl _) _
  change Code.wp _ _ _ _ ((w4.alloc (.cells (bArr (List.replicate 32 0)) 24)).setRow w4.heap.size (bArr D))
  generalize (w4.alloc (.cells (bArr (List.replicate 32 0)) 24)).setRow w4.heap.size (bArr D) = w5 at *
  have HArr := Keep.mk (Arg.row hB 32 HDl.out (by decide))
  have HA5 := Keep.mk (HA4.out.below hb5)
  have HT5 := Keep.mk (HT4.out.below hb5)
  have HK5 := Keep.mk (HK4.out.below hb5)
  have HT5' := Keep.mk (HT4'.out.below hb5)
  have HB5 := Keep.mk (HB4.out.trans (hb5.mono HB4.out.size))
  clear hB hb5 hA HA4 HT4 HK4 HT4' HB4 H32 HSz
  go_region_held3 (fun W => Below w.heap.size w W) (first | with_reducible assumption | with_reducible exact HB5.out.drew | with_reducible exact below_drewN HB6 _)
    (first
      | (go_at_call 24; refine (refHm_any A n c l B m d t _ HA5.out.drew HLb.out (by omega) HT5.out.drew HTb.out (by omega)).mono ?_; rintro e w6 ⟨A6, c6, rfl, hA6, hb6⟩; have HR6 := Keep.mk hA6; have HArr6 := Keep.mk (HArr.out.drew.below hb6); have HA6 := Keep.mk (HA5.out.drew.below hb6); have HT6 := Keep.mk (HT5.out.drew.below hb6); have HK6 := Keep.mk (HK5.out.drew.below hb6); have HT6' := Keep.mk (HT5'.out.drew.below hb6); have HB6 := HB5.out.drew.trans (hb6.mono HB5.out.drew.size); rw [HD.out] at HR6; clear hA6 hb6)
      | (go_at_call 15; with_reducible refine (same_any _ _ t t m m _ _ _ HT8'.out HT8.out (by omega) (by omega)).mono ?_; rintro e w9 ⟨rfl, n9, rfl⟩; rw [decide_eq_true rfl])
      | (go_at_call 15; with_reducible refine (same_any _ _ l l n n _ _ _ HK7.out HA7.out (by omega) (by omega)).mono ?_; rintro e w8 ⟨rfl, n8, rfl⟩; rw [decide_eq_true rfl]; have HT8 := Keep.mk (HT6.out.drewN (n7 + n8)); have HT8' := Keep.mk (HT6'.out.drewN (n7 + n8)))
      | (go_at_call 15; with_reducible refine (same_any _ _ D D 32 32 _ _ _ HArr6.out HR6.out (by omega) (by omega)).mono ?_; rintro e w7 ⟨rfl, n7, rfl⟩; rw [decide_eq_true rfl]; have HA7 := Keep.mk (HA6.out.drewN n7); have HT7 := Keep.mk (HT6.out.drewN n7); have HK7 := Keep.mk (HK6.out.drewN n7); have HT7' := Keep.mk (HT6'.out.drewN n7))
      | fail)
  go_wp2_with fail
  go_ret
  exact ⟨rfl, below_drewN HB6 _⟩
end Go.Proofs.YtkcmemhoabadaaaDoor
