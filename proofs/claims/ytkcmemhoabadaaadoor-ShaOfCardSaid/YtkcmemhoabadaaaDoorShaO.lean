/-
  The law ShaOf, walked: any bytes have the digest that the document says.
-/
import Derived.Test.YtkcmemhoabadaaaDoorRefE
import Derived.Test.YtkcmemhoabadaaaDoorShaE
import Derived.Laws.OwnMore
namespace Go.Proofs.YtkcmemhoabadaaaDoor
open Go.RowKit

set_option maxRecDepth 100000 in
set_option maxHeartbeats 2000000 in
theorem shaOf_walk (A : Option Addr) (n c : Nat) (l : List Int) (w : World) (ha : Arg w 1 encB A n c l) (hby : ∀ z ∈ l, 0 ≤ z ∧ z ≤ 255) :
    Calls Tryd.prog 3 #[.slice A n c] w fun e w' => e = .returned (.bool true) ∧ Below w.heap.size w w' := by
  obtain ⟨i0, hi, hz0, hz1, hz2⟩ := info_parts infoB
  have haH := Lib.hid ha
  have hbyH := Lib.hid hby
  have hcap := ha.hcap
  have hmax := ha.hmax
  have HLen := Keep.mk ha.hlen
  unfold maxLen at hmax
  clear ha hby
  by_cases hbig : 1000 < n
  · go_enter Tryd.func3, Tryd.ntmps3
    go_wp2_with (go_at_call 13; refine (wakes03_any _).mono ?_; rintro e w1 ⟨rfl, hb1⟩)
    go_ret
    exact ⟨rfl, hb1⟩
  go_enter Tryd.func3, Tryd.ntmps3
  go_wp2_with (first
    | (go_at_call 13; refine (wakes03_any _).mono ?_; rintro e w1 ⟨rfl, hb1⟩; have ha1 := Keep.mk ((haH.out.below hb1).alloc (.cells #[] 5)))
    | (refine wpList_append_rd rfl (.tmp 10) (.tmp 11) 22 rfl w1.heap.size 5 i0 (.int .u8 0) 1 1 Tryd.underlying22 hi hz0 hz1 hz2 rfl (by decide) (.slice (some ⟨w1.heap.size, 0, none⟩) 0 0) 0 [] rfl (World.ownsRow_lit w1 #[] 0 (Nat.le_refl _) (by decide) rfl) A n c _ encB l rfl ha1.out.hnil ha1.out.hlen encB_length ha1.out.rd encBOne (by simp only [maxLen]; omega) (by omega) (by simp) ?_
       intro v2 w2 hown2 hgr2 hat2
       have hb2 : Below w1.heap.size w1 w2 := ((Below.refl _ w1).alloc (Nat.le_refl _) _).grown hgr2 (by simp) (fun j e => (by simp [Value.ownBlock] at e; omega))
       rw [List.nil_append, Nat.zero_add] at hown2
       obtain ⟨A2, c2, rfl, ha2⟩ := Arg.of_own (by decide) encB_length hown2
       have HA2 := Keep.mk ha2
       clear hgr2 hat2 hown2 ha2)
    | fail)
  have HB2 := Lib.hid (hb1.trans (hb2.mono hb1.size))
  have haW2 := Keep.mk ((haH.out.below hb1).below hb2)
  clear hb1 hb2 ha1
  refine (of_new w2 _ 1 [⟨A2, n, c2, l⟩] l rfl rfl (PcsOk.one HA2.out) (by simp [glue]) (by omega) (by have := HLen.out; omega) hbyH.out).mono ?_
  rintro e w3 ⟨rfl, hb3⟩
  obtain ⟨D, hD⟩ : ∃ D, digB l = D := ⟨_, rfl⟩
  have HD := Keep.mk hD
  rw [hD]
  have hl : D.length = 32 := by rw [← hD, digB_length]
  have HL := Keep.mk hl
  have H32 : Hid ((Tryd.prog.info? 24).map (·.size) = some (bArr D).size) := Lib.hid (by rw [bArr_size, hl]; exact infoA32)
  have HSz : Hid ((bArr (List.replicate 32 0)).size = (bArr D).size) := Lib.hid (by rw [bArr_size, bArr_size, hl]; rfl)
  have hA : Keep ((w3.alloc (.cells (bArr (List.replicate 32 0)) 24)).heap[w3.heap.size]? = some (.cells (bArr (List.replicate 32 0)) 24 (0, 0))) := ⟨heap_alloc_new _ _⟩
  have HB3 := Lib.hid (HB2.out.trans (hb3.mono HB2.out.size))
  have haW3 := Keep.mk (haW2.out.below hb3)
  have HA3 := Keep.mk (HA2.out.below hb3)
  clear hD hl hb3 haW2 HA2 HB2
  go_wp2_with (first
    | (refine wpList_store_row rfl 24 _ _ rfl w3.heap.size 24 (bArr (List.replicate 32 0)) (bArr D) rfl rfl hA.out H32.out HSz.out (bArr_one _) ?_)
    | fail)
  have hB : ((w3.alloc (.cells (bArr (List.replicate 32 0)) 24)).setRow w3.heap.size (bArr D)).heap[w3.heap.size]? = some (.cells (bArr D) 24 (0, 0)) := setRow_heap _ _ _ _ _ _ hA.out
  have hb4 : Below w3.heap.size w3 ((w3.alloc (.cells (bArr (List.replicate 32 0)) 24)).setRow w3.heap.size (bArr D)) := below_setRow ((Below.refl _ w3).alloc (Nat.le_refl _) _) (Nat.le_refl _) _
  change Code.wp _ _ _ _ ((w3.alloc (.cells (bArr (List.replicate 32 0)) 24)).setRow w3.heap.size (bArr D))
  generalize (w3.alloc (.cells (bArr (List.replicate 32 0)) 24)).setRow w3.heap.size (bArr D) = w4 at *
  have HArr := Keep.mk (Arg.row hB 32 HL.out (by decide))
  have haW4 := Keep.mk (haW3.out.below hb4)
  have HA4 := Keep.mk (HA3.out.below hb4)
  have HB4 := Lib.hid (HB3.out.trans (hb4.mono HB3.out.size))
  clear hB hb4 hA haW3 HA3 HB3 H32 HSz
  go_region_held3 (fun W => Below w.heap.size w W) (first | with_reducible assumption | with_reducible exact HB4.out.drew | with_reducible exact below_drewN HB5 _)
    (first
      | (go_at_call 16; refine (refOf_any A n c l _ haW4.out.drew hbyH.out (by omega)).mono ?_; rintro e w5 ⟨A5, c5, rfl, hA5, hb5⟩; have HA5 := Keep.mk hA5; have HArr5 := Keep.mk (HArr.out.drew.below hb5); have haW5 := Keep.mk (haW4.out.drew.below hb5); have HA5' := Keep.mk (HA4.out.drew.below hb5); have HB5 := HB4.out.drew.trans (hb5.mono HB4.out.drew.size); rw [HD.out] at HA5; clear hA5 hb5)
      | (go_at_call 15; refine (same_any _ _ l l n n _ _ _ HA6.out haW6.out (by omega) (by omega)).mono ?_; rintro e w7 ⟨rfl, n7, rfl⟩; rw [decide_eq_true rfl])
      | (go_at_call 15; refine (same_any _ _ D D 32 32 _ _ _ HArr5.out HA5.out (by omega) (by omega)).mono ?_; rintro e w6 ⟨rfl, n6, rfl⟩; rw [decide_eq_true rfl]; have HB6 := below_drewN HB5 n6; have HA6 := Keep.mk (HA5'.out.drewN n6); have haW6 := Keep.mk (haW5.out.drewN n6))
      | fail)
  go_wp2_with fail
  go_ret
  exact ⟨rfl, below_drewN HB5 _⟩
end Go.Proofs.YtkcmemhoabadaaaDoor
