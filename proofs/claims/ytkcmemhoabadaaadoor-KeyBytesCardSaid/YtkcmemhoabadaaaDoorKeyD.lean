/-
  Layer 5: the law KeyBytes, walked.
-/
import Derived.Test.YtkcmemhoabadaaaDoorKeyC
namespace Go.Proofs.YtkcmemhoabadaaaDoor
open Go.RowKit

theorem tok_wrap64 (x : Int) : IntKind.u64.wrap (tokN x) = tokN x := by rw [IntKind.wrap_u64]; have := tok_bd x; omega
set_option maxRecDepth 100000 in
set_option maxHeartbeats 1000000 in
theorem keyBytes_walk (x : Int) (w : World) (h0 : 0 ≤ x) (h1 : x < 18446744073709551616) :
    Calls Tryd.prog 7 #[.int .u64 x] w fun e w' => e = .returned (.bool true) ∧ Below w.heap.size w w' := by
  have H0 := Keep.mk h0
  have H1 := Keep.mk h1
  clear h0 h1
  go_enter Tryd.func7, Tryd.ntmps7
  go_wp2_with fail
  refine (wakes05_any w).mono ?_
  rintro e w1 ⟨rfl, hb1⟩
  have HB1 := Lib.hid hb1
  clear hb1
  go_wp2_with fail
  refine (put8_any none 0 0 8 x [] w1 (Arg.nil _ _ _) (by omega) (by omega) (by omega) H0.out H1.out).mono ?_
  rintro e w2 ⟨rfl, hr2, hb2⟩
  have HA2 := Keep.mk (Arg.row (t := 5) (fr := (0, 0)) (l := beB x 8) hr2 (0 + 8) (by rw [beB_length]) (by decide))
  have HB2 := Lib.hid (HB1.out.trans (hb2.mono HB1.out.size))
  clear hr2 hb2 HB1
  go_wp2_with fail
  refine (of_new w2 _ 1 [⟨some ⟨w1.heap.size, 0, none⟩, 0 + 8, 0 + 8, beB x 8⟩] (beB x 8) rfl rfl (PcsOk.one HA2.out) (by simp [glue]) (by omega) (by rw [beB_length]; omega) (beB_byte x 8)).mono ?_
  rintro e w3 ⟨rfl, hb3⟩
  have HT : Keep (beN ((digB (beB x 8)).take 4) = tokN x) := ⟨rfl⟩
  obtain ⟨D, hD⟩ : ∃ D, digB (beB x 8) = D := ⟨_, rfl⟩
  have hDb : ∀ z ∈ D, 0 ≤ z ∧ z ≤ 255 := by rw [← hD]; exact digB_byte' _
  have hDl : D.length = 32 := by rw [← hD, digB_length]
  rw [hD] at HT ⊢
  have HDb := Lib.hid hDb
  have HDl := Keep.mk hDl
  have HB3 := Lib.hid (HB2.out.trans (hb3.mono HB2.out.size))
  have H32 : Hid ((Tryd.prog.info? 24).map (·.size) = some (bArr D).size) := Lib.hid (by rw [bArr_size, hDl]; exact infoA32)
  have HSz : Hid ((bArr (List.replicate 32 0)).size = (bArr D).size) := Lib.hid (by rw [bArr_size, bArr_size, hDl]; rfl)
  have hA : Keep ((w3.alloc (.cells (bArr (List.replicate 32 0)) 24)).heap[w3.heap.size]? = some (.cells (bArr (List.replicate 32 0)) 24 (0, 0))) := ⟨heap_alloc_new _ _⟩
  clear hD hDb hDl hb3 HA2 HB2
  go_wp2_with (first
    | (refine wpList_store_row rfl 24 _ _ rfl w3.heap.size 24 (bArr (List.replicate 32 0)) (bArr D) rfl rfl hA.out H32.out HSz.out (bArr_one _) ?_)
    | fail)
  have hB : ((w3.alloc (.cells (bArr (List.replicate 32 0)) 24)).setRow w3.heap.size (bArr D)).heap[w3.heap.size]? = some (.cells (bArr D) 24 (0, 0)) := setRow_heap _ _ _ _ _ _ hA.out
  have hb4 : Below w3.heap.size w3 ((w3.alloc (.cells (bArr (List.replicate 32 0)) 24)).setRow w3.heap.size (bArr D)) := below_setRow ((Below.refl _ w3).alloc (Nat.le_refl _) _) (Nat.le_refl _) _
  change Calls _ _ _ ((w3.alloc (.cells (bArr (List.replicate 32 0)) 24)).setRow w3.heap.size (bArr D)) _
  generalize (w3.alloc (.cells (bArr (List.replicate 32 0)) 24)).setRow w3.heap.size (bArr D) = w4 at *
  have HRow := Keep.mk (Arg.row hB 32 HDl.out (by decide))
  have HB4 := Lib.hid (HB3.out.trans (hb4.mono HB3.out.size))
  clear hB hb4 hA HB3 H32 HSz
  refine (take_any _ 32 32 4 D w4 HRow.out (by omega) (by omega) (by omega) (by omega) HDb.out).mono ?_
  rintro e w5 ⟨A5, c5, rfl, _, hb5⟩
  rw [HT.out]
  have HB5 := Lib.hid (HB4.out.trans (hb5.mono HB4.out.size))
  clear hb5
  go_wp2_with fail
  refine (token_any x w5 H0.out H1.out).mono ?_
  rintro e w6 ⟨rfl, hb6⟩
  have HB6 := Lib.hid (HB5.out.trans (hb6.mono HB5.out.size))
  clear hb6
  have hw := tok_wrap64 x
  have ht : (tokN x == tokN x) = true := by simp
  go_wp2_with fail
  go_ret
  exact ⟨rfl, HB6.out⟩
end Go.Proofs.YtkcmemhoabadaaaDoor
