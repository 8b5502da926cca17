/-
  The laws of layer 3, walked: wakes.
-/
import Derived.Test.YtkcmemhoabadaaaDoorArrEq
import Derived.Test.YtkcmemhoabadaaaDoorSame
import Derived.Test.YtkcmemhoabadaaaDoorShaLaw
import Derived.Laws.CopyOwn
import Derived.Lib.SlBytesConst
namespace Go.Proofs.YtkcmemhoabadaaaDoor
open Go.RowKit

set_option maxRecDepth 100000 in
set_option maxHeartbeats 1000000 in
theorem wakes03_any (w : World) : Calls Tryd.prog 13 #[] w fun e w' => e = .returned (.bool true) ∧ Below w.heap.size w w' := by
  have kc := fun (w : World) (C : Array Value) (n c : Nat) => Lib.run_convert_bytes_const (P := Tryd.prog) w 22 5 C n c Tryd.underlying22 Tryd.underlying5
  go_enter Tryd.func13, Tryd.ntmps13
  go_wp2_with fail
  have a1 := Arg.new' w _ rfl 5 (3, 4) 1 encB encB_length [97, 98, 99] 3 rfl (by decide)
  have a2 := Arg.new' (w.alloc (.cells ([97, 98, 99].flatMap encB).toArray 5 (3, 4))) (w.heap.size + 1) (World.size_alloc _ _) 22 (0, 0) 1 encP encP_length [⟨some ⟨w.heap.size, 0, none⟩, 3, 3, [97, 98, 99]⟩] 1 rfl (by decide)
  refine (of_any _ 1 1 _ _ a2 (fun p hp => ?_) (by omega) (show ([97, 98, 99] : List Int).length ≤ 100000 by decide) (show ∀ z ∈ ([97, 98, 99] : List Int), 0 ≤ z ∧ z ≤ 255 by decide)).mono ?_
  · simp only [List.mem_singleton] at hp
    subst hp
    exact a1.alloc _
  rintro e w1 ⟨rfl, hb1⟩
  have hb : Below w.heap.size w w1 := (((Below.refl _ w).alloc (Nat.le_refl _) _).alloc (by simp) _).trans (hb1.mono (by simp; omega))
  clear a1 a2 hb1
  rw [show glue [(⟨some ⟨w.heap.size, 0, none⟩, 3, 3, [97, 98, 99]⟩ : Pc)] = [97, 98, 99] from rfl]
  obtain ⟨D, hD⟩ : ∃ D, digB [97, 98, 99] = D := ⟨_, rfl⟩
  rw [hD]
  have hl : D.length = 32 := by rw [← hD, digB_length]
  have h4 : D.take 4 = [186, 120, 22, 191] := by rw [← hD, digB_abc]
  have H32 : Hid ((Tryd.prog.info? 24).map (·.size) = some (bArr D).size) := Lib.hid (by rw [bArr_size, hl]; exact infoA32)
  have HSz : Hid ((bArr (List.replicate 32 0)).size = (bArr D).size) := Lib.hid (by rw [bArr_size, bArr_size, hl]; rfl)
  have H4 := Lib.hid h4
  have HL := Lib.hid hl
  have hA : Keep ((w1.alloc (.cells (bArr (List.replicate 32 0)) 24)).heap[w1.heap.size]? = some (.cells (bArr (List.replicate 32 0)) 24 (0, 0))) := ⟨heap_alloc_new _ _⟩
  clear hD hl h4
  go_wp2_with (first
    | (refine wpList_store_row rfl 24 _ _ rfl w1.heap.size 24 (bArr (List.replicate 32 0)) (bArr D) rfl rfl hA.out H32.out HSz.out (bArr_one _) ?_)
    | fail)
  have hB : ((w1.alloc (.cells (bArr (List.replicate 32 0)) 24)).setRow w1.heap.size (bArr D)).heap[w1.heap.size]? = some (.cells (bArr D) 24 (0, 0)) := setRow_heap _ _ _ _ _ _ hA.out
  have hs1 : ((w1.alloc (.cells (bArr (List.replicate 32 0)) 24)).setRow w1.heap.size (bArr D)).heap.size = w1.heap.size + 1 := by rw [size_setRow, World.size_alloc]
  have hb2 : Below w1.heap.size w1 ((w1.alloc (.cells (bArr (List.replicate 32 0)) 24)).setRow w1.heap.size (bArr D)) := below_setRow ((Below.refl _ w1).alloc (Nat.le_refl _) _) (Nat.le_refl _) _
  change Calls _ _ _ (((w1.alloc (.cells (bArr (List.replicate 32 0)) 24)).setRow w1.heap.size (bArr D)).alloc _) _
  generalize (w1.alloc (.cells (bArr (List.replicate 32 0)) 24)).setRow w1.heap.size (bArr D) = w2 at *
  have a1 : Arg w2 1 encB (some ⟨w1.heap.size, 0, none⟩) 4 32 (D.take 4) := (Arg.row hB 32 HL.out (by decide)).take (by omega)
  rw [H4.out] at a1
  have a2 := Arg.new' w2 _ hs1 5 (0, 0) 1 encB encB_length [186, 120, 22, 191] 4 rfl (by decide)
  refine (same_any _ _ [186, 120, 22, 191] [186, 120, 22, 191] 4 4 32 4 _ (a1.alloc _) a2 (by omega) (by omega)).mono ?_
  rintro e w3 ⟨rfl, nn, rfl⟩
  go_wp2_with fail
  go_ret
  exact ⟨rfl, below_drewN ((hb.trans (hb2.mono hb.size)).alloc (Nat.le_trans hb.size hb2.size) _) _⟩

theorem eqGuard32 : Tryd.prog.eqGuardType Tryd.prog.depth 24 = false := by kernel_rfl
theorem infoB1 : (Tryd.prog.info? 5).map (·.size) = some 1 := by kernel_rfl

set_option maxRecDepth 100000 in
set_option maxHeartbeats 2000000 in
theorem shaJoins_walk (A : Option Addr) (n ca : Nat) (ps : List Pc) (w : World) (ha : Arg w 1 encP A n ca ps) (hok : PcsOk w ps) (hby : ∀ z ∈ glue ps, 0 ≤ z ∧ z ≤ 255) :
    Calls Tryd.prog 4 #[.slice A n ca] w fun e w' => e = .returned (.bool true) ∧ Below w.heap.size w w' := by
  obtain ⟨i0, hi, hz0, hz1, hz2⟩ := info_parts infoB
  have hokH := Lib.hid hok
  have haH := Lib.hid ha
  have hbyH := Lib.hid hby
  have hcap := ha.hcap
  have hmax := ha.hmax
  unfold maxLen at hmax
  clear hok ha hby
  by_cases h30 : 30 < n
  · go_enter Tryd.func4, Tryd.ntmps4
    go_wp2_with (go_at_call 13; refine (wakes03_any _).mono ?_; rintro e w1 ⟨rfl, hb1⟩)
    go_ret
    exact ⟨rfl, hb1⟩
  go_enter Tryd.func4, Tryd.ntmps4
  go_wp2_with (go_at_call 13; refine (wakes03_any _).mono ?_; rintro e w1 ⟨rfl, hb1⟩)
  have HB1 := Lib.hid hb1
  clear hb1
  go_loopw [3, 4, 12] (fun v _ i wr => ∃ k m : Nat, k ≤ n ∧ m ≤ 100 * k ∧ Keep (m = (glue (ps.take k)).length) ∧ i = .int .i64 k ∧ wr.ownsRow w1.heap.size 5 1 v m ((glue (ps.take k)).flatMap encB) ∧ Below w1.heap.size w1 wr) (fun _ _ i _ => n - (intOf i).toNat)
  case atStart => exact ⟨0, 0, by omega, by omega, ⟨rfl⟩, rfl, World.ownsRow_nil _ _ _ _, Below.refl _ _⟩
  case round =>
    obtain ⟨k, m, hk, hm, hmg, rfl, hown, hb⟩ := hrel
    have haK : Arg wr 1 encP A n ca ps := (haH.out.below HB1.out).below (hb.mono (Nat.le_refl _))
    have hokK : PcsOk wr ps := (hokH.out.below HB1.out).below hb
    have HAK := Lib.hid haK
    have HOK := Lib.hid hokK
    have hlen := haK.hlen
    have HLen := Keep.mk hlen
    by_cases hlt : k < n
    · have hkl : k < ps.length := by omega
      obtain ⟨b, off, rfl, hbl, hc⟩ := haK.rd.pc (List.ne_nil_of_length_pos (by omega))
      have c0 := hc k hkl
      clear hc haK
      have hp := hokK ps[k] (List.getElem_mem hkl)
      have hpl := hp.hlen
      have hpc := hp.hcap
      have hpm := hp.hmax
      unfold maxLen at hpm
      have hsn := glue_snoc hkl
      have hsnH := Keep.mk hsn
      have hpH := Lib.hid hp
      have hpn := Lib.hid hp.hnil
      have hplH := Keep.mk hpl
      clear hsn hp hpl hokK hlen
      by_cases hbig : 100 < (ps[k]).n
      · go_wp2_with fail
        go_ret
        exact ⟨rfl, HB1.out.trans (hb.mono HB1.out.size)⟩
      · go_wp2_with (at_builtin; go_loud (refine wpList_append_rd rfl _ _ 22 rfl w1.heap.size 5 i0 (.int .u8 0) 1 1 Tryd.underlying22 hi hz0 hz1 hz2 rfl (by decide) u3 m _ rfl hown ps[k].A ps[k].n ps[k].c _ encB ps[k].l rfl hpn.out hplH.out encB_length hpH.out.rd encBOne (by simp only [maxLen]; omega) (by omega) hb.size ?_); intro v1 w2 hown1 hgrow1 hat1)
        have HO := Lib.hid hown1
        have HG := Lib.hid hgrow1
        clear hown1 hgrow1 hat1
        go_roundw
        case rel =>
          refine ⟨k + 1, m + ps[k].n, by omega, by omega, ⟨?_⟩, by go_num, ?_, hb.grown HG.out hb.size (fun j e => (hown.lt j e).1)⟩
          · rw [hsnH.out, List.length_append, ← hmg.out, hplH.out]
          · rw [hsnH.out, List.flatMap_append]
            exact HO.out
        case measure => simp [intOf]; omega
    · have hkk : k = n := by omega
      have hfull : ps.take k = ps := List.take_of_length_le (by omega)
      rw [hfull] at hmg hown
      obtain ⟨A', c', rfl, ha'⟩ := Arg.of_own (by decide) encB_length hown
      have HA' := Lib.hid ha'
      have hm3 : (glue ps).length ≤ 3000 := by have := hmg.out; omega
      have HO := Lib.hid hown
      have hB := Lib.hid hb
      clear ha' hown hb haK hokK hlen hfull hkk
      go_wp2_with fail
      refine (of_any A n ca ps wr HAK.out HOK.out (by omega) (by omega) hbyH.out).mono ?_
      rintro e w2 ⟨rfl, hb2⟩
      obtain ⟨D, hD⟩ : ∃ D, digB (glue ps) = D := ⟨_, rfl⟩
      have HD := Keep.mk hD
      have hDl : D.length = 32 := by rw [← hD, digB_length]
      have HDl := Keep.mk hDl
      rw [hD]
      clear hD hDl
      go_wp2_with fail
      have hp2 : Arg (w2.alloc (.cells #[.slice A' m c'] 22)) 1 encB A' m c' (glue ps) := (HA'.out.below hb2).alloc _
      refine (of_any (some ⟨w2.heap.size, 0, none⟩) 1 1 [⟨A', m, c', glue ps⟩] _ (Arg.new' w2 _ rfl 22 (0, 0) 1 encP encP_length [⟨A', m, c', glue ps⟩] 1 rfl (by decide)) (PcsOk.one hp2) (by omega) ?_ ?_).mono ?_
      · rw [show glue [(⟨A', m, c', glue ps⟩ : Pc)] = glue ps from by simp [glue]]; omega
      · rw [show glue [(⟨A', m, c', glue ps⟩ : Pc)] = glue ps from by simp [glue]]; exact hbyH.out
      rintro e w3 ⟨rfl, hb3⟩
      rw [show glue [(⟨A', m, c', glue ps⟩ : Pc)] = glue ps from by simp [glue], HD.out]
      go_wp2_with (first
        | (refine wpList_eql_arr rfl 24 _ _ _ rfl 5 32 .u8 Tryd.underlying24 Tryd.underlying5 infoB1 eqGuard32 D HDl.out rfl rfl ?_)
        | fail)
      go_ret
      exact ⟨rfl, HB1.out.trans ((hB.out.trans ((hb2.trans ((((Below.refl _ w2).alloc (Nat.le_refl _) _).trans (hb3.mono (by simp))).mono hb2.size)).mono hB.out.size)).mono HB1.out.size)⟩
end Go.Proofs.YtkcmemhoabadaaaDoor
