/-
  The reference of layer 3: the words of a block.
-/
import Derived.Deep.RegionHeld3
import Derived.Deep.RegionLaw
import Derived.IntWalk
import Derived.Test.YtdmmcgcglkblhaaDoorRefA
namespace Go.Proofs.YtdmmcgcglkblhaaDoor
open Go.RowKit

theorem u32_wrap (x : W32) : IntKind.u32.wrap (wv x) = wv x := by rw [IntKind.wrap_u32]; have := wv_lo x; have := wv_hi x; omega
theorem byte_wv {p : List Int} (hb : ∀ z ∈ p, 0 ≤ z ∧ z ≤ 255) (i : Nat) (hi : i < p.length) : wv (BitVec.ofInt 32 (p.getD i 0)) = p[i] := by
  rw [getD_of_lt hi]
  have := hb _ (List.getElem_mem hi)
  exact wv_ofInt (by omega) (by omega)

set_option maxRecDepth 100000 in
set_option maxHeartbeats 2000000 in
theorem schedule_any (A : Option Addr) (c : Nat) (p : List Int) (w : World) (ha : Arg w 1 encB A 64 c p) (hall : ∀ z ∈ p, 0 ≤ z ∧ z ≤ 255) :
    Calls Tryd.prog 68 #[.slice A 64 c] w fun e w' => ∃ A' c', e = .returned (.slice A' 64 c') ∧ Arg w' 1 encW A' 64 c' (rsch p 64) ∧ Below w.heap.size w w' := by
  obtain ⟨i0, hi, hz0, hz1, hz2⟩ := info_parts infoW
  obtain ⟨b, off, rfl, hbl, hcel⟩ := ha.rd.byte (List.ne_nil_of_length_pos (by rw [ha.hlen]; omega))
  have hpl := ha.hlen
  have HPL := Keep.mk hpl
  have HC := Lib.hid hcel
  have HAll := Lib.hid hall
  clear hcel hall hpl ha
  go_enter Tryd.func68, Tryd.ntmps68
  go_wp2
  go_loopw [3, 4] (fun v i wr => ∃ k : Nat, k ≤ 64 ∧ i = .int .i64 k ∧ wr.ownsRow w.heap.size 30 1 v k ((rsch p k).flatMap encW) ∧ Below w.heap.size w wr) (fun _ i _ => 64 - (intOf i).toNat)
  case atStart => exact ⟨0, by omega, rfl, World.ownsRow_nil _ _ _ _, Below.refl _ _⟩
  case round =>
    obtain ⟨k, hk, rfl, hown, hb⟩ := hrel
    have hsn : rsch p (k + 1) = rsch p k ++ [rnx p (rsch p k) k] := rfl
    have HSN := Keep.mk hsn
    clear hsn
    by_cases hlt : k < 64
    · by_cases h16 : k < 16
      · have hpl := HPL.out
        have hww : rnx p (rsch p k) k = be4 (p.getD (4 * k) 0) (p.getD (4 * k + 1) 0) (p.getD (4 * k + 2) 0) (p.getD (4 * k + 3) 0) := by unfold rnx; rw [if_pos h16]
        have HW := Keep.mk hww
        have c0 := (hb.cell (p := ⟨b, off + (4 * k), none⟩) hbl).trans (HC.out (4 * k) (by omega))
        have c1 := (hb.cell (p := ⟨b, off + (4 * k + 1), none⟩) hbl).trans (HC.out (4 * k + 1) (by omega))
        have c2 := (hb.cell (p := ⟨b, off + (4 * k + 2), none⟩) hbl).trans (HC.out (4 * k + 2) (by omega))
        have c3 := (hb.cell (p := ⟨b, off + (4 * k + 3), none⟩) hbl).trans (HC.out (4 * k + 3) (by omega))
        rw [← byte_wv HAll.out _ (by omega)] at c0 c1 c2 c3
        obtain ⟨y0, hy0⟩ : ∃ y, BitVec.ofInt 32 (p.getD (4 * k) 0) = y := ⟨_, rfl⟩
        obtain ⟨y1, hy1⟩ : ∃ y, BitVec.ofInt 32 (p.getD (4 * k + 1) 0) = y := ⟨_, rfl⟩
        obtain ⟨y2, hy2⟩ : ∃ y, BitVec.ofInt 32 (p.getD (4 * k + 2) 0) = y := ⟨_, rfl⟩
        obtain ⟨y3, hy3⟩ : ∃ y, BitVec.ofInt 32 (p.getD (4 * k + 3) 0) = y := ⟨_, rfl⟩
        rw [hy0] at c0
        rw [hy1] at c1
        rw [hy2] at c2
        rw [hy3] at c3
        have HY : Keep (be4 (p.getD (4 * k) 0) (p.getD (4 * k + 1) 0) (p.getD (4 * k + 2) 0) (p.getD (4 * k + 3) 0) = (y0 <<< 24) ||| (y1 <<< 16) ||| (y2 <<< 8) ||| y3) := ⟨by rw [be4, hy0, hy1, hy2, hy3]⟩
        clear hy0 hy1 hy2 hy3 hww hpl
        have u0 := u32_wrap y0
        have u1 := u32_wrap y1
        have u2 := u32_wrap y2
        have u3' := u32_wrap y3
        have x0 : IntKind.i64.wrap (4 * (k : Int)) = 4 * (k : Int) := IntWalk.i64_in _ (by omega)
        have x1 : IntKind.i64.wrap (4 * (k : Int) + 1) = 4 * (k : Int) + 1 := IntWalk.i64_in _ (by omega)
        have x2 : IntKind.i64.wrap (4 * (k : Int) + 2) = 4 * (k : Int) + 2 := IntWalk.i64_in _ (by omega)
        have x3 : IntKind.i64.wrap (4 * (k : Int) + 3) = 4 * (k : Int) + 3 := IntWalk.i64_in _ (by omega)
        have l0 : 4 * (k : Int) < 64 := by omega
        have l1 : 4 * (k : Int) + 1 < 64 := by omega
        have l2 : 4 * (k : Int) + 2 < 64 := by omega
        have l3 : 4 * (k : Int) + 3 < 64 := by omega
        have p0 : (0 : Int) ≤ 4 * (k : Int) := by omega
        have p1 : (0 : Int) ≤ 4 * (k : Int) + 1 := by omega
        have p2 : (0 : Int) ≤ 4 * (k : Int) + 2 := by omega
        have p3 : (0 : Int) ≤ 4 * (k : Int) + 3 := by omega
        have t0 : (4 * (k : Int)).toNat = 4 * k := by omega
        have t1 : (4 * (k : Int) + 1).toNat = 4 * k + 1 := by omega
        have t2 : (4 * (k : Int) + 2).toNat = 4 * k + 2 := by omega
        have t3 : (4 * (k : Int) + 3).toNat = 4 * k + 3 := by omega
        have HO := Lib.hid hown
        clear hown
        go_wp2_with fail
        have so := w_or
        have s0 := w_shl24w y0
        have s1 := w_shl16w y1
        have s2 := w_shl8w y2
        go_region_held3 (fun W => W.cell? ⟨b, off + 4 * k, none⟩ = some (.int .u8 (wv y0)) ∧ W.cell? ⟨b, off + (4 * k + 1), none⟩ = some (.int .u8 (wv y1)) ∧ W.cell? ⟨b, off + (4 * k + 2), none⟩ = some (.int .u8 (wv y2)) ∧ W.cell? ⟨b, off + (4 * k + 3), none⟩ = some (.int .u8 (wv y3)))
          (first | go_keep | (refine ⟨?_, ?_, ?_, ?_⟩ <;> assumption))
          (first
            | (refine step_append_words rfl (.tmp 13) (.tmp 47) 112 rfl Tryd.underlying112 w.heap.size _ k _ rfl (HO.out.drew.alloc _) wr.heap.size 1 [(y0 <<< 24) ||| (y1 <<< 16) ||| (y2 <<< 8) ||| y3] rfl 30 (heap_alloc_new _ _) rfl (by omega) (by omega) ?_ ?_
               · have := hb.size; simp; omega
               intro v1 w1 hown1 hgr1 _
               have hb1 : Below w.heap.size w w1 := (hb.drew.alloc hb.size _).grown hgr1 (by have := hb.size; simp; omega) (fun j e => (HO.out.lt j e).1)
               have d0 := (hb1.cell (p := ⟨b, off + (4 * k), none⟩) hbl).trans ((hb.cell (p := ⟨b, off + (4 * k), none⟩) hbl).symm.trans c0)
               have d1 := (hb1.cell (p := ⟨b, off + (4 * k + 1), none⟩) hbl).trans ((hb.cell (p := ⟨b, off + (4 * k + 1), none⟩) hbl).symm.trans c1)
               have d2 := (hb1.cell (p := ⟨b, off + (4 * k + 2), none⟩) hbl).trans ((hb.cell (p := ⟨b, off + (4 * k + 2), none⟩) hbl).symm.trans c2)
               have d3 := (hb1.cell (p := ⟨b, off + (4 * k + 3), none⟩) hbl).trans ((hb.cell (p := ⟨b, off + (4 * k + 3), none⟩) hbl).symm.trans c3)
               have HO1 := Lib.hid hown1
               clear hgr1 hown1)
            | fail)
        clear so
        go_wp2_with fail
        go_roundw
        case rel =>
          refine ⟨k + 1, by omega, by go_num, ?_, hb1⟩
          rw [HSN.out, HW.out, HY.out]
          exact HO1.out
        case measure => simp [intOf] <;> omega
      · obtain ⟨g, cg, rfl, hgb, hgc, hrow⟩ := RowW.of_own hown (by omega)
        have hsl := rsch_length p k
        have c15 := hrow.cell (k - 15) (by omega)
        have c2 := hrow.cell (k - 2) (by omega)
        have c7 := hrow.cell (k - 7) (by omega)
        have c16 := hrow.cell (k - 16) (by omega)
        obtain ⟨y15, hy15⟩ : ∃ y, (rsch p k)[k - 15]'(by omega) = y := ⟨_, rfl⟩
        obtain ⟨y2, hy2⟩ : ∃ y, (rsch p k)[k - 2]'(by omega) = y := ⟨_, rfl⟩
        obtain ⟨y7, hy7⟩ : ∃ y, (rsch p k)[k - 7]'(by omega) = y := ⟨_, rfl⟩
        obtain ⟨y16, hy16⟩ : ∃ y, (rsch p k)[k - 16]'(by omega) = y := ⟨_, rfl⟩
        rw [hy15] at c15
        rw [hy2] at c2
        rw [hy7] at c7
        rw [hy16] at c16
        have hww : rnx p (rsch p k) k = rs1 y2 + y7 + rs0 y15 + y16 := by
          have gg : ∀ i (h : i < (rsch p k).length), (rsch p k).getD i 0 = (rsch p k)[i] := fun i h => by rw [List.getD_eq_getElem?_getD, List.getElem?_eq_getElem h]; rfl
          unfold rnx
          rw [if_neg h16, gg _ (by omega), gg _ (by omega), gg _ (by omega), gg _ (by omega), hy15, hy2, hy7, hy16]
        have HW := Keep.mk hww
        clear hy15 hy2 hy7 hy16 hww hsl
        have HRow := Lib.hid hrow
        have HO := Lib.hid hown
        clear hrow hown
        go_wp2_with fail
        have x15 : IntKind.i64.wrap ((k : Int) - 15) = (k : Int) - 15 := IntWalk.i64_in _ (by omega)
        have e15 : (0 : Int) ≤ (k : Int) - 15 := by omega
        have f15 : (k : Int) - 15 < (k : Int) := by omega
        have i15 : (15 : Int) ≤ (k : Int) := by omega
        have j15 : (k : Int) < (k : Int) + 15 := by omega
        have t15 : ((k : Int) - 15).toNat = k - 15 := by omega
        have x2 : IntKind.i64.wrap ((k : Int) - 2) = (k : Int) - 2 := IntWalk.i64_in _ (by omega)
        have e2 : (0 : Int) ≤ (k : Int) - 2 := by omega
        have f2 : (k : Int) - 2 < (k : Int) := by omega
        have i2 : (2 : Int) ≤ (k : Int) := by omega
        have j2 : (k : Int) < (k : Int) + 2 := by omega
        have t2 : ((k : Int) - 2).toNat = k - 2 := by omega
        have x16 : IntKind.i64.wrap ((k : Int) - 16) = (k : Int) - 16 := IntWalk.i64_in _ (by omega)
        have e16 : (0 : Int) ≤ (k : Int) - 16 := by omega
        have f16 : (k : Int) - 16 < (k : Int) := by omega
        have i16 : (16 : Int) ≤ (k : Int) := by omega
        have j16 : (k : Int) < (k : Int) + 16 := by omega
        have t16 : ((k : Int) - 16).toNat = k - 16 := by omega
        have x7 : IntKind.i64.wrap ((k : Int) - 7) = (k : Int) - 7 := IntWalk.i64_in _ (by omega)
        have e7 : (0 : Int) ≤ (k : Int) - 7 := by omega
        have f7 : (k : Int) - 7 < (k : Int) := by omega
        have i7 : (7 : Int) ≤ (k : Int) := by omega
        have j7 : (k : Int) < (k : Int) + 7 := by omega
        have t7 : ((k : Int) - 7).toNat = k - 7 := by omega
        have sx := w_xor
        have sa := w_wrap
        have sh3 := w_shr3 y15
        have sh10 := w_shr10 y2
        go_quiet ((go_at_call 70; exact rotr_q _ _ (by omega) (by omega) wr _))
        go_wp2_with fail
        generalize hw1 : wr.drewN _ = w1
        have hb1 : Below w.heap.size w w1 := hw1 ▸ below_drewN hb _
        have d2 : w1.cell? ⟨g, k - 2, none⟩ = some (w32 y2) := hw1 ▸ c2
        have d7 : w1.cell? ⟨g, k - 7, none⟩ = some (w32 y7) := hw1 ▸ c7
        have d16 : w1.cell? ⟨g, k - 16, none⟩ = some (w32 y16) := hw1 ▸ c16
        have HO1 : Hid (w1.ownsRow w.heap.size 30 1 (.slice (some ⟨g, 0, none⟩) k cg) k ((rsch p k).flatMap encW)) := hw1 ▸ HO
        clear hw1 c15 c2 c7 c16 HO HRow hb
        go_quiet ((go_at_call 70; exact rotr_q _ _ (by omega) (by omega) w1 _))
        go_wp2_with fail
        generalize hw2 : w1.drewN _ = w2
        have hb2 : Below w.heap.size w w2 := hw2 ▸ below_drewN hb1 _
        have c7 : w2.cell? ⟨g, k - 7, none⟩ = some (w32 y7) := hw2 ▸ d7
        have c16 : w2.cell? ⟨g, k - 16, none⟩ = some (w32 y16) := hw2 ▸ d16
        have HO2 : Hid (w2.ownsRow w.heap.size 30 1 (.slice (some ⟨g, 0, none⟩) k cg) k ((rsch p k).flatMap encW)) := hw2 ▸ HO1
        clear hw2 d2 d7 d16 HO1 hb1
        have HX : Keep (rs1 y2 + y7 + rs0 y15 + y16 = (rotr y2 17 ^^^ rotr y2 19 ^^^ y2 >>> 10) + y7 + (rotr y15 7 ^^^ rotr y15 18 ^^^ y15 >>> 3) + y16) := ⟨rfl⟩
        generalize (rotr y2 17 ^^^ rotr y2 19 ^^^ y2 >>> 10) = z1 at *
        generalize (rotr y15 7 ^^^ rotr y15 18 ^^^ y15 >>> 3) = z0 at *
        go_region_law (first
            | (refine step_append_words rfl (.tmp 89) (.tmp 105) 112 rfl Tryd.underlying112 w.heap.size _ k _ rfl (HO2.out.drew.alloc _) w2.heap.size 1 [z1 + y7 + z0 + y16] rfl 30 (heap_alloc_new _ _) rfl (by omega) (by omega) ?_ ?_
               · have := hb2.size; simp; omega
               intro v3 w3 hown3 hgr3 hat3
               have hb3 : Below w.heap.size w w3 := (hb2.drew.alloc hb2.size _).grown hgr3 (by have := hb2.size; simp; omega) (fun j e => (HO2.out.lt j e).1)
               have HO3 := Lib.hid hown3
               clear hgr3 hown3 hat3)
            | fail)
        all_goals
          clear sx sa
          go_wp2_with fail
          go_roundw
          case rel =>
            refine ⟨k + 1, by omega, by go_num, ?_, hb3⟩
            rw [HSN.out, HW.out, HX.out]
            exact HO3.out
          case measure => simp [intOf] <;> omega
    · have hk64 : k = 64 := by omega
      subst hk64
      obtain ⟨A', c', rfl, ha'⟩ := Arg.of_own (by decide) encW_length hown
      have HA := Lib.hid ha'
      clear ha' hown hk
      go_wp2_with fail
      go_ret
      exact ⟨A', c', rfl, HA.out, hb⟩
end Go.Proofs.YtdmmcgcglkblhaaDoor
