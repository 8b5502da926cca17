/-
  The reference of layer 3: a block goes into the words of a digest.
-/
import Derived.Test.YtdmmcgcglkblhaaDoorRefB
import Derived.Test.YtdmmcgcglkblhaaDoorRefC
namespace Go.Proofs.YtdmmcgcglkblhaaDoor
open Go.RowKit

theorem eight_of : ∀ (V : List W32), V.length = 8 → ∃ a0 a1 a2 a3 a4 a5 a6 a7, V = [a0, a1, a2, a3, a4, a5, a6, a7]
  | [a0, a1, a2, a3, a4, a5, a6, a7], _ => ⟨a0, a1, a2, a3, a4, a5, a6, a7, rfl⟩
/-- The words V, all behind place i gone on by one. -/
def shW (V : List W32) (i : Nat) : List W32 := V.take (i + 1) ++ (V.drop i).take (7 - i)
theorem shW_start (V : List W32) (h : V.length = 8) : shW V 7 = V := by simp only [shW, Nat.sub_self, List.take_zero, List.append_nil]; exact List.take_of_length_le (by omega)
theorem shW_length (V : List W32) (h : V.length = 8) (i : Nat) (hi : i ≤ 7) : (shW V i).length = 8 := by simp [shW, h]; omega
theorem shW_at (V : List W32) (h : V.length = 8) (i : Nat) (hi : i ≤ 6) : (shW V (i + 1))[i]'(by rw [shW_length V h _ (by omega)]; omega) = V[i]'(by omega) := by
  simp only [shW]
  rw [List.getElem_append_left (by rw [List.length_take]; omega), List.getElem_take]
theorem shW_set (V : List W32) (h : V.length = 8) (i : Nat) (hi : i ≤ 6) : (shW V (i + 1)).set (i + 1) (V[i]'(by omega)) = shW V i := by
  apply List.ext_getElem
  · rw [List.length_set, shW_length V h _ (by omega), shW_length V h _ (by omega)]
  · intro j h1 h2
    rw [List.getElem_set]
    have hj : j < 8 := by rw [List.length_set, shW_length V h _ (by omega)] at h1; exact h1
    simp only [shW, List.getElem_append, List.length_take, List.getElem_take, List.getElem_drop, h]
    repeat' split
    all_goals first | rfl | omega | (congr 1; omega)
theorem shW_end (a0 a1 a2 a3 a4 a5 a6 a7 : W32) : shW [a0, a1, a2, a3, a4, a5, a6, a7] 0 = [a0, a0, a1, a2, a3, a4, a5, a6] := rfl
theorem w_notw (x : W32) : IntKind.u32.wrap (4294967295 - wv x) = wv (~~~x) := by
  rw [IntKind.wrap_u32]
  have := x.isLt
  unfold wv
  rw [BitVec.toNat_not]
  omega

/-- The cells that a round reads. -/
def Regs (W : World) (g b1 o1 b2 o2 t : Nat) (a0 a1 a2 a4 a5 a6 a7 yS yK : W32) : Prop :=
  W.cell? ⟨g, 0, none⟩ = some (w32 a0) ∧ W.cell? ⟨g, 1, none⟩ = some (w32 a1) ∧ W.cell? ⟨g, 2, none⟩ = some (w32 a2) ∧ W.cell? ⟨g, 4, none⟩ = some (w32 a4) ∧ W.cell? ⟨g, 5, none⟩ = some (w32 a5) ∧
  W.cell? ⟨g, 6, none⟩ = some (w32 a6) ∧ W.cell? ⟨g, 7, none⟩ = some (w32 a7) ∧ W.cell? ⟨b1, o1 + t, none⟩ = some (w32 yS) ∧ W.cell? ⟨b2, o2 + t, none⟩ = some (w32 yK)
theorem Regs.drewN {W : World} {g b1 o1 b2 o2 t : Nat} {a0 a1 a2 a4 a5 a6 a7 yS yK : W32} (h : Regs W g b1 o1 b2 o2 t a0 a1 a2 a4 a5 a6 a7 yS yK) (n : Nat) : Regs (W.drewN n) g b1 o1 b2 o2 t a0 a1 a2 a4 a5 a6 a7 yS yK := h
theorem RowW.drewN {w : World} {t : TypeId} {g : Nat} {V : List W32} (h : RowW w t g V) (n : Nat) : RowW (w.drewN n) t g V := h

set_option maxRecDepth 100000 in
set_option maxHeartbeats 4000000 in
theorem compress_any (A : Option Addr) (c : Nat) (H : List W32) (C : Option Addr) (d : Nat) (p : List Int) (w : World) (haH : Arg w 1 encW A 8 c H) (hap : Arg w 1 encB C 64 d p) (hall : ∀ z ∈ p, 0 ≤ z ∧ z ≤ 255) :
    Calls Tryd.prog 58 #[.slice A 8 c, .slice C 64 d] w fun e w' => ∃ A' c', e = .returned (.slice A' 8 c') ∧ Arg w' 1 encW A' 8 c' (rblk H p) ∧ Below w.heap.size w w' := by
  obtain ⟨i0, hi, hz0, hz1, hz2⟩ := info_parts infoW
  have HH := Lib.hid haH
  have HP := Lib.hid hap
  have HAll := Lib.hid hall
  clear haH hap hall
  go_enter Tryd.func58, Tryd.ntmps58
  go_wp2_with fail
  refine (schedule_any C d p w HP.out HAll.out).mono ?_
  rintro e w1 ⟨As, cs, rfl, has, hb1⟩
  have HS := Lib.hid has
  have HH1 := Lib.hid (HH.out.below hb1)
  clear has
  go_wp2_with fail
  refine (words_any w1).mono ?_
  rintro e w2 ⟨Ak, ck, rfl, hak, hb2⟩
  have HK := Lib.hid hak
  have HS2 := Lib.hid (HS.out.below hb2)
  have HH2 := Lib.hid (HH1.out.below hb2)
  clear hak HS HH1
  have HB2 := Lib.hid (hb1.trans (hb2.mono hb1.size))
  clear hb1 hb2
  go_wp2_with (at_builtin; go_loud (refine wpList_append_rd rfl (.tmp 19) (.tmp 20) 112 rfl w2.heap.size 30 i0 (.int .u32 0) 1 4 Tryd.underlying112 hi hz0 hz1 hz2 rfl (by decide) (.slice none 0 0) 0 [] rfl (World.ownsRow_nil _ _ _ _) A 8 c _ encW H rfl HH2.out.hnil HH2.out.hlen encW_length HH2.out.rd encWOne (by simp only [maxLen]; omega) (by omega) (Nat.le_refl _) ?_); intro v3 w3 hown3 hgr3 hat3)
  have hb3 : Below w2.heap.size w2 w3 := (Below.refl _ w2).grown hgr3 (Nat.le_refl _) (fun j e => by simp [Value.ownBlock] at e)
  rw [List.nil_append] at hown3
  obtain ⟨g, cg, rfl, hgb, hgc, hrow⟩ := RowW.of_own hown3 (by omega)
  have HR3 := Keep.mk hrow
  have HB3 := Lib.hid hb3
  clear hown3 hgr3 hat3 hb3 hrow
  simp only [Nat.zero_add]
  have hH8 := HH2.out.hlen
  have HH8 := Keep.mk hH8
  clear hH8
  have HRB : Keep (rblk H p = sumsR H (rvs (fun t => wordsR.getD t 0) (rsch p 64) H 64)) := ⟨by rw [rblk]⟩
  have hWl : (rsch p 64).length = 64 := rsch_length p 64
  have hKl : wordsR.length = 64 := HK.out.hlen
  generalize rsch p 64 = WS at HRB HS2 hWl
  generalize wordsR = KW at HRB HK hKl
  have HWl := Keep.mk hWl
  have HKl := Keep.mk hKl
  clear hWl hKl
  have HR3' : Keep (RowW w3 30 g (rvs (fun t => KW.getD t 0) WS H 0)) := ⟨by rw [rvs]; exact HR3.out⟩
  go_loopw [8] (fun i wr => ∃ t : Nat, t ≤ 64 ∧ i = .int .i64 t ∧ Keep (RowW wr 30 g (rvs (fun t => KW.getD t 0) WS H t)) ∧ Below w2.heap.size w2 wr) (fun i _ => 64 - (intOf i).toNat)
  case atStart => exact ⟨0, by omega, rfl, HR3', HB3.out⟩
  case round =>
    obtain ⟨t, ht, rfl, hrow, hb⟩ := hrel
    by_cases hlt : t < 64
    · have hgl := hrow.out.lt
      have hnx : rvs (fun t => KW.getD t 0) WS H (t + 1) = rstR (rvs (fun t => KW.getD t 0) WS H t) (KW.getD t 0) (WS.getD t 0) := rfl
      have HNX := Keep.mk hnx
      obtain ⟨bs, os, rfl, hbs, hcs⟩ := HS2.out.rd.word (List.ne_nil_of_length_pos (by rw [HWl.out]; omega))
      obtain ⟨bk, ok, rfl, hbk, hck⟩ := HK.out.rd.word (List.ne_nil_of_length_pos (by rw [HKl.out]; omega))
      have cS := (hb.cell (p := ⟨bs, os + t, none⟩) hbs).trans (hcs t (by rw [HWl.out]; exact hlt))
      have cK := (hb.cell (p := ⟨bk, ok + t, none⟩) hbk).trans (hck t (by rw [HKl.out]; exact hlt))
      obtain ⟨yS, hyS⟩ : ∃ y, WS[t]'(by rw [HWl.out]; exact hlt) = y := ⟨_, rfl⟩
      obtain ⟨yK, hyK⟩ : ∃ y, KW[t]'(by rw [HKl.out]; exact hlt) = y := ⟨_, rfl⟩
      have gS : WS.getD t 0 = yS := by rw [List.getD_eq_getElem?_getD, List.getElem?_eq_getElem (by rw [HWl.out]; exact hlt), ← hyS]; rfl
      have gK : KW.getD t 0 = yK := by rw [List.getD_eq_getElem?_getD, List.getElem?_eq_getElem (by rw [HKl.out]; exact hlt), ← hyK]; rfl
      rw [hyS] at cS
      rw [hyK] at cK
      obtain ⟨a0, a1, a2, a3, a4, a5, a6, a7, hV⟩ := eight_of _ (rvs_length (fun t => KW.getD t 0) WS H HH8.out t)
      have hrow' := hrow.out
      rw [hV] at hrow'
      have HN : Keep (rvs (fun t => KW.getD t 0) WS H (t + 1) = rstR [a0, a1, a2, a3, a4, a5, a6, a7] yK yS) := ⟨by rw [hnx, hV, gS, gK]⟩
      have HR := Keep.mk hrow'
      have c0 := hrow'.cell 0 (by show 0 < 8; omega)
      have c1 := hrow'.cell 1 (by show 1 < 8; omega)
      have c2 := hrow'.cell 2 (by show 2 < 8; omega)
      have c4 := hrow'.cell 4 (by show 4 < 8; omega)
      have c5 := hrow'.cell 5 (by show 5 < 8; omega)
      have c6 := hrow'.cell 6 (by show 6 < 8; omega)
      have c7 := hrow'.cell 7 (by show 7 < 8; omega)
      simp only [List.getElem_cons_zero, List.getElem_cons_succ] at c0 c1 c2 c4 c5 c6 c7
      clear hyS hyK gS gK hV hrow' hnx HNX hcs hck hrow
      go_wp2_with fail
      have sx := w_xor
      have sd := w_and
      have sn := w_notw a4
      go_quiet (fail)
      have hRg : Regs wr g bs os bk ok t a0 a1 a2 a4 a5 a6 a7 yS yK := ⟨c0, c1, c2, c4, c5, c6, c7, cS, cK⟩
      have HRg := Lib.hid hRg
      have HB := Lib.hid hb
      clear hRg c0 c1 c2 c4 c5 c6 c7 cS cK sn hb
      go_wp2_with fail
      generalize hw1 : wr.drewN _ = wa
      have HRg1 : Hid (Regs wa g bs os bk ok t a0 a1 a2 a4 a5 a6 a7 yS yK) := hw1 ▸ HRg.out.drewN _
      have HBa : Hid (Below w2.heap.size w2 wa) := hw1 ▸ below_drewN HB.out _
      have HRa : Keep (RowW wa 30 g [a0, a1, a2, a3, a4, a5, a6, a7]) := ⟨hw1 ▸ HR.out.drewN _⟩
      clear hw1 HRg HB HR
      obtain ⟨c0, c1, c2, c4, c5, c6, c7, cS, cK⟩ := HRg1.out
      go_quiet (fail)
      clear c0 c1 c2 c4 c5 c6 c7 cS cK
      go_wp2_with fail
      generalize hw2 : wa.drewN _ = wb
      have HRg2 : Hid (Regs wb g bs os bk ok t a0 a1 a2 a4 a5 a6 a7 yS yK) := hw2 ▸ HRg1.out.drewN _
      have HBb : Hid (Below w2.heap.size w2 wb) := hw2 ▸ below_drewN HBa.out _
      have HRb : Keep (RowW wb 30 g [a0, a1, a2, a3, a4, a5, a6, a7]) := ⟨hw2 ▸ HRa.out.drewN _⟩
      clear hw2 HRg1 HBa HRa
      obtain ⟨c0, c1, c2, c4, c5, c6, c7, cS, cK⟩ := HRg2.out
      have sa := w_wrap
      have ti0 : (0 : Int) ≤ (t : Int) := by omega
      have ti1 : (t : Int) < 64 := by omega
      go_quiet ((go_at_call 70; exact rotr_q _ _ (by omega) (by omega) wb _))
      clear c0 c1 c2 c4 c5 c6 c7 cS cK
      go_wp2_with fail
      generalize hw3 : wb.drewN _ = wc
      have HRg3 : Hid (Regs wc g bs os bk ok t a0 a1 a2 a4 a5 a6 a7 yS yK) := hw3 ▸ HRg2.out.drewN _
      have HBc : Hid (Below w2.heap.size w2 wc) := hw3 ▸ below_drewN HBb.out _
      have HRc : Keep (RowW wc 30 g [a0, a1, a2, a3, a4, a5, a6, a7]) := ⟨hw3 ▸ HRb.out.drewN _⟩
      clear hw3 HRg2 HBb HRb
      obtain ⟨c0, c1, c2, c4, c5, c6, c7, cS, cK⟩ := HRg3.out
      go_quiet ((go_at_call 70; exact rotr_q _ _ (by omega) (by omega) wc _))
      clear c0 c1 c2 c4 c5 c6 c7 cS cK
      go_wp2_with fail
      generalize hw4 : wc.drewN _ = wd
      have HBd : Hid (Below w2.heap.size w2 wd) := hw4 ▸ below_drewN HBc.out _
      have HRd : Keep (RowW wd 30 g [a0, a1, a2, a3, a4, a5, a6, a7]) := ⟨hw4 ▸ HRc.out.drewN _⟩
      clear hw4 HRg3 HBc HRc sx sd sa
      obtain ⟨T1, hT1⟩ : ∃ T1, a7 + (rotr a4 6 ^^^ rotr a4 11 ^^^ rotr a4 25) + (a4 &&& a5 ^^^ ~~~a4 &&& a6) + yK + yS = T1 := ⟨_, rfl⟩
      obtain ⟨T2, hT2⟩ : ∃ T2, (rotr a0 2 ^^^ rotr a0 13 ^^^ rotr a0 22) + (a0 &&& a1 ^^^ a0 &&& a2 ^^^ a1 &&& a2) = T2 := ⟨_, rfl⟩
      have hst : rstR [a0, a1, a2, a3, a4, a5, a6, a7] yK yS = [T1 + T2, a0, a1, a2, a3 + T1, a4, a5, a6] := by rw [← hT1, ← hT2]; rfl
      have HST := Keep.mk hst
      rw [hT1, hT2]
      clear hT1 hT2 hst
      have HRd7 : Keep (RowW wd 30 g (shW [a0, a1, a2, a3, a4, a5, a6, a7] 7)) := ⟨by rw [shW_start _ rfl]; exact HRd.out⟩
      have h08 : [a0, a1, a2, a3, a4, a5, a6, a7].length = 8 := rfl
      obtain ⟨V, hV⟩ : ∃ V, [a0, a1, a2, a3, a4, a5, a6, a7] = V := ⟨_, rfl⟩
      rw [hV] at HRd7 h08
      have HV := Keep.mk hV
      have H08 := Keep.mk h08
      clear hV h08
      go_loopw [13] (fun i wr => ∃ j : Nat, j ≤ 7 ∧ i = .int .i64 j ∧ Keep (RowW wr 30 g (shW V j)) ∧ Below w2.heap.size w2 wr) (fun i _ => (intOf i).toNat)
      case atStart => exact ⟨7, by omega, rfl, HRd7, HBd.out⟩
      case round =>
        obtain ⟨j, hj, rfl, hrow, hb⟩ := hrel
        by_cases hpos : 0 < j
        · obtain ⟨i, rfl⟩ : ∃ i, j = i + 1 := ⟨j - 1, by omega⟩
          have hlen := shW_length V H08.out (i + 1) hj
          have hr := hrow.out
          have c0 := hr.cell i (by omega)
          have c1 := hr.cell (i + 1) (by omega)
          have f1 := hr.free (i + 1)
          rw [shW_at V H08.out i (by omega)] at c0
          obtain ⟨x, hx⟩ : ∃ x, V[i]'(by have := H08.out; omega) = x := ⟨_, rfl⟩
          obtain ⟨y, hy⟩ : ∃ y, (shW V (i + 1))[i + 1]'(by omega) = y := ⟨_, rfl⟩
          rw [hx] at c0
          rw [hy] at c1
          have hset := hr.set (i + 1) x
          rw [← hx, shW_set V H08.out i (by omega), hx] at hset
          have HSet := Keep.mk hset
          have HB := Lib.hid hb
          have hi7 : (i : Int) + 1 < 8 := by omega
          clear hx hy hset hlen hr hrow hb
          go_wp2
          go_roundw
          case rel => exact ⟨i, by omega, by go_num, HSet, HB.out.setCell (p := ⟨g, i + 1, none⟩) hgb _⟩
          case measure => simp [intOf] <;> omega
        · obtain rfl : j = 0 := by omega
          have hr := hrow.out
          rw [← HV.out, shW_end] at hr
          have c4 := hr.cell 4 (by show 4 < 8; omega)
          have c0 := hr.cell 0 (by show 0 < 8; omega)
          have f4 := hr.free 4
          have f0 := hr.free 0
          simp only [List.getElem_cons_zero, List.getElem_cons_succ] at c0 c4
          have hset := (hr.set 4 (a3 + T1)).set 0 (T1 + T2)
          have HSet := Keep.mk hset
          have HB := Lib.hid hb
          have sa := w_wrap
          clear hset hr hrow hb
          go_wp2_with fail
          go_roundw
          case rel => exact ⟨t + 1, by omega, by go_num, ⟨by rw [HN.out, HST.out]; exact HSet.out⟩, (HB.out.setCell (p := ⟨g, 4, none⟩) hgb _).setCell (p := ⟨g, 0, none⟩) hgb _⟩
          case measure => simp [intOf] <;> omega
    · have ht64 : t = 64 := by omega
      have hge : 64 ≤ t := by omega
      have hRBt : rblk H p = sumsR H (rvs (fun t => KW.getD t 0) WS H t) := by rw [ht64]; exact HRB.out
      clear ht64
      obtain ⟨V, hV⟩ : ∃ V, rvs (fun t => KW.getD t 0) WS H t = V := ⟨_, rfl⟩
      have hVl : V.length = 8 := by rw [← hV]; exact rvs_length _ _ _ HH8.out _
      have HRB' : Keep (rblk H p = sumsR H V) := ⟨by rw [hRBt, hV]⟩
      rw [hV] at hrow
      have HVl := Keep.mk hVl
      have hsl : (sumsR H V).length = 8 := by simp [sumsR]
      have HSl := Keep.mk hsl
      have HB := Lib.hid hb
      clear hV hVl hsl HRB hb ht hRBt
      go_wp2_with fail
      obtain ⟨w64, rfl⟩ : ∃ w64 : World, w64 = wr := ⟨_, rfl⟩
      go_loopw [14, 15] (fun v i wz => ∃ j : Nat, j ≤ 8 ∧ i = .int .i64 j ∧ wz.ownsRow w64.heap.size 30 1 v j (((sumsR H V).take j).flatMap encW) ∧ Below w64.heap.size w64 wz) (fun _ i _ => 8 - (intOf i).toNat)
      case atStart => exact ⟨0, by omega, rfl, World.ownsRow_nil _ _ _ _, Below.refl _ _⟩
      case round =>
        obtain ⟨j, hj, rfl, hown, hb⟩ := hrel
        by_cases hlt : j < 8
        · obtain ⟨bh, oh, rfl, hbh, hch⟩ := HH2.out.rd.word (List.ne_nil_of_length_pos (by rw [HH8.out]; omega))
          have hwr := HB.out.size
          have cH := (hb.cell (p := ⟨bh, oh + j, none⟩) (by show bh < _; omega)).trans ((HB.out.cell (p := ⟨bh, oh + j, none⟩) hbh).trans (hch j (by rw [HH8.out]; exact hlt)))
          have cV := (hb.cell (p := ⟨g, j, none⟩) hrow.out.lt).trans (hrow.out.cell j (by rw [HVl.out]; exact hlt))
          obtain ⟨x, hx⟩ : ∃ x, H[j]'(by rw [HH8.out]; exact hlt) = x := ⟨_, rfl⟩
          obtain ⟨y, hy⟩ : ∃ y, V[j]'(by rw [HVl.out]; exact hlt) = y := ⟨_, rfl⟩
          have hsn : (sumsR H V).take (j + 1) = (sumsR H V).take j ++ [x + y] := by
            rw [List.take_succ_eq_append_getElem (by rw [HSl.out]; exact hlt), ← hx, ← hy]
            congr 2
            simp only [sumsR, List.getElem_map, List.getElem_range]
            rw [List.getD_eq_getElem?_getD, List.getElem?_eq_getElem (by rw [HH8.out]; exact hlt), List.getD_eq_getElem?_getD, List.getElem?_eq_getElem (by rw [HVl.out]; exact hlt)]
            rfl
          have HSN := Keep.mk hsn
          rw [hx] at cH
          rw [hy] at cV
          have HO := Lib.hid hown
          have HBz := Lib.hid hb
          have sa := w_wrap
          have ti0 : (0 : Int) ≤ (j : Int) := by omega
          have ti1 : (j : Int) < 8 := by omega
          have hbsz := hb.size
          clear hx hy hsn hch hown hb
          go_wp2_with fail
          go_region_law (first
            | (refine step_append_words rfl (.tmp 139) (.tmp 149) 112 rfl Tryd.underlying112 w64.heap.size _ j _ rfl (HO.out.drew.alloc _) wr.heap.size 1 [x + y] rfl 30 (heap_alloc_new _ _) rfl (by omega) (by omega) ?_ ?_
               · simp; omega
               intro v4 w4 hown4 hgr4 hat4
               have hb4 : Below w64.heap.size w64 w4 := (HBz.out.drew.alloc hbsz _).grown hgr4 (by simp; omega) (fun j e => (HO.out.lt j e).1)
               have HO4 := Lib.hid hown4
               clear hgr4 hown4 hat4)
            | fail)
          all_goals
            clear sa
            go_wp2_with fail
            go_roundw
            case rel =>
              refine ⟨j + 1, by omega, by go_num, ?_, hb4⟩
              rw [HSN.out]
              exact HO4.out
            case measure => simp [intOf] <;> omega
        · obtain rfl : j = 8 := by omega
          rw [List.take_of_length_le (by rw [HSl.out]; omega), ← HRB'.out] at hown
          obtain ⟨A', c', rfl, ha'⟩ := Arg.of_own (by decide) encW_length hown
          have HA := Lib.hid ha'
          have HBz := Lib.hid hb
          clear ha' hown hb hj
          go_wp2_with fail
          go_ret
          exact ⟨A', c', rfl, HA.out, HB2.out.trans ((HB.out.trans (HBz.out.mono HB.out.size)).mono HB2.out.size)⟩
end Go.Proofs.YtdmmcgcglkblhaaDoor
