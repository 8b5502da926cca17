/-
  The reference of layer 3: Of answers the digest.
-/
import Derived.Test.YtdmmcgcglkblhaaDoorRefD
namespace Go.Proofs.YtdmmcgcglkblhaaDoor
open Go.RowKit

/-- An append of a new row of bytes onto a row of the call's own. -/
theorem wpList_append_bytes {ops : Array Oper} {rest : List Oper} {o : Oper} {a : Act} {Q : Exit → Act → World → Prop} {w : World} (hgd : o.guard = none) (s x : Operand) (t : TypeId)
    (ho : o.op = .call { callee := .builtin .append, args := #[s, x], argTypes := #[t, t] }) (ht : Tryd.prog.underlying t = some (.slice 5))
    (base : Nat) (v : Value) (n : Nat) (xs : List Int) (hs : a.eval s = v) (hown : w.ownsRow base 5 1 v n (xs.flatMap encB))
    (g k : Nat) (ws : List Int) (hx : a.eval x = .slice (some ⟨g, 0, none⟩) k k) (tt : TypeId) (hg : w.heap[g]? = some (.cells (ws.map (Value.int .u8)).toArray tt (0, 0))) (hk : ws.length = k)
    (hn : n ≤ 1000000) (hk2 : k ≤ 1000000) (hbase : base ≤ w.heap.size)
    (h : ∀ v' w', w'.ownsRow base 5 1 v' (n + k) ((xs ++ ws).flatMap encB) → w.grownBy w' v.ownBlock → (v'.ownBlock = v.ownBlock ∨ v'.ownBlock = some w.heap.size) → wpList Tryd.prog ops Q rest (a.put o.dst v') w') :
    wpList Tryd.prog ops Q (o :: rest) a w := by
  obtain ⟨i0, hi, hz0, hz1, hz2⟩ := info_parts infoB
  have ha : Arg w 1 encB (some ⟨g, 0, none⟩) k k ws := Arg.ofRow encB_length (t := tt) (fr := (0, 0)) (by rw [flat_encB]; exact hg) k hk (by unfold maxLen; omega)
  refine wpList_append_rd hgd s x t ho base 5 i0 (.int .u8 0) 1 1 ht hi hz0 hz1 hz2 rfl (by decide) v n _ hs hown _ k k _ encB ws hx ha.hnil ha.hlen encB_length ha.rd encBOne (by unfold maxLen; omega) (by omega) hbase ?_
  intro v' w' h1 h2 h3
  exact h v' w' (by rw [List.flatMap_append]; exact h1) h2 h3
theorem step_append_bytes {ops : Array Oper} {o : Oper} {a : Act} {K : Act → World → Prop} {Q : Exit → Act → World → Prop} {E : Prop} {w : World} (hgd : o.guard = none) (s x : Operand) (t : TypeId)
    (ho : o.op = .call { callee := .builtin .append, args := #[s, x], argTypes := #[t, t] }) (ht : Tryd.prog.underlying t = some (.slice 5))
    (base : Nat) (v : Value) (n : Nat) (xs : List Int) (hs : a.eval s = v) (hown : w.ownsRow base 5 1 v n (xs.flatMap encB))
    (g k : Nat) (ws : List Int) (hx : a.eval x = .slice (some ⟨g, 0, none⟩) k k) (tt : TypeId) (hg : w.heap[g]? = some (.cells (ws.map (Value.int .u8)).toArray tt (0, 0))) (hk : ws.length = k)
    (hn : n ≤ 1000000) (hk2 : k ≤ 1000000) (hbase : base ≤ w.heap.size)
    (h : ∀ v' w', w'.ownsRow base 5 1 v' (n + k) ((xs ++ ws).flatMap encB) → w.grownBy w' v.ownBlock → (v'.ownBlock = v.ownBlock ∨ v'.ownBlock = some w.heap.size) → K (a.put o.dst v') w') :
    if Region.wanted o (yielded ops a.tmps) = true then Oper.wp Tryd.prog o a w K Q else E := by
  obtain ⟨i0, hi, hz0, hz1, hz2⟩ := info_parts infoB
  have ha : Arg w 1 encB (some ⟨g, 0, none⟩) k k ws := Arg.ofRow encB_length (t := tt) (fr := (0, 0)) (by rw [flat_encB]; exact hg) k hk (by unfold maxLen; omega)
  refine step_append_rd (by simp [Region.wanted, hgd]) s x t ho base 5 i0 (.int .u8 0) 1 1 ht hi hz0 hz1 hz2 rfl (by decide) v n _ hs hown _ k k _ encB ws hx ha.hnil ha.hlen encB_length ha.rd encBOne (by unfold maxLen; omega) (by omega) hbase ?_
  intro v' w' h1 h2 h3
  exact h v' w' (by rw [List.flatMap_append]; exact h1) h2 h3

/-- The number of bits, gone up by i bytes. -/
def nAt (N : Int) : Nat → Int
  | 0 => N
  | i + 1 => nAt N i * 256 % 18446744073709551616
def topB (n : Int) : Int := n / 72057594037927936 % 256
theorem nAt_eq (N : Int) (h0 : 0 ≤ N) (h1 : N < 18446744073709551616) : ∀ i, nAt N i = N * 256 ^ i % 18446744073709551616
  | 0 => by rw [nAt]; omega
  | i + 1 => by
    rw [nAt, nAt_eq N h0 h1 i, Int.pow_succ, ← Int.mul_assoc]
    rw [Int.mul_emod (N * 256 ^ i % 18446744073709551616), Int.emod_emod, ← Int.mul_emod]
theorem beB_at (N : Int) (h0 : 0 ≤ N) (h1 : N < 18446744073709551616) (i : Nat) (hi : i < 8) : topB (nAt N i) = (beB N 8)[i]'(by rw [beB_length]; exact hi) := by
  rw [nAt_eq N h0 h1, topB]
  have : i = 0 ∨ i = 1 ∨ i = 2 ∨ i = 3 ∨ i = 4 ∨ i = 5 ∨ i = 6 ∨ i = 7 := by omega
  rcases this with e | e | e | e | e | e | e | e <;> subst e <;> simp only [beB, shB, List.getElem_cons_zero, List.getElem_cons_succ] <;> omega
theorem beB4_eq (x : W32) : beB (wv x) 4 = [wv x / 16777216 % 256, wv x / 65536 % 256, wv x / 256 % 256, wv x % 256] := by
  simp only [beB, shB]
  have := wv_lo x
  congr 1
  · omega
  · congr 1
    omega

set_option maxRecDepth 100000 in
set_option maxHeartbeats 4000000 in
theorem refOf_any (A : Option Addr) (n c : Nat) (l : List Int) (w : World) (ha : Arg w 1 encB A n c l) (hall : ∀ z ∈ l, 0 ≤ z ∧ z ≤ 255) (hn : n ≤ 100000) :
    Calls Tryd.prog 39 #[.slice A n c] w fun e w' => ∃ A' c', e = .returned (.slice A' 32 c') ∧ Arg w' 1 encB A' 32 c' (digB l) ∧ Below w.heap.size w w' := by
  obtain ⟨i0, hi, hz0, hz1, hz2⟩ := info_parts infoB
  have haH := Lib.hid ha
  have hlen := Keep.mk ha.hlen
  have hallH := Lib.hid hall
  clear ha hall
  have hownN : Hid (w.ownsRow w.heap.size 5 1 (.slice none 0 0) 0 (([] : List Int).flatMap encB)) := World.ownsRow_nil _ _ _ _
  go_enter Tryd.func39, Tryd.ntmps39
  go_wp2_with (first
    | (refine wpList_append_rd rfl (.tmp 10) (.tmp 11) 68 rfl w.heap.size 5 i0 (.int .u8 0) 1 1 Tryd.underlying68 hi hz0 hz1 hz2 rfl (by decide) (.slice none 0 0) 0 [] rfl (World.ownsRow_nil _ _ _ _) A n c _ encB l rfl haH.out.hnil hlen.out encB_length haH.out.rd encBOne (by simp only [maxLen]; omega) (by omega) (Nat.le_refl _) ?_; intro v1 w1 hown1 hgr1 hat1; have hb1 : Below w.heap.size w w1 := (Below.refl _ w).grown hgr1 (Nat.le_refl _) (fun j e => (by simp [Value.ownBlock] at e)); rw [List.nil_append] at hown1; have HO1 := Lib.hid hown1; clear hgr1 hat1 hown1)
    | (refine wpList_append_bytes rfl (.tmp 13) (.tmp 14) 68 rfl Tryd.underlying68 w.heap.size _ (0 + n) l rfl (HO1.out.alloc _) w1.heap.size 1 [128] rfl 5 (heap_alloc_new _ _) rfl (by omega) (by omega) (by have := hb1.size; simp; omega) ?_; intro v2 w2 hown2 hgr2 hat2; have hb2 : Below w.heap.size w w2 := (hb1.alloc hb1.size _).grown hgr2 (by have := hb1.size; simp; omega) (fun j e => (HO1.out.lt j e).1); have HO2 := Lib.hid hown2; clear hgr2 hat2 hown2)
    | fail)
  have HB2 := Lib.hid hb2
  clear hb1 hb2
  go_loopw [3] (fun v wr => ∃ j T : Nat, j ≤ nz l.length ∧ Keep (T = l.length + 1 + j) ∧ T ≤ 100100 ∧ wr.ownsRow w.heap.size 5 1 v T ((l ++ [128] ++ List.replicate j 0).flatMap encB) ∧ Below w.heap.size w wr) (fun v _ => match v with | .slice _ n _ => 100200 - n | _ => 0)
  case atStart => exact ⟨0, l.length + 1, by omega, ⟨rfl⟩, by have := hlen.out; omega, by have := hlen.out; have := HO2.out; subst n; simpa using this, HB2.out⟩
  case round =>
    obtain ⟨j, T, hj, hT, hTs, hown, hb⟩ := hrel
    obtain ⟨Av, cv, rfl, hcv⟩ := own_slice hown
    have hnz := nz_lt l.length
    by_cases hend : T % 64 = 56
    · have hBq : (((T : Nat) : Int) % 64 != 56) = false := by simp; omega
      have hjj : j = nz l.length := nz_end hj (by rw [← hT.out]; exact hend)
      have hjK : Keep (j = nz l.length) := ⟨hjj⟩
      have HO := Lib.hid hown
      have HB := Lib.hid hb
      have hpre : l ++ [128] ++ List.replicate j 0 ++ beB ((l.length : Int) * 8) 8 = pad l := by rw [pad, hjj]
      have HPre := Keep.mk hpre
      have hl8 : ((n : Int) * 8) = nAt ((l.length : Int) * 8) 0 := by rw [nAt, hlen.out]
      have HL8 := Keep.mk hl8
      have hTT : T = (l ++ [128] ++ List.replicate j 0).length := by
        have h := hown.1
        rw [flat_length encB_length] at h
        omega
      have HTT := Keep.mk hTT
      clear hend hjj hown hb hnz hpre hTT hl8 HO1 HO2 hownN
      obtain ⟨pre, hpr⟩ : ∃ pre, l ++ [128] ++ List.replicate j 0 = pre := ⟨_, rfl⟩
      rw [hpr] at HO HPre HTT
      clear hpr
      obtain ⟨w3, rfl⟩ : ∃ w3 : World, w3 = wr := ⟨_, rfl⟩
      go_wp2_with fail
      have hN0 : (0 : Int) ≤ (l.length : Int) * 8 := by omega
      have hN1 : (l.length : Int) * 8 < 18446744073709551616 := by have := hlen.out; omega
      obtain ⟨N, hN⟩ : ∃ N : Int, (l.length : Int) * 8 = N := ⟨_, rfl⟩
      rw [hN] at hN0 hN1 HPre HL8
      have HN0 := Keep.mk hN0
      have HN1 := Keep.mk hN1
      clear hN hN0 hN1
      go_loopw [3, 4, 5] (fun v nn i wr => ∃ k : Nat, k ≤ 8 ∧ i = .int .i64 k ∧ nn = .int .u64 (nAt N k) ∧ wr.ownsRow w.heap.size 5 1 v (T + k) ((pre ++ (beB N 8).take k).flatMap encB) ∧ Below w.heap.size w wr) (fun _ _ i _ => 8 - (intOf i).toNat)
      case atStart => exact ⟨0, by omega, rfl, by rw [HL8.out], by rw [List.take_zero, List.append_nil]; exact HO.out, HB.out⟩
      case round =>
        obtain ⟨k, hk, rfl, rfl, hown, hb⟩ := hrel
        by_cases hlt : k < 8
        · have HO5 := Lib.hid hown
          have HB5 := Lib.hid hb
          have hbs := hb.size
          have hsn : (beB N 8).take (k + 1) = (beB N 8).take k ++ [topB (nAt N k)] := by
            rw [List.take_succ_eq_append_getElem (by rw [beB_length]; exact hlt), beB_at N HN0.out HN1.out k hlt]
          have HSN := Keep.mk hsn
          have hnx : nAt N (k + 1) = nAt N k * 256 % 18446744073709551616 := rfl
          have HNX := Keep.mk hnx
          clear hown hb hsn hnx HO HB
          generalize hz : nAt N k = z at HSN HNX
          have HZ := Keep.mk hz
          clear hz
          go_wp2_with (first
            | (refine wpList_append_bytes rfl (.tmp 31) (.tmp 35) 68 rfl Tryd.underlying68 w.heap.size _ (T + k) _ rfl (HO5.out.alloc _) wr.heap.size 1 [_] rfl 5 (heap_alloc_new _ _) rfl (by omega) (by omega) (by simp; omega) ?_; intro v4 w4 hown4 hgr4 hat4; have hb4 : Below w.heap.size w w4 := (HB5.out.alloc hbs _).grown hgr4 (by simp; omega) (fun j e => (HO5.out.lt j e).1); have HO4 := Lib.hid hown4; clear hgr4 hat4 hown4)
            | fail)
          go_roundw
          case rel =>
            refine ⟨k + 1, by omega, by go_num, by rw [HNX.out, IntKind.wrap_u64], ?_, hb4⟩
            rw [HSN.out, ← List.append_assoc, topB]
            exact HO4.out
          case measure => simp [intOf] <;> omega
        · have hk8 : k = 8 := by omega
          have hge : 8 ≤ k := by omega
          rw [List.take_of_length_le (by rw [beB_length]; exact hge), HPre.out] at hown
          obtain ⟨Q, hQ⟩ : ∃ Q, T + k = Q := ⟨_, rfl⟩
          rw [hQ] at hown
          obtain ⟨m, hm⟩ : ∃ m, pad l = m := ⟨_, rfl⟩
          have hml : m.length = Q := by
            have h := hown.1
            rw [hm, flat_length encB_length] at h
            omega
          have hmb : ∀ z ∈ m, 0 ≤ z ∧ z ≤ 255 := by rw [← hm]; exact pad_byte l hallH.out
          have hm64 : Q % 64 = 0 := by rw [← hml, ← hm]; exact pad_length l
          have hdig : digB l = bytesW (rdigN (Q / 64) m beginsR) := by rw [digB_eq l hallH.out, hm, hml]
          rw [hm] at hown
          obtain ⟨Am, cm, rfl, ham⟩ := Arg.of_own (by decide) encB_length hown
          have HAm := Lib.hid ham
          have HMB := Lib.hid hmb
          have HM64 := Keep.mk hm64
          have HDig := Keep.mk hdig
          have HB5 := Lib.hid hb
          have hQ1 : Q ≤ 100108 := by omega
          have hQ0 : 1 ≤ Q := by omega
          have hcm := ham.hcap
          have hcx := ham.hmax
          unfold maxLen at hcx
          have hb5s := hb.size
          clear hk8 hQ hm hml hmb hm64 hdig hown ham hb HO HB hk
          obtain ⟨w4, rfl⟩ : ∃ w4 : World, w4 = wr := ⟨_, rfl⟩
          go_wp2_with fail
          have hA6 : Arg (w4.alloc (.cells (beginsR.map w32).toArray 30)) 1 encW (some ⟨w4.heap.size, 0, none⟩) 8 8 beginsR := Arg.ofRow encW_length (t := 30) (fr := (0, 0)) (by rw [flat_encW]; exact heap_alloc_new _ _) 8 rfl (by decide)
          have hM6 : Arg (w4.alloc (.cells (beginsR.map w32).toArray 30)) 1 encB Am Q cm m := HAm.out.alloc _
          have hb6 : Below w.heap.size w (w4.alloc (.cells (beginsR.map w32).toArray 30)) := HB5.out.alloc hb5s _
          have HA6 := Keep.mk hA6
          have HM6 := Keep.mk hM6
          have HB6 := Lib.hid hb6
          clear hA6 hM6 hb6
          change Code.wp _ _ _ _ (w4.alloc (.cells (beginsR.map w32).toArray 30))
          generalize w4.alloc (.cells (beginsR.map w32).toArray 30) = w6 at *
          generalize beginsR = R0 at *
          go_loopw [6, 7] (fun hv av wr => ∃ (a : Nat) (Ah : Option Addr) (ch : Nat) (H : List W32), hv = .slice Ah 8 ch ∧ av = .int .i64 a ∧ a ≤ Q ∧ Keep (a % 64 = 0) ∧ Keep (Arg wr 1 encW Ah 8 ch H) ∧ Keep (Arg wr 1 encB Am Q cm m) ∧ Keep (rdigN ((Q - a) / 64) (m.drop a) H = rdigN (Q / 64) m R0) ∧ Below w.heap.size w wr) (fun _ av _ => Q - (intOf av).toNat)
          case atStart => exact ⟨0, _, _, _, rfl, rfl, by omega, ⟨by omega⟩, HA6, HM6, ⟨by simp⟩, HB6.out⟩
          case round =>
            obtain ⟨a, Ah, ch, H, rfl, rfl, haQ, ha64, hAH, hAM, hD, hb⟩ := hrel
            by_cases hlt : a < Q
            · have ha2 : a + 64 ≤ Q := by have := HM64.out; have := ha64.out; omega
              obtain ⟨bm, om, hAm, hbm, _⟩ := hAM.out.rd.byte (List.ne_nil_of_length_pos (by rw [hAM.out.hlen]; omega))
              subst hAm
              have hne : ¬ cm = a := by omega
              have hcut := hAM.out.cut (i := a) (j := a + 64) (m := 64) (c := cm - a) (by omega) ha2 hne (by omega) rfl
              have HCut := Keep.mk hcut
              have HB7 := Lib.hid hb
              clear hcut hb hbm HAm HM6
              go_wp2_with fail
              refine (compress_any Ah ch H _ (cm - a) _ wr hAH.out HCut.out (fun z hz => HMB.out z (List.mem_of_mem_drop (List.mem_of_mem_take hz)))).mono ?_
              rintro e w7 ⟨Ah2, ch2, rfl, hAH2, hb7⟩
              have HAH2 := Keep.mk hAH2
              have HB8 := Lib.hid (HB7.out.trans (hb7.mono HB7.out.size))
              have HAM2 := Keep.mk (hAM.out.below hb7)
              have hD2 : rdigN ((Q - (a + 64)) / 64) (m.drop (a + 64)) (rblk H ((m.drop a).take 64)) = rdigN (Q / 64) m R0 := by
                have h := hD.out
                rw [show (Q - a) / 64 = (Q - (a + 64)) / 64 + 1 by omega, rdigN, List.drop_drop] at h
                exact h
              have HD2 := Keep.mk hD2
              clear hAH2 hb7 hD2 hAM hD HCut hAH
              go_wp2_with fail
              go_roundw
              case rel => exact ⟨a + 64, Ah2, ch2, _, rfl, by go_num, by omega, ⟨by have := ha64.out; omega⟩, HAH2, HAM2, HD2, HB8.out⟩
              case measure => simp [intOf] <;> omega
            · have haq : a = Q := by omega
              have hge2 : Q ≤ a := by omega
              have hH : H = rdigN (Q / 64) m R0 := by
                have h := hD.out
                rw [haq, Nat.sub_self] at h
                exact h
              have hdg : digB l = bytesW H := by rw [HDig.out, hH]
              have HDg := Keep.mk hdg
              have HB7 := Lib.hid hb
              have hb7s := hb.size
              have hHl := hAH.out.hlen
              have HHl := Keep.mk hHl
              clear haq hH hdg hb hHl hAM hD
              obtain ⟨w7, rfl⟩ : ∃ w7 : World, w7 = wr := ⟨_, rfl⟩
              go_wp2_with fail
              go_loopw [8, 9] (fun v i wr => ∃ q : Nat, q ≤ 8 ∧ i = .int .i64 q ∧ wr.ownsRow w7.heap.size 5 1 v (4 * q) ((bytesW (H.take q)).flatMap encB) ∧ Below w7.heap.size w7 wr) (fun _ i _ => 8 - (intOf i).toNat)
              case atStart => exact ⟨0, by omega, rfl, World.ownsRow_nil _ _ _ _, Below.refl _ _⟩
              case round =>
                obtain ⟨q, hq, rfl, hown, hb⟩ := hrel
                by_cases hlt8 : q < 8
                · obtain ⟨bh, oh, hAhe, hbh, hch⟩ := hAH.out.rd.word (List.ne_nil_of_length_pos (by rw [HHl.out]; omega))
                  subst hAhe
                  have cH := (hb.cell (p := ⟨bh, oh + q, none⟩) hbh).trans (hch q (by rw [HHl.out]; exact hlt8))
                  obtain ⟨x, hx⟩ : ∃ x, H[q]'(by rw [HHl.out]; exact hlt8) = x := ⟨_, rfl⟩
                  have hsn : bytesW (H.take (q + 1)) = bytesW (H.take q) ++ beB (wv x) 4 := by rw [bytesW_snoc H q (by rw [HHl.out]; exact hlt8), hx]
                  rw [hx] at cH
                  have HSN := Keep.mk hsn
                  have HO := Lib.hid hown
                  have HB9 := Lib.hid hb
                  have hbs9 := hb.size
                  have tq0 : (0 : Int) ≤ (q : Int) := by omega
                  have tq1 : (q : Int) < 8 := by omega
                  clear hx hsn hch hown hb
                  go_wp2_with fail
                  go_region_held3 (fun W => W.cell? ⟨bh, oh + q, none⟩ = some (w32 x))
                    (first | go_keep | assumption)
                    (first
                      | (refine step_append_bytes rfl (.tmp 57) (.tmp 81) 68 rfl Tryd.underlying68 w7.heap.size _ (4 * q) _ rfl (HO.out.drew.alloc _) wr.heap.size 4 [_, _, _, _] rfl 5 (heap_alloc_new _ _) rfl (by omega) (by omega) ?_ ?_
                         · simp; omega
                         intro v8 w8 hown8 hgr8 hat8
                         have hb8 : Below w7.heap.size w7 w8 := (HB9.out.drew.alloc hbs9 _).grown hgr8 (by simp; omega) (fun j e => (HO.out.lt j e).1)
                         have cH8 := (hb8.cell (p := ⟨bh, oh + q, none⟩) hbh).trans ((HB9.out.cell (p := ⟨bh, oh + q, none⟩) hbh).symm.trans cH)
                         have HO8 := Lib.hid hown8
                         clear hgr8 hat8 hown8)
                      | fail)
                  go_wp2_with fail
                  go_roundw
                  case rel =>
                    refine ⟨q + 1, by omega, by go_num, ?_, hb8⟩
                    rw [HSN.out, beB4_eq, show 4 * (q + 1) = 4 * q + 4 by omega]
                    simpa only [IntKind.wrap_u8] using HO8.out
                  case measure => simp [intOf] <;> omega
                · have hq8 : q = 8 := by omega
                  have hge8 : 8 ≤ q := by omega
                  have h32 : 4 * q = 32 := by omega
                  rw [List.take_of_length_le (by rw [HHl.out]; exact hge8), h32] at hown
                  obtain ⟨A', c', rfl, ha'⟩ := Arg.of_own (by decide) encB_length hown
                  have HA := Keep.mk ha'
                  have HB9 := Lib.hid hb
                  clear hq8 h32 ha' hown hb hq
                  go_wp2_with fail
                  go_ret
                  exact ⟨A', c', rfl, by rw [HDg.out]; exact HA.out, HB7.out.trans (HB9.out.mono HB7.out.size)⟩
    · have hBq : (((T : Nat) : Int) % 64 != 56) = true := by simp; omega
      have hlt := nz_go hj (by rw [← hT.out]; exact hend)
      have HO := Lib.hid hown
      have HB := Lib.hid hb
      have hbs := hb.size
      clear hend hown hb HO1 HO2
      go_wp2_with (first
        | (refine wpList_append_bytes rfl (.tmp 20) (.tmp 21) 68 rfl Tryd.underlying68 w.heap.size _ T _ rfl (HO.out.alloc _) wr.heap.size 1 [0] rfl 5 (heap_alloc_new _ _) rfl (by omega) (by omega) (by simp; omega) ?_; intro v4 w4 hown4 hgr4 hat4; have hb4 : Below w.heap.size w w4 := (HB.out.alloc hbs _).grown hgr4 (by simp; omega) (fun j e => (HO.out.lt j e).1); have HO4 := Lib.hid hown4; obtain ⟨A4, c4, rfl, _⟩ := own_slice hown4; clear hgr4 hat4 hown4)
        | fail)
      go_roundw
      case rel =>
        refine ⟨j + 1, T + 1, by omega, ⟨by have := hT.out; omega⟩, by have := hT.out; have := hlen.out; omega, ?_, hb4⟩
        have h := HO4.out
        rw [List.replicate_succ', ← List.append_assoc]
        exact h
      case measure => have := hT.out; show 100200 - (T + 1) < 100200 - T; omega
end Go.Proofs.YtdmmcgcglkblhaaDoor
