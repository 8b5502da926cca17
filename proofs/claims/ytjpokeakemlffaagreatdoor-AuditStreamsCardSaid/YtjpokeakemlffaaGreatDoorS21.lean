/-
  Walks and laws, one behind the other (part 21).
-/
import Derived.IntWalk
import Derived.Laws.Rows
import Derived.StillTailTactics
import Derived.Test.YtjpokeakemlffaaGreatDoorS2
import Derived.Test.YtjpokeakemlffaaGreatDoorS7
import Derived.Test.YtjpokeakemlffaaGreatDoorS17
import Derived.Test.YtjpokeakemlffaaGreatDoorS18
import Derived.Test.YtjpokeakemlffaaGreatDoorS20
set_option linter.unusedSimpArgs false
set_option linter.unusedVariables false
/-
  The contract of sha.block: one block of 64 bytes goes into the eight words.
-/
namespace Go.Proofs.YtjpokeakemlffaaGreatDoor
open Go.RowKit
def wArr (l : List W32) : Array Value := (l.map w32).toArray
theorem wArr_cell {w : World} {g : Nat} {t : TypeId} {l : List W32} (h : w.heap[g]? = some (.cells (wArr l) t (0, 0))) (i : Nat) (hi : i < l.length) : w.cell? ⟨g, i, none⟩ = some (w32 l[i]) := by
  rw [cell_of_row w g i _ t (0, 0) h]
  simp [wArr, hi]
theorem wArr_free {w : World} {g : Nat} {t : TypeId} {l : List W32} (h : w.heap[g]? = some (.cells (wArr l) t (0, 0))) (i : Nat) : w.frozen? ⟨g, i, none⟩ = false := by simp [World.frozen?, h]
theorem wArr_set {w : World} {g : Nat} {t : TypeId} {l : List W32} (h : w.heap[g]? = some (.cells (wArr l) t (0, 0))) (i : Nat) (v : W32) :
    (w.setCell ⟨g, i, none⟩ (w32 v)).heap[g]? = some (.cells (wArr (l.set i v)) t (0, 0)) := by
  have hlt := lt_of_block h
  have h' : w.heap[g] = .cells (wArr l) t (0, 0) := by simpa [Array.getElem?_eq_getElem hlt] using h
  show (w.heap.modify g _)[g]? = _
  rw [Array.getElem?_eq_getElem (by simpa using hlt), Array.getElem_modify_self, h']
  simp [wArr, List.map_set]
def sg0 (x : W32) : W32 := trn x 7 18 7 ^^^ rr x 7 ^^^ (x >>> 3)
def sg1 (x : W32) : W32 := trn x 17 19 17 ^^^ rr x 17 ^^^ (x >>> 10)
def wordAt (p : List Int) (i : Nat) : W32 := BitVec.ofInt 32 (beN ((p.drop (4 * i)).take 4))
def nxt (p : List Int) (ws : List W32) (i : Nat) : W32 :=
  if i < 16 then wordAt p i else ws.getD (i - 16) 0 + ws.getD (i - 7) 0 + sg0 (ws.getD (i - 15) 0) + sg1 (ws.getD (i - 2) 0)
def sch (p : List Int) : Nat → List W32
  | 0 => []
  | i + 1 => sch p i ++ [nxt p (sch p i) i]
theorem sch_length (p : List Int) : ∀ i, (sch p i).length = i
  | 0 => rfl
  | i + 1 => by rw [sch, List.length_append, sch_length p i]; rfl
theorem setW_mid (l : List W32) (k : Nat) (v : W32) : (l ++ List.replicate (k + 1) 0).set l.length v = l ++ [v] ++ List.replicate k 0 := by
  rw [List.set_append_right _ _ (Nat.le_refl _)]
  simp [List.replicate_succ]
def rnds (K : Nat → W32) (ws : List W32) (h : Nat → W32) : Nat → (Nat → W32)
  | 0 => h
  | i + 1 => rnd (rnds K ws h i) (ws.getD i 0 + K i)
theorem infoW : (Tryz.prog.info? 48).map (fun i => (i.zero, i.size, i.bytes)) = some (some (.int .u32 0), 1, 4) := by kernel_rfl
theorem run_index_w (cs : Array Value) (i : Nat) (v : Value) (h : cs[i]? = some v) (hi : i < 64) (W : World) :
    (Instr.index 410 (.agg cs) (.int .i64 (i : Int))).run Tryz.prog W = .ok v W := by
  obtain ⟨i0, h0, _, h1, _⟩ := info_parts infoW
  simp [Instr.index, run_underlying Tryz.underlying410, asIntOf, hi, sizeOf, typeInfo, part, go_sem, h0, h1, h]
theorem Wheel8.below {w w' : World} {b t : Nat} {s : Nat → W32} (h : Wheel8 w b t s) (hlt : b < w.heap.size) (hb : Below w.heap.size w w') : Wheel8 w' b t s :=
  ⟨(hb.cell (p := ⟨b, _, none⟩) hlt).trans h.c0, (hb.cell (p := ⟨b, _, none⟩) hlt).trans h.c1, (hb.cell (p := ⟨b, _, none⟩) hlt).trans h.c2, (hb.cell (p := ⟨b, _, none⟩) hlt).trans h.c3, (hb.cell (p := ⟨b, _, none⟩) hlt).trans h.c4, (hb.cell (p := ⟨b, _, none⟩) hlt).trans h.c5, (hb.cell (p := ⟨b, _, none⟩) hlt).trans h.c6, (hb.cell (p := ⟨b, _, none⟩) hlt).trans h.c7, (hb.cell (p := ⟨b, _, none⟩) hlt).trans h.c8, fun o => (hb.frozen (p := ⟨b, o, none⟩) hlt).trans (h.fz o)⟩
theorem Wheel8.at_ {w : World} {b t : Nat} {s : Nat → W32} (h : Wheel8 w b t s) (ht : t % 8 = 0) : ∀ k, k < 8 → w.cell? ⟨b, k, none⟩ = some (w32 (s k))
  | 0, _ => by have := h.c0; rwa [ht] at this
  | 1, _ => by have := h.c1; rwa [show (t + 1) % 8 = 1 by omega] at this
  | 2, _ => by have := h.c2; rwa [show (t + 2) % 8 = 2 by omega] at this
  | 3, _ => by have := h.c3; rwa [show (t + 3) % 8 = 3 by omega] at this
  | 4, _ => by have := h.c4; rwa [show (t + 4) % 8 = 4 by omega] at this
  | 5, _ => by have := h.c5; rwa [show (t + 5) % 8 = 5 by omega] at this
  | 6, _ => by have := h.c6; rwa [show (t + 6) % 8 = 6 by omega] at this
  | 7, _ => by have := h.c7; rwa [show (t + 7) % 8 = 7 by omega] at this
  | k + 8, h => absurd h (by omega)
def addK (h : List W32) (s : Nat → W32) : Nat → List W32
  | 0 => h
  | k + 1 => (addK h s k).set k ((addK h s k).getD k 0 + s k)
theorem addK_length (h : List W32) (s : Nat → W32) : ∀ k, (addK h s k).length = h.length
  | 0 => rfl
  | k + 1 => by rw [addK, List.length_set, addK_length h s k]
theorem infoA8 : (Tryz.prog.info? 384).map (·.size) = some 8 := by kernel_rfl
theorem infoA64 : (Tryz.prog.info? 410).map (·.size) = some 64 := by kernel_rfl
theorem w_shr3 (x : W32) : wv x / (8 : Int) = wv (x >>> 3) := w_shr x 3
theorem w_shr10 (x : W32) : wv x / (1024 : Int) = wv (x >>> 10) := w_shr x 10
set_option maxRecDepth 100000 in
set_option maxHeartbeats 4000000 in
theorem block_any (B : Nat) (ht : TypeId) (h0 h1 h2 h3 h4 h5 h6 h7 : W32) (A : Option Addr) (c : Nat) (p : List Int) (w : World) (ha : Arg w 1 encB A 64 c p) (hall : ∀ z ∈ p, 0 ≤ z ∧ z ≤ 255)
    (hH : w.heap[B]? = some (.cells (wArr [h0, h1, h2, h3, h4, h5, h6, h7]) ht (0, 0))) :
    Calls Tryz.prog 325 #[.pointer (some ⟨B, 0, none⟩), .slice A 64 c] w fun e w' => e = .returned (.tuple #[]) ∧ w'.heap[B]? = some (.cells (wArr (addK [h0, h1, h2, h3, h4, h5, h6, h7] (rnds kW (sch p 64) (fun k => [h0, h1, h2, h3, h4, h5, h6, h7].getD k 0) 64) 8)) ht (0, 0)) ∧ w.grownBy w' (some B) := by
  have haH := Lib.hid ha
  have hallH := Lib.hid hall
  have HH := Lib.hid hH
  clear ha hall hH
  go_enter Tryz.func325, Tryz.ntmps325
  go_wp2
  have hg0 : (w.alloc (.cells (wArr (List.replicate 64 0)) 410)).heap[w.heap.size]? = some (.cells (wArr (List.replicate 64 0)) 410 (0, 0)) := heap_alloc_new w _
  have hb0 : Below w.heap.size w (w.alloc (.cells (wArr (List.replicate 64 0)) 410)) := (Below.refl _ w).alloc (Nat.le_refl _) _
  have HG0 := Lib.hid hg0
  have HB0 := Lib.hid hb0
  clear hg0 hb0
  change Code.wp _ _ _ _ (w.alloc (.cells (wArr (List.replicate 64 0)) 410))
  generalize w.alloc (.cells (wArr (List.replicate 64 0)) 410) = w1 at *
  go_loopw [15] (fun i wr => ∃ k : Nat, k ≤ 64 ∧ i = .int .i64 k ∧ Hid (wr.heap[w.heap.size]? = some (.cells (wArr (sch p k ++ List.replicate (64 - k) 0)) 410 (0, 0))) ∧ Below w.heap.size w wr) (fun i _ => 64 - (intOf i).toNat)
  case atStart => exact ⟨0, by omega, rfl, (by show _ = _; simpa [sch] using HG0.out), HB0.out⟩
  case round =>
    obtain ⟨k, hk, rfl, hg, hb⟩ := hrel
    by_cases hlt : k < 64
    · have hlen : (sch p k ++ List.replicate (64 - k) (0 : W32)).length = 64 := by rw [List.length_append, sch_length, List.length_replicate]; omega
      have hset := fun v => wArr_set hg.out k v
      have hsm : ∀ v, (sch p k ++ List.replicate (64 - k) (0 : W32)).set k v = sch p k ++ [v] ++ List.replicate (64 - (k + 1)) 0 := fun v => by
        have := setW_mid (sch p k) (64 - (k + 1)) v
        rw [sch_length, show 64 - (k + 1) + 1 = 64 - k by omega] at this
        exact this
      have hnx : sch p (k + 1) = sch p k ++ [nxt p (sch p k) k] := rfl
      have HN := Lib.hid hnx
      have HSet := Lib.hid hset
      have HSM := Lib.hid hsm
      clear hnx hset hsm
      by_cases h16 : k < 16
      · have hc := wArr_cell hg.out k (by rw [hlen]; omega)
        obtain ⟨y, hy⟩ : ∃ y, (sch p k ++ List.replicate (64 - k) (0 : W32))[k]'(by rw [hlen]; omega) = y := ⟨_, rfl⟩
        rw [hy] at hc
        have hf := wArr_free hg.out k
        obtain ⟨b, off, rfl, hbl, _⟩ := haH.out.rd.byte (List.ne_nil_of_length_pos (by rw [haH.out.hlen]; omega))
        have hcap := haH.out.hcap
        have hmax := haH.out.hmax
        unfold maxLen at hmax
        have hap := (haH.out.below hb).cut (i := 4 * k) (j := 4 * k + 4) (m := 4) (c := c - 4 * k) (by omega) (by omega) (by omega) (by omega) rfl
        have hby : ∀ z ∈ (p.drop (4 * k)).take 4, 0 ≤ z ∧ z ≤ 255 := fun z hz => hallH.out z (List.mem_of_mem_drop (List.mem_of_mem_take hz))
        have hbd := beN_bd _ hby
        have h4 : ((p.drop (4 * k)).take 4).length = 4 := hap.hlen
        rw [h4] at hbd
        have z0 := hbd.1
        have z1 : beN ((p.drop (4 * k)).take 4) < 4294967296 := hbd.2
        have hww : nxt p (sch p k) k = wordAt p k := by unfold nxt; rw [if_pos h16]
        have hwv : wv (wordAt p k) = beN ((p.drop (4 * k)).take 4) := wv_ofInt z0 z1
        have HA := Lib.hid hap
        have HBy := Lib.hid hby
        have HW := Lib.hid hww
        have HV := Lib.hid hwv
        have htt : ((p.drop (4 * k)).take 4).take 4 = (p.drop (4 * k)).take 4 := List.take_of_length_le (by omega)
        have HT := Lib.hid htt
        clear hap hby hbd h4 hww hwv htt hlen hy
        have hgl := lt_of_block hg.out
        obtain ⟨x, hx⟩ : ∃ x, beN ((p.drop (4 * k)).take 4) = x := ⟨_, rfl⟩
        rw [hx] at z0 z1 HV
        have HX := Lib.hid hx
        clear hx
        go_wp2_with (go_at_call 176; refine (take_any _ 4 _ 4 _ _ HA.out (by omega) (by omega) (by omega) (by omega) HBy.out).mono ?_; rintro e w2 ⟨A2, c2, rfl, _, hb2⟩; rw [HT.out, HX.out]; have hc2 := (hb2.cell (p := ⟨w.heap.size, k, none⟩) hgl).trans hc; have hf2 := (hb2.frozen (p := ⟨w.heap.size, k, none⟩) hgl).trans hf)
        go_roundw
        case rel =>
          refine ⟨k + 1, by omega, by go_num, ?_, (hb.trans (hb2.mono hb.size)).setCell (p := ⟨w.heap.size, k, none⟩) (Nat.le_refl _) _⟩
          have hg2 : w2.heap[w.heap.size]? = some (.cells (wArr (sch p k ++ List.replicate (64 - k) 0)) 410 (0, 0)) := (hb2.block _ hgl).trans hg.out
          have h3 := wArr_set hg2 k (wordAt p k)
          rw [HSM.out, w32, HV.out] at h3
          rw [HN.out, HW.out]
          exact h3
        case measure => simp [intOf] <;> omega
      · have hc := wArr_cell hg.out k (by rw [hlen]; omega)
        obtain ⟨y, hy⟩ : ∃ y, (sch p k ++ List.replicate (64 - k) (0 : W32))[k]'(by rw [hlen]; omega) = y := ⟨_, rfl⟩
        rw [hy] at hc
        have hf := wArr_free hg.out k
        have c15 := wArr_cell hg.out (k - 15) (by rw [hlen]; omega)
        rw [List.getElem_append_left (by rw [sch_length]; omega)] at c15
        obtain ⟨y15, hy15⟩ : ∃ y, (sch p k)[k - 15]'(by rw [sch_length]; omega) = y := ⟨_, rfl⟩
        rw [hy15] at c15
        have g15 : (sch p k).getD (k - 15) 0 = y15 := by rw [List.getD_eq_getElem?_getD, List.getElem?_eq_getElem (by rw [sch_length]; omega), ← hy15]; rfl
        have c2 := wArr_cell hg.out (k - 2) (by rw [hlen]; omega)
        rw [List.getElem_append_left (by rw [sch_length]; omega)] at c2
        obtain ⟨y2, hy2⟩ : ∃ y, (sch p k)[k - 2]'(by rw [sch_length]; omega) = y := ⟨_, rfl⟩
        rw [hy2] at c2
        have g2 : (sch p k).getD (k - 2) 0 = y2 := by rw [List.getD_eq_getElem?_getD, List.getElem?_eq_getElem (by rw [sch_length]; omega), ← hy2]; rfl
        have c16 := wArr_cell hg.out (k - 16) (by rw [hlen]; omega)
        rw [List.getElem_append_left (by rw [sch_length]; omega)] at c16
        obtain ⟨y16, hy16⟩ : ∃ y, (sch p k)[k - 16]'(by rw [sch_length]; omega) = y := ⟨_, rfl⟩
        rw [hy16] at c16
        have g16 : (sch p k).getD (k - 16) 0 = y16 := by rw [List.getD_eq_getElem?_getD, List.getElem?_eq_getElem (by rw [sch_length]; omega), ← hy16]; rfl
        have c7 := wArr_cell hg.out (k - 7) (by rw [hlen]; omega)
        rw [List.getElem_append_left (by rw [sch_length]; omega)] at c7
        obtain ⟨y7, hy7⟩ : ∃ y, (sch p k)[k - 7]'(by rw [sch_length]; omega) = y := ⟨_, rfl⟩
        rw [hy7] at c7
        have g7 : (sch p k).getD (k - 7) 0 = y7 := by rw [List.getD_eq_getElem?_getD, List.getElem?_eq_getElem (by rw [sch_length]; omega), ← hy7]; rfl
        have hww : nxt p (sch p k) k = y16 + y7 + sg0 y15 + sg1 y2 := by unfold nxt; rw [if_neg h16, g16, g7, g15, g2]
        have HW := Lib.hid hww
        clear hlen hy hy15 hy2 hy16 hy7 g15 g2 g16 g7 hww
        have x15 : IntKind.i64.wrap ((k : Int) - 15) = (k : Int) - 15 := IntWalk.i64_in _ (by omega)
        have e15 : (0 : Int) ≤ (k : Int) - 15 := by omega
        have f15 : (k : Int) - 15 < 64 := by omega
        have i15 : (15 : Int) ≤ (k : Int) := by omega
        have j15 : (k : Int) < 64 + 15 := by omega
        have t15 : ((k : Int) - 15).toNat = k - 15 := by omega
        have x2 : IntKind.i64.wrap ((k : Int) - 2) = (k : Int) - 2 := IntWalk.i64_in _ (by omega)
        have e2 : (0 : Int) ≤ (k : Int) - 2 := by omega
        have f2 : (k : Int) - 2 < 64 := by omega
        have i2 : (2 : Int) ≤ (k : Int) := by omega
        have j2 : (k : Int) < 64 + 2 := by omega
        have t2 : ((k : Int) - 2).toNat = k - 2 := by omega
        have x16 : IntKind.i64.wrap ((k : Int) - 16) = (k : Int) - 16 := IntWalk.i64_in _ (by omega)
        have e16 : (0 : Int) ≤ (k : Int) - 16 := by omega
        have f16 : (k : Int) - 16 < 64 := by omega
        have i16 : (16 : Int) ≤ (k : Int) := by omega
        have j16 : (k : Int) < 64 + 16 := by omega
        have t16 : ((k : Int) - 16).toNat = k - 16 := by omega
        have x7 : IntKind.i64.wrap ((k : Int) - 7) = (k : Int) - 7 := IntWalk.i64_in _ (by omega)
        have e7 : (0 : Int) ≤ (k : Int) - 7 := by omega
        have f7 : (k : Int) - 7 < 64 := by omega
        have i7 : (7 : Int) ≤ (k : Int) := by omega
        have j7 : (k : Int) < 64 + 7 := by omega
        have t7 : ((k : Int) - 7).toNat = k - 7 := by omega
        go_wp2
        go_quiet (fail)
        go_wp2
        go_region_held3 (fun W => W.cell? ⟨w.heap.size, k - 16, none⟩ = some (w32 y16) ∧ W.cell? ⟨w.heap.size, k - 7, none⟩ = some (w32 y7))
          (first
            | go_keep
            | (go_split_ands
               refine ⟨?_, ?_⟩ <;> (rw [cell_far (by omega)]; assumption)))
          (first
            | (go_at_call 354; refine (turns_any _ _ _ _ (by omega) (by omega) (by omega) (by omega) (by omega) (by omega) _).mono ?_; rintro e w' ⟨rfl, rfl⟩)
            | (go_at_call 355; refine (rotl_any _ _ (by omega) (by omega) _).mono ?_; rintro e w' ⟨rfl, rfl⟩)
            | fail)
        simp only [w_wrap, w_xor, w_shr3, w_shr10]
        go_wp2
        go_roundw
        case rel =>
          refine ⟨k + 1, by omega, by go_num, ?_, (below_drewN hb _).setCell (p := ⟨w.heap.size, k, none⟩) (Nat.le_refl _) _⟩
          have h3 := HSet.out (nxt p (sch p k) k)
          rw [HSM.out, HW.out] at h3
          rw [HN.out, HW.out]
          exact h3
        case measure => simp [intOf] <;> omega
    · obtain rfl : k = 64 := by omega
      have hws : wr.heap[w.heap.size]? = some (.cells (wArr (sch p 64)) 410 (0, 0)) := by have := hg.out; simpa using this
      have hbl := lt_of_block HH.out
      clear hk hlt
      have hHr : wr.heap[B]? = some (.cells #[w32 h0, w32 h1, w32 h2, w32 h3, w32 h4, w32 h5, w32 h6, w32 h7] ht (0, 0)) := (hb.block _ hbl).trans HH.out
      have hsz8 : (Tryz.prog.info? 384).map (·.size) = some 8 := infoA8
      have hsz64 : (Tryz.prog.info? 410).map (·.size) = some (wArr (sch p 64)).size := by
        have : (wArr (sch p 64)).size = 64 := by simp [wArr, sch_length]
        rw [this]; exact infoA64
      have HWs := Lib.hid hws
      have HHr := Lib.hid hHr
      have H8 := Lib.hid hsz8
      have H64 := Lib.hid hsz64
      clear hws hHr hsz8 hsz64 hg
      have hgl := lt_of_block HWs.out
      go_wp2_with (first
        | (refine wpList_load_row rfl 384 _ rfl B rfl ht _ (0, 0) _ HHr.out Tryz.underlying384 rfl H8.out ?_)
        | (refine wpList_load_row rfl 410 _ rfl w.heap.size rfl 410 (wArr (sch p 64)) (0, 0) _ ((Below.heap_alloc _ _ _ hgl).trans HWs.out) Tryz.underlying410 rfl H64.out ?_)
        | fail)
      have hbw : Below w.heap.size w (wr.alloc (.cells #[w32 h0, w32 h1, w32 h2, w32 h3, w32 h4, w32 h5, w32 h6, w32 h7, .int .i64 0] 413)) := hb.alloc hb.size _
      have hWh : Wheel8 (wr.alloc (.cells #[w32 h0, w32 h1, w32 h2, w32 h3, w32 h4, w32 h5, w32 h6, w32 h7, .int .i64 0] 413)) wr.heap.size 0 (fun k => [h0, h1, h2, h3, h4, h5, h6, h7].getD k 0) := by
        constructor <;> simp
      have hHb := (Below.heap_alloc wr (.cells #[w32 h0, w32 h1, w32 h2, w32 h3, w32 h4, w32 h5, w32 h6, w32 h7, .int .i64 0] 413) B (by have := hb.size; omega)).trans HHr.out
      have hsb := hb.size
      have HBW := Lib.hid hbw
      have HWh := Lib.hid hWh
      have HHb := Lib.hid hHb
      clear hb hbw hWh hHb
      change Code.wp _ _ _ _ (wr.alloc (.cells #[w32 h0, w32 h1, w32 h2, w32 h3, w32 h4, w32 h5, w32 h6, w32 h7, .int .i64 0] 413))
      have hsG : (wr.alloc (.cells #[w32 h0, w32 h1, w32 h2, w32 h3, w32 h4, w32 h5, w32 h6, w32 h7, .int .i64 0] 413)).heap.size = wr.heap.size + 1 := World.size_alloc _ _
      have HsG := Lib.hid hsG
      clear hsG
      generalize wr.alloc (.cells #[w32 h0, w32 h1, w32 h2, w32 h3, w32 h4, w32 h5, w32 h6, w32 h7, .int .i64 0] 413) = w2 at *
      obtain ⟨G, hG⟩ : ∃ G, wr.heap.size = G := ⟨_, rfl⟩
      rw [hG] at HWh hgl hsb HsG ⊢
      clear hG HWs HHr
      have hwl : (sch p 64).length = 64 := sch_length p 64
      obtain ⟨ws, hws0⟩ : ∃ ws, sch p 64 = ws := ⟨_, rfl⟩
      rw [hws0] at hwl ⊢
      have HWS0 : Keep (sch p 64 = ws) := ⟨hws0⟩
      clear hws0 H64
      have HWL := Lib.hid hwl
      clear hwl
      go_loopw [79] (fun i wz => ∃ k : Nat, k ≤ 64 ∧ i = .int .i64 k ∧ Hid (Wheel8 wz G (7 * k) (rnds kW ws (fun k => [h0, h1, h2, h3, h4, h5, h6, h7].getD k 0) k)) ∧ Hid (wz.heap[B]? = some (.cells #[w32 h0, w32 h1, w32 h2, w32 h3, w32 h4, w32 h5, w32 h6, w32 h7] ht (0, 0))) ∧ Below w.heap.size w wz ∧ G < wz.heap.size) (fun i _ => 64 - (intOf i).toNat)
      case atStart => exact ⟨0, by omega, rfl, HWh.out, HHb.out, HBW.out, (by have := HsG.out; omega)⟩
      case round =>
        obtain ⟨k, hk, rfl, hW8, hHk, hbk, hGk⟩ := hrel
        by_cases hlt : k < 64
        · have hwk : k < ws.length := by have := HWL.out; omega
          have hidx := fun W => run_index_w (wArr ws) k (w32 ws[k]) (by simp [wArr, hwk]) hlt W
          have hgd : ws.getD k 0 = ws[k] := by rw [List.getD_eq_getElem?_getD, List.getElem?_eq_getElem hwk]; rfl
          have HGD := Lib.hid hgd
          clear hgd
          obtain ⟨x, hx⟩ : ∃ x, ws[k] = x := ⟨_, rfl⟩
          rw [hx] at hidx HGD
          clear hx
          go_wp2_with (first
            | (go_at_call 324; go_loud (refine (word_any _ roundsL 64 k ?_ (by decide) roundsL_length hlt roundsL_hex _).mono ?_); (· kernel_rfl); rintro e w3 ⟨rfl, hb3⟩)
            | (go_at_call 356; rw [w_add]; refine (round_any G (7 * k) (rnds kW ws (fun k => [h0, h1, h2, h3, h4, h5, h6, h7].getD k 0) k) (x + kW k) (by omega) _ ?_).mono ?_; (· exact hW8.out.below hGk hb3); rintro e w4 ⟨rfl, hW9, hg4⟩)
            | fail)
          go_roundw
          case rel =>
            refine ⟨k + 1, by omega, by go_num, ?_, ?_, ?_, ?_⟩
            · show Wheel8 _ _ _ _
              rw [rnds, HGD.out, show 7 * (k + 1) = 7 * k + 7 by omega]
              exact hW9
            · show _ = _
              rw [hg4.block B (by have := hb3.size; omega) (by simp; omega), hb3.block B (by omega)]
              exact hHk.out
            · exact (hbk.trans (hb3.mono hbk.size)).grown hg4 (by have := hbk.size; have := hb3.size; omega) (fun j e => by cases e; omega)
            · have := hg4.size; have := hb3.size; omega
          case measure => simp [intOf] <;> omega
        · have hk64 : k = 64 := by omega
          have hz := hW8.out
          rw [hk64] at hz
          have hHz := hHk.out
          have hgr := grown_of_below hbk (some B)
          have HZ := Lib.hid hz
          have HHz := Lib.hid hHz
          have HGr := Lib.hid hgr
          have hBG : B ≠ G := by omega
          have hk2 : 64 ≤ k := by omega
          clear hz hHz hgr hbk hW8 hHk hk64 hlt
          obtain ⟨s, hs0⟩ : ∃ s, rnds kW ws (fun k => [h0, h1, h2, h3, h4, h5, h6, h7].getD k 0) 64 = s := ⟨_, rfl⟩
          rw [hs0] at HZ
          have HS0 : Keep (rnds kW ws (fun k => [h0, h1, h2, h3, h4, h5, h6, h7].getD k 0) 64 = s) := ⟨hs0⟩
          clear hs0
          obtain ⟨H0, hH0⟩ : ∃ H0 : List W32, [h0, h1, h2, h3, h4, h5, h6, h7] = H0 := ⟨_, rfl⟩
          have hHl : H0.length = 8 := by rw [← hH0]; rfl
          have hHz2 : Hid (wr.heap[B]? = some (.cells (wArr H0) ht (0, 0))) := hH0 ▸ HHz.out
          clear HHz
          have HHl := Lib.hid hHl
          have HH0 := Lib.hid hH0
          clear hH0 hHl HHb HWh HBW HG0 HB0
          go_wp2
          go_loopw [14, 89] (fun _ i wy => ∃ k : Nat, k ≤ 8 ∧ i = .int .i64 k ∧ Hid (Wheel8 wy G (7 * 64) s) ∧ Hid (wy.heap[B]? = some (.cells (wArr (addK H0 s k)) ht (0, 0))) ∧ w.grownBy wy (some B)) (fun _ i _ => 8 - (intOf i).toNat)
          case atStart => exact ⟨0, by omega, rfl, HZ.out, hHz2.out, HGr.out⟩
          case round =>
            obtain ⟨k, hk, rfl, hW, hH, hg⟩ := hrel
            by_cases hlt8 : k < 8
            · have hlen : (addK H0 s k).length = 8 := by rw [addK_length]; exact HHl.out
              have cH := wArr_cell hH.out k (by omega)
              have fH := wArr_free hH.out k
              have cW := hW.out.at_ (by omega) k hlt8
              obtain ⟨y, hy⟩ : ∃ y, (addK H0 s k)[k]'(by omega) = y := ⟨_, rfl⟩
              rw [hy] at cH
              have hnx : addK H0 s (k + 1) = (addK H0 s k).set k (y + s k) := by
                rw [addK, List.getD_eq_getElem?_getD, List.getElem?_eq_getElem (by omega), ← hy]; rfl
              have hset := wArr_set hH.out k (y + s k)
              rw [← hnx] at hset
              have HSet := Lib.hid hset
              clear hlen hy hnx hset
              go_wp2
              go_still_tail 12, (by kernel_rfl)
              change wpList _ _ _ _ _ wr.drew
              have cH2 : wr.drew.cell? ⟨B, k, none⟩ = some (w32 y) := cH
              have fH2 : wr.drew.frozen? ⟨B, k, none⟩ = false := fH
              clear cH fH cW
              go_wp2
              simp only [w_add]
              go_roundw
              case rel =>
                refine ⟨k + 1, by omega, by go_num, ?_, ?_, ?_⟩
                · show Wheel8 _ _ _ _
                  have h := hW.out
                  have hne : ∀ j, (⟨B, k, none⟩ : Addr) ≠ ⟨G, j, none⟩ := fun j e => hBG (by injection e)
                  exact ⟨(World.cell?_setCell_other _ _ _ _ (hne _)).trans h.c0, (World.cell?_setCell_other _ _ _ _ (hne _)).trans h.c1, (World.cell?_setCell_other _ _ _ _ (hne _)).trans h.c2, (World.cell?_setCell_other _ _ _ _ (hne _)).trans h.c3, (World.cell?_setCell_other _ _ _ _ (hne _)).trans h.c4, (World.cell?_setCell_other _ _ _ _ (hne _)).trans h.c5, (World.cell?_setCell_other _ _ _ _ (hne _)).trans h.c6, (World.cell?_setCell_other _ _ _ _ (hne _)).trans h.c7, (World.cell?_setCell_other _ _ _ _ (hne _)).trans h.c8, fun o => (World.frozen?_setCell _ _ _ _).trans (h.fz o)⟩
                · exact HSet.out
                · have hgs := grown_set hg k (w32 (y + s k))
                  exact ⟨hgs.os, hgs.tape, hgs.output, hgs.size, hgs.block⟩
              case measure => simp [intOf] <;> omega
            · obtain rfl : k = 8 := by omega
              go_wp2
              go_end0
              refine ⟨rfl, ?_, hg⟩
              rw [HWS0.out, HS0.out, HH0.out]
              exact hH.out
end Go.Proofs.YtjpokeakemlffaaGreatDoor
/-
  The contract of sha.Of: the digest of pieces.
-/
namespace Go.Proofs.YtjpokeakemlffaaGreatDoor
open Go.RowKit
def blk (H : List W32) (p : List Int) : List W32 := addK H (rnds kW (sch p 64) (fun k => H.getD k 0) 64) 8
theorem blk_length (H : List W32) (p : List Int) : (blk H p).length = H.length := addK_length _ _ _
theorem block_list (B : Nat) (ht : TypeId) (H : List W32) (h8 : H.length = 8) (A : Option Addr) (c : Nat) (p : List Int) (w : World) (ha : Arg w 1 encB A 64 c p) (hall : ∀ z ∈ p, 0 ≤ z ∧ z ≤ 255)
    (hH : w.heap[B]? = some (.cells (wArr H) ht (0, 0))) :
    Calls Tryz.prog 325 #[.pointer (some ⟨B, 0, none⟩), .slice A 64 c] w fun e w' => e = .returned (.tuple #[]) ∧ w'.heap[B]? = some (.cells (wArr (blk H p)) ht (0, 0)) ∧ w.grownBy w' (some B) := by
  match H, h8 with
  | [h0, h1, h2, h3, h4, h5, h6, h7], _ => exact block_any B ht h0 h1 h2 h3 h4 h5 h6 h7 A c p w ha hall hH
def nz (n : Nat) : Nat := (119 - n % 64) % 64
def pad (l : List Int) : List Int := l ++ [128] ++ List.replicate (nz l.length) 0 ++ beB ((l.length : Int) * 8) 8
theorem nz_lt (n : Nat) : nz n < 64 := by unfold nz; omega
theorem nz_end {n j : Nat} (hj : j ≤ nz n) (h : (n + 1 + j) % 64 = 56) : j = nz n := by unfold nz at *; omega
theorem nz_go {n j : Nat} (hj : j ≤ nz n) (h : (n + 1 + j) % 64 ≠ 56) : j < nz n := by unfold nz at *; omega
theorem pad_byte (l : List Int) (h : ∀ z ∈ l, 0 ≤ z ∧ z ≤ 255) : ∀ z ∈ pad l, 0 ≤ z ∧ z ≤ 255 := by
  intro z hz
  simp only [pad, List.mem_append, List.mem_singleton, List.mem_replicate] at hz
  rcases hz with ((hz | hz) | hz) | hz
  · exact h z hz
  · omega
  · omega
  · exact beB_byte _ _ z hz
theorem run_index_in (i : Nat) (H : List W32) (hH : H.length = 8) (hi : i < 8) (w : World) :
    (Instr.index 384 (.agg (wArr H)) (.int .i64 (i : Int))).run Tryz.prog w = .ok (w32 (H[i]'(by omega))) w := by
  have h : Tryz.prog.underlying 384 = some (.array 8 48) := by kernel_rfl
  have e : (wArr H)[i]? = some (w32 (H[i]'(by omega))) := by simp [wArr, hH, hi]
  simp [Instr.index, run_underlying h, asIntOf, go_sem, hi, e]
def bytesW (H : List W32) : List Int := H.flatMap fun h => beB (h.toNat : Int) 4
def digN : Nat → List Int → List W32 → List W32
  | 0, _, H => H
  | n + 1, m, H => digN n (m.drop 64) (blk H (m.take 64))
theorem bytesW_length : ∀ H : List W32, (bytesW H).length = 4 * H.length
  | [] => rfl
  | h :: r => by
    have := bytesW_length r
    rw [bytesW] at this ⊢
    rw [List.flatMap_cons, List.length_append, beB_length, this, List.length_cons]; omega
theorem bytesW_snoc (H : List W32) (i : Nat) (hi : i < H.length) : bytesW (H.take (i + 1)) = bytesW (H.take i) ++ beB (wv H[i]) 4 := by
  rw [bytesW, List.take_succ_eq_append_getElem hi, List.flatMap_append]
  simp [bytesW, wv]
theorem bytesW_splice (H : List W32) (h8 : H.length = 8) (i : Nat) (hi : i < 8) (x : W32) (hx : H[i]'(by omega) = x) :
    splice ((bytesW (H.take i) ++ List.replicate (32 - 4 * i) 0).map (Value.int .u8)) (4 * i) ((beB (wv x) 4).map (Value.int .u8)) =
      (bytesW (H.take (i + 1)) ++ List.replicate (32 - 4 * (i + 1)) 0).map (Value.int .u8) := by
  have hl : (bytesW (H.take i)).length = 4 * i := by rw [bytesW_length, List.length_take]; omega
  rw [bytesW_snoc H i (by omega), hx, splice, ← List.map_take, ← List.map_drop, ← List.map_append, ← List.map_append, List.length_map, beB_length]
  congr 1
  rw [List.take_append_of_le_length (by omega), List.take_of_length_le (by omega), List.drop_append, List.drop_of_length_le (by omega), List.nil_append, hl, List.drop_replicate]
  rw [show 32 - 4 * i - (4 * i + 4 - 4 * i) = 32 - 4 * (i + 1) by omega, List.append_assoc]
theorem wpList_store_row {P : Program} {ops : Array Oper} {rest : List Oper} {op : Oper} {a : Act} {w : World} {Q : Exit → Act → World → Prop} (hgd : op.guard = none) (ty : TypeId) (x y : Operand) (ho : op.op = .store ty x y)
    (g : Nat) (t : TypeId) (cells cs : Array Value) (hx : a.eval x = .pointer (some ⟨g, 0, none⟩)) (hy : a.eval y = .agg cs) (hg : w.heap[g]? = some (.cells cells t (0, 0)))
    (hi : (P.info? ty).map (·.size) = some cs.size) (hs : cells.size = cs.size) (h1 : cs.all (·.oneCell') = true)
    (h : wpList P ops Q rest (a.put op.dst undef) (w.setRow g cs)) : wpList P ops Q (op :: rest) a w :=
  wpList_plain hgd fun K hK => by
    unfold Oper.wp execOp
    simp only [ho, hx, hy, Instr.storeAt, Instr.sureAddr, Sem.run_bind, Sem.run_pure, Result.andThen_ok, run_storeVar_row (P := P) w g t ty cells cs hg hi hs h1]
    exact hK _ _ h
theorem bArr_one (l : List Int) : (bArr l).all (·.oneCell') = true := by simp [bArr, Value.oneCell']
theorem bArr_size (l : List Int) : (bArr l).size = l.length := by simp [bArr]
theorem infoA32 : (Tryz.prog.info? 337).map (·.size) = some 32 := by kernel_rfl
theorem digN_length : ∀ (n : Nat) (m : List Int) (H : List W32), (digN n m H).length = H.length
  | 0, _, _ => rfl
  | n + 1, m, H => by rw [digN, digN_length n, blk_length]
def digest (l : List Int) : List W32 := digN ((pad l).length / 64) (pad l) ((List.range 8).map bW)
def digB (l : List Int) : List Int := bytesW (digest l)
theorem digest_length (l : List Int) : (digest l).length = 8 := by rw [digest, digN_length]; simp
theorem digB_length (l : List Int) : (digB l).length = 32 := by rw [digB, bytesW_length, digest_length]
set_option maxRecDepth 100000 in
set_option maxHeartbeats 4000000 in
theorem of_any (A : Option Addr) (n ca : Nat) (ps : List Pc) (w : World) (ha : Arg w 1 encP A n ca ps) (hok : PcsOk w ps) (hn : n ≤ 1000000) (hg : (glue ps).length ≤ 100000) (hby : ∀ z ∈ glue ps, 0 ≤ z ∧ z ≤ 255) :
    Calls Tryz.prog 275 #[.slice A n ca] w fun r w' => r = .returned (.agg (bArr (digB (glue ps)))) ∧ Below w.heap.size w w' := by
  obtain ⟨i0, hi, hz0, hz1, hz2⟩ := info_parts infoB
  have haH := Lib.hid ha
  have hokH := Lib.hid hok
  have hbyH := Lib.hid hby
  clear ha hok hby
  go_enter Tryz.func275, Tryz.ntmps275
  go_wp2_with fail
  have hr0 : (w.alloc (.cells (bArr (List.replicate 32 0)) 337)).heap[w.heap.size]? = some (.cells (bArr (List.replicate 32 0)) 337 (0, 0)) := heap_alloc_new w _
  have hb0 : Below w.heap.size w (w.alloc (.cells (bArr (List.replicate 32 0)) 337)) := (Below.refl _ w).alloc (Nat.le_refl _) _
  have hs0 : (w.alloc (.cells (bArr (List.replicate 32 0)) 337)).heap.size = w.heap.size + 1 := World.size_alloc _ _
  have HR0 : Keep (_ = _) := ⟨hr0⟩
  have HS0 : Keep (_ = _) := ⟨hs0⟩
  have HB0 := Lib.hid hb0
  clear hr0 hb0 hs0
  change Calls _ _ _ (w.alloc (.cells (bArr (List.replicate 32 0)) 337)) _
  generalize w.alloc (.cells (bArr (List.replicate 32 0)) 337) = w1 at *
  refine (join_any A n ca ps _ (haH.out.below HB0.out) (hokH.out.below HB0.out) hn (by omega)).mono ?_
  rintro e w2 ⟨A2, c2, rfl, ha2, hown2, hb2⟩
  obtain ⟨l, hl⟩ : ∃ l, glue ps = l := ⟨_, rfl⟩
  rw [hl] at ha2 hown2 hbyH hg ⊢
  have HL : Keep (glue ps = l) := ⟨hl⟩
  clear hl ha2
  have HO2 := Lib.hid hown2
  clear hown2
  go_wp2_with (first
    | (at_builtin; go_loud (refine wpList_append_own _ rfl _ _ 24 rfl w1.heap.size 5 i0 (.int .u8 0) 1 1 Tryz.underlying24 hi hz0 hz1 hz2 rfl (by decide) _ l.length _ rfl (HO2.out.alloc _) ⟨w2.heap.size, 0, none⟩ 1 1 [.int .u8 128] rfl (by exact rfl) (by exact new_row _ _ _) (by simp [Value.oneCell']) (by simp only [maxLen]; omega) (by omega) (by have := hb2.size; simp; omega) ?_); intro v3 w3 hown3 hgrow3 _))
  have hb3 : Below w1.heap.size w1 w3 := (hb2.alloc hb2.size _).grown hgrow3 (by have := hb2.size; simp; omega) (fun j e => (HO2.out.lt j e).1)
  have hown3' : w3.ownsRow w1.heap.size 5 1 v3 (l.length + 1) ((l ++ [128]).flatMap encB) := by rw [List.flatMap_append]; exact hown3
  have HO3 := Lib.hid hown3'
  clear hown3 hgrow3 hown3'
  go_loopw [3] (fun v wr => ∃ j T : Nat, j ≤ nz l.length ∧ Keep (T = l.length + 1 + j) ∧ T ≤ 100100 ∧ wr.ownsRow w1.heap.size 5 1 v T ((l ++ [128] ++ List.replicate j 0).flatMap encB) ∧ Below w1.heap.size w1 wr) (fun v _ => match v with | .slice _ n _ => 100200 - n | _ => 0)
  case atStart => exact ⟨0, l.length + 1, by omega, ⟨rfl⟩, by omega, by simpa using HO3.out, hb3⟩
  case round =>
    obtain ⟨j, T, hj, hT, hTs, hown, hb⟩ := hrel
    obtain ⟨Av, cv, rfl, hcv⟩ := own_slice hown
    have hnz := nz_lt l.length
    by_cases hend : T % 64 = 56
    · have hB : (((T : Nat) : Int) % 64 != 56) = false := by simp; omega
      have hjj : j = nz l.length := nz_end hj (by rw [← hT.out]; exact hend)
      have hjK : Keep (j = nz l.length) := ⟨hjj⟩
      have HO := Lib.hid hown
      clear hend hjj hown hnz
      have haP : Arg wr 1 encB Av T cv (l ++ [128] ++ List.replicate j 0) := by
        obtain ⟨A', c', e, h⟩ := Arg.of_own (by decide) encB_length HO.out
        cases e
        exact h
      have HaP := Lib.hid haP
      clear haP
      go_wp2_with fail
      refine (put8_any Av T cv 8 ((l.length : Int) * 8) _ _ HaP.out (by omega) (by omega) (by omega) (by omega) (by omega)).mono ?_
      rintro e w5 ⟨rfl, hm5, hb5⟩
      obtain ⟨m, hm⟩ : ∃ m, l ++ [128] ++ List.replicate j 0 ++ beB ((l.length : Int) * 8) 8 = m := ⟨_, rfl⟩
      rw [hm] at hm5
      have hmp : pad l = m := by rw [← hm, pad, hjK.out]
      have HM : Keep (pad l = m) := ⟨hmp⟩
      have hml : m.length = T + 8 := by rw [← hm, List.length_append, beB_length, HaP.out.hlen]
      have HML : Keep (m.length = T + 8) := ⟨hml⟩
      have HMB : Hid (∀ z ∈ m, 0 ≤ z ∧ z ≤ 255) := Lib.hid (by rw [← hmp]; exact pad_byte l hbyH.out)
      have hT64 : (T + 8) % 64 = 0 := by have := hT.out; have := hjK.out; unfold nz at this; omega
      have HT64 : Keep ((T + 8) % 64 = 0) := ⟨hT64⟩
      have HM5 : Keep (w5.heap[wr.heap.size]? = some (.cells (bArr m) 5 (0, 0))) := ⟨hm5⟩
      have hb15 : Below w1.heap.size w1 w5 := hb.trans (hb5.mono hb.size)
      have hs5 := hb5.size
      have hsr := hb.size
      clear hm hmp hml hT64 hm5 hB hb hb5
      go_wp2
      have hh0 : (w5.alloc (.cells (wArr (List.replicate 8 0)) 384)).heap[w5.heap.size]? = some (.cells (wArr (List.replicate 8 0)) 384 (0, 0)) := heap_alloc_new w5 _
      have hm0 : (w5.alloc (.cells (wArr (List.replicate 8 0)) 384)).heap[wr.heap.size]? = some (.cells (bArr m) 5 (0, 0)) := (Below.heap_alloc w5 _ _ (lt_of_block HM5.out)).trans HM5.out
      have hb6 : Below w1.heap.size w1 (w5.alloc (.cells (wArr (List.replicate 8 0)) 384)) := hb15.alloc hb15.size _
      have hs6 : (w5.alloc (.cells (wArr (List.replicate 8 0)) 384)).heap.size = w5.heap.size + 1 := World.size_alloc _ _
      have HH0 : Keep (_ = _) := ⟨hh0⟩
      have HM0 : Keep (_ = _) := ⟨hm0⟩
      have HS6 : Keep (_ = _) := ⟨hs6⟩
      have HB6 := Lib.hid hb6
      have hMH : wr.heap.size < w5.heap.size := lt_of_block HM5.out
      clear hh0 hm0 hb6 hs6 hb15 HM5
      change Code.wp _ _ _ _ (w5.alloc (.cells (wArr (List.replicate 8 0)) 384))
      generalize w5.alloc (.cells (wArr (List.replicate 8 0)) 384) = w6 at *
      generalize w5.heap.size = Hb at *
      generalize wr.heap.size = Mb at *
      go_loopw [6, 29] (fun _ i wr => ∃ k : Nat, k ≤ 8 ∧ i = .int .i64 k ∧ Keep (wr.heap[Hb]? = some (.cells (wArr ((List.range k).map bW ++ List.replicate (8 - k) 0)) 384 (0, 0))) ∧ Keep (wr.heap[Mb]? = some (.cells (bArr m) 5 (0, 0))) ∧ Below w1.heap.size w1 wr) (fun _ i _ => 8 - (intOf i).toNat)
      case atStart => exact ⟨0, by omega, rfl, ⟨by simpa using HH0.out⟩, ⟨HM0.out⟩, HB6.out⟩
      case round =>
        obtain ⟨k, hk, rfl, hh, hm, hb⟩ := hrel
        by_cases hlt : k < 8
        · have hlen : ((List.range k).map bW ++ List.replicate (8 - k) (0 : W32)).length = 8 := by simp; omega
          have cH := wArr_cell hh.out k (by omega)
          obtain ⟨y, hy⟩ : ∃ y, ((List.range k).map bW ++ List.replicate (8 - k) (0 : W32))[k]'(by omega) = y := ⟨_, rfl⟩
          rw [hy] at cH
          have fH := wArr_free hh.out k
          have hHl := lt_of_block hh.out
          have hset : ∀ v, ((List.range k).map bW ++ List.replicate (8 - k) (0 : W32)).set k v = (List.range k).map bW ++ [v] ++ List.replicate (8 - (k + 1)) 0 := fun v => by
            have := setW_mid ((List.range k).map bW) (8 - (k + 1)) v
            rw [List.length_map, List.length_range, show 8 - (k + 1) + 1 = 8 - k by omega] at this
            exact this
          have HSet := Lib.hid hset
          clear hlen hy hset
          go_wp2_with (first
            | (go_at_call 324; go_loud (refine (word_any _ beginsL 8 k ?_ (by decide) beginsL_length hlt beginsL_hex _).mono ?_); (· kernel_rfl); rintro e w7 ⟨rfl, hb7⟩; have cH7 := (hb7.cell (p := ⟨Hb, k, none⟩) hHl).trans cH; have fH7 := (hb7.frozen (p := ⟨Hb, k, none⟩) hHl).trans fH)
            | fail)
          go_roundw
          case rel =>
            refine ⟨k + 1, by omega, by go_num, ⟨?_⟩, ⟨?_⟩, (hb.trans (hb7.mono hb.size)).setCell (p := ⟨Hb, k, none⟩) (by show _ ≤ Hb; omega) _⟩
            · have h7 := wArr_set ((hb7.block _ hHl).trans hh.out) k (bW k)
              rw [HSet.out] at h7
              rw [List.range_succ, List.map_append]
              exact h7
            · rw [Below.heap_setCell _ _ _ _ (by show Mb ≠ Hb; omega), hb7.block _ (lt_of_block hm.out)]
              exact hm.out
          case measure => simp [intOf] <;> omega
        · have hk8 : k = 8 := by omega
          have hH8 : Keep (wr.heap[Hb]? = some (.cells (wArr ((List.range 8).map bW)) 384 (0, 0))) := ⟨by have h := hh.out; rw [hk8] at h; simpa using h⟩
          clear hh hk8
          go_wp2_with fail
          go_loopw [3] (fun v wr => ∃ (A : Option Addr) (off n : Nat) (H : List W32), v = .slice A n n ∧ (0 < n → A = some ⟨Mb, off, none⟩) ∧ Keep (n % 64 = 0) ∧ Keep (off + n = T + 8) ∧ Keep (H.length = 8) ∧ Keep (wr.heap[Hb]? = some (.cells (wArr H) 384 (0, 0))) ∧ Keep (wr.heap[Mb]? = some (.cells (bArr m) 5 (0, 0))) ∧ Keep (digN (n / 64) (m.drop off) H = digN ((T + 8) / 64) m ((List.range 8).map bW)) ∧ Below w1.heap.size w1 wr) (fun v _ => match v with | .slice _ n _ => n | _ => 0)
          case atStart => exact ⟨_, 0, T + 8, _, rfl, fun _ => rfl, HT64, ⟨by omega⟩, ⟨by simp⟩, hH8, hm, ⟨by simp⟩, hb⟩
          case round =>
            obtain ⟨A, off, n, H, rfl, hA, hn64, hon, hHl, hH, hM, hD, hb⟩ := hrel
            by_cases hpos : 0 < n
            · have hge : 64 ≤ n := by have := hn64.out; omega
              obtain rfl := hA hpos
              clear hA
              go_wp2_with fail
              have hb6 := hb
              have hown := bArr_own hM.out (base := Mb) (Nat.le_refl _) (by rw [HML.out]; simp only [maxLen]; omega)
              obtain ⟨A', c', e', hA'⟩ := Arg.of_own (by decide) encB_length hown
              rw [HML.out] at e' hA'
              cases e'
              have hAc := hA'.cut (i := off) (j := off + 64) (m := 64) (c := n) (by omega) (by have := hon.out; omega) (by have := hon.out; omega) (by omega) (by have := hon.out; omega)
              rw [Nat.zero_add] at hAc
              refine (block_list Hb _ H hHl.out _ n _ wr hAc (fun z hz => HMB.out z (List.mem_of_mem_drop (List.mem_of_mem_take hz))) hH.out).mono ?_
              rintro e w7 ⟨rfl, hH7, hg7⟩
              clear hown hAc hA'
              have HH7 : Keep (_ = _) := ⟨hH7⟩
              have HG7 := Lib.hid hg7
              clear hH7 hg7
              go_wp2_with fail
              go_roundw
              case rel =>
                have hon' := hon.out
                have hn' := hn64.out
                have hsz : Mb < wr.heap.size := lt_of_block hM.out
                refine ⟨_, off + 64, n - 64, blk H ((m.drop off).take 64), rfl, fun h => ?_, ⟨by omega⟩, ⟨by omega⟩, ⟨by rw [blk_length]; exact hHl.out⟩, HH7, ⟨?_⟩, ⟨?_⟩, ?_⟩
                · exact if_neg (by omega)
                · exact (HG7.out.block Mb hsz (by simp; omega)).trans hM.out
                · have e : n / 64 = (n - 64) / 64 + 1 := by omega
                  have h := hD.out
                  rw [e, digN, List.drop_drop] at h
                  exact h
                · exact hb6.grown HG7.out hb6.size (fun j e => by cases e; omega)
              case measure => show n - 64 < n; omega
            · have hn0 : n = 0 := by omega
              subst hn0
              have hD' : Keep (H = digN ((T + 8) / 64) m ((List.range 8).map bW)) := ⟨by have h := hD.out; simpa [digN] using h⟩
              clear hD
              have hHlt := lt_of_block hH.out
              have H8 : Hid ((Tryz.prog.info? 384).map (·.size) = some (wArr H).size) := Lib.hid (by
                have : (wArr H).size = 8 := by simp [wArr, hHl.out]
                rw [this]; exact infoA8)
              have HB7 := Lib.hid hb
              clear hb
              go_wp2_with (first
                | (refine wpList_load_row rfl 384 _ rfl Hb rfl 384 (wArr H) (0, 0) _ ((Below.heap_alloc _ _ _ hHlt).trans hH.out) Tryz.underlying384 rfl H8.out ?_)
                | fail)
              have hd0 : (wr.alloc (.cells (bArr (List.replicate 32 0)) 337)).heap[wr.heap.size]? = some (.cells (bArr (List.replicate 32 0)) 337 (0, 0)) := heap_alloc_new wr _
              have hb8 : Below w1.heap.size w1 (wr.alloc (.cells (bArr (List.replicate 32 0)) 337)) := HB7.out.alloc HB7.out.size _
              have hs8 : (wr.alloc (.cells (bArr (List.replicate 32 0)) 337)).heap.size = wr.heap.size + 1 := World.size_alloc _ _
              have hsD := HB7.out.size
              have HD0 : Keep (_ = _) := ⟨hd0⟩
              have HS8 : Keep (_ = _) := ⟨hs8⟩
              have HB8 := Lib.hid hb8
              clear hd0 hb8 hs8
              change Code.wp _ _ _ _ (wr.alloc (.cells (bArr (List.replicate 32 0)) 337))
              generalize wr.alloc (.cells (bArr (List.replicate 32 0)) 337) = w8 at *
              generalize wr.heap.size = Db at *
              go_loopw [8, 9, 46] (fun _ _ iv wr => ∃ i : Nat, i ≤ 8 ∧ iv = .int .i64 i ∧ Keep (wr.heap[Db]? = some (.cells (bArr (bytesW (H.take i) ++ List.replicate (32 - 4 * i) 0)) 337 (0, 0))) ∧ Below w1.heap.size w1 wr) (fun _ _ iv _ => 8 - (intOf iv).toNat)
              case atStart => exact ⟨0, by omega, rfl, ⟨by simpa [bytesW] using HD0.out⟩, HB8.out⟩
              case round =>
                obtain ⟨i, hi8, rfl, hD8, hb⟩ := hrel
                by_cases hlt : i < 8
                · have hHB := Lib.hid hb
                  clear hb
                  have hIx := fun w' => run_index_in i H hHl.out hlt w'
                  obtain ⟨x, hx⟩ : ∃ x, H[i]'(by have := hHl.out; omega) = x := ⟨_, rfl⟩
                  rw [hx] at hIx
                  have HX : Keep (H[i]'(by have := hHl.out; omega) = x) := ⟨hx⟩
                  clear hx
                  have hcv : IntKind.u64.wrap (wv x) = wv x := by rw [IntKind.wrap_u64]; have := wv_lo x; have := wv_hi x; omega
                  have hM4 : IntKind.i64.wrap (4 * (i : Int)) = 4 * (i : Int) := IntWalk.i64_in _ (by omega)
                  have hM0 : (0 : Int) ≤ 4 * (i : Int) := by omega
                  have hM1 : 4 * (i : Int) ≤ 32 := by omega
                  have hMt : (4 * (i : Int)).toNat = 4 * i := by omega
                  have hDl := lt_of_block hD8.out
                  go_wp2_with fail
                  have hsz1 : Hid ((Tryz.prog.info? 5).map (·.size) = some 1) := Lib.hid (by rw [hi]; simp [hz1])
                  go_region_held3 (fun W => Below w1.heap.size w1 W) (first | with_reducible assumption | with_reducible exact hHB.out.drew) (first
                    | (go_at_call 170; refine (put8_any none 0 0 4 (wv x) [] _ (Arg.nil _ _ _) (by omega) (by omega) (by omega) (wv_lo x) (by have := wv_hi x; omega)).mono ?_; rintro e w5 ⟨rfl, hm5, hb5⟩; have hW5 := hHB.out.drew.trans (hb5.mono hHB.out.size); have HM5 : Keep (_ = _) := ⟨hm5⟩; clear hm5; have HD5 : Keep (w5.heap[Db]? = some (.cells (bArr (bytesW (H.take i) ++ List.replicate (32 - 4 * i) 0)) 337 (0, 0))) := ⟨(hb5.block _ hDl).trans hD8.out⟩)
                    | (refine step_copy_splice rfl (.tmp 52) (.tmp 55) 24 24 rfl 5 Tryz.underlying24 hsz1.out _ _ _ _ _ _ rfl rfl Db (4 * i) ((bytesW (H.take i) ++ List.replicate (32 - 4 * i) 0).map (Value.int .u8)) 337 HD5.out ((beB (wv x) 4).map (Value.int .u8)) ?_ ?_ ?_ ?_ w1.heap.size w1 hW5 hsD ?_
                       · rw [List.length_map, beB_length]; exact (Nat.min_eq_left (by omega)).symm
                       · intro _
                         refine ⟨rfl, _, rfl, fun j v hv => ?_⟩
                         have hc := cell_of_row w5 wr.heap.size j _ _ _ HM5.out
                         rw [show (⟨wr.heap.size, 0, none⟩ : Addr).add j = ⟨wr.heap.size, j, none⟩ from by unfold Addr.add; split <;> simp_all, hc, ← hv]
                         simp [bArr]
                       · rw [List.length_map, List.length_map, List.length_append, bytesW_length, List.length_take, beB_length, List.length_replicate, hHl.out]; omega
                       · intro v hv
                         obtain ⟨z, _, rfl⟩ := List.mem_map.1 hv
                         rfl
                       rw [bytesW_splice H hHl.out i hlt x HX.out]
                       intro w6 hg6 hb6)
                    | fail)
                  go_wp2_with fail
                  go_roundw
                  case rel => exact ⟨i + 1, by omega, by go_num, ⟨hg6.out⟩, hb6⟩
                  case measure => simp [intOf] <;> omega
                · obtain rfl : i = 8 := by omega
                  have hD9 : Keep (wr.heap[Db]? = some (.cells (bArr (bytesW H)) 337 (0, 0))) := ⟨by have h := hD8.out; rw [List.take_of_length_le (by have := hHl.out; omega)] at h; simpa using h⟩
                  clear hD8
                  have hlen : (bytesW H).length = 32 := by rw [bytesW_length, hHl.out]
                  have H32 : Hid ((Tryz.prog.info? 337).map (·.size) = some (bArr (bytesW H)).size) := Lib.hid (by rw [bArr_size, hlen]; exact infoA32)
                  have HR9 : Keep (wr.heap[w.heap.size]? = some (.cells (bArr (List.replicate 32 0)) 337 (0, 0))) := ⟨(hb.block _ (by have := HS0.out; omega)).trans HR0.out⟩
                  have hsz : (bArr (List.replicate 32 0)).size = (bArr (bytesW H)).size := by rw [bArr_size, bArr_size, hlen]; rfl
                  have HSz := Lib.hid hsz
                  have HB9 := Lib.hid hb
                  clear hlen hsz hb
                  go_wp2_with (first
                    | (refine wpList_load_row rfl 337 _ rfl Db rfl 337 (bArr (bytesW H)) (0, 0) _ hD9.out Tryz.underlying337 rfl H32.out ?_)
                    | (refine wpList_store_row rfl 337 _ _ rfl w.heap.size 337 (bArr (List.replicate 32 0)) (bArr (bytesW H)) rfl rfl HR9.out H32.out HSz.out (bArr_one _) ?_)
                    | fail)
                  have hHD : H = digest (glue ps) := by rw [HL.out, digest, HM.out, HML.out]; exact hD'.out
                  refine bodyPost_ret (v := .agg (bArr (bytesW H))) (results_cell_row (t := 337) (fr := (0, 0)) (d := .array 32 5) Tryz.results275 _ _ w.heap.size _ rfl (setRow_heap _ _ _ _ _ _ HR9.out) Tryz.underlying337 rfl H32.out) rfl ⟨by rw [hHD, digB], ?_⟩
                  exact (HB0.out.trans (HB9.out.mono HB0.out.size)).trans (below_setRow (Below.refl _ _) (Nat.le_refl _) _)
    · have hB : (((T : Nat) : Int) % 64 != 56) = true := by simp; omega
      have hlt := nz_go hj (by rw [← hT.out]; exact hend)
      have HO := Lib.hid hown
      clear hend
      go_wp2_with (first
        | (at_builtin; go_loud (refine wpList_append_own _ rfl _ _ 24 rfl w1.heap.size 5 i0 (.int .u8 0) 1 1 Tryz.underlying24 hi hz0 hz1 hz2 rfl (by decide) (.slice Av T cv) T _ rfl (HO.out.alloc _) ⟨wr.heap.size, 0, none⟩ 1 1 [.int .u8 0] rfl (by exact rfl) (by exact new_row _ _ _) (by simp [Value.oneCell']) (by simp only [maxLen]; omega) (by omega) (by have := hb.size; simp; omega) ?_); intro v4 w4 hown4 hgrow4 _))
      have hb4 : Below w1.heap.size w1 w4 := (hb.alloc hb.size _).grown hgrow4 (by have := hb.size; simp; omega) (fun j e => (HO.out.lt j e).1)
      obtain ⟨A4, c4, rfl, _⟩ := own_slice hown4
      have HO4 := Lib.hid hown4
      clear hown4 hgrow4
      go_roundw
      case rel =>
        refine ⟨j + 1, T + 1, by omega, ⟨by have := hT.out; omega⟩, by have := hT.out; omega, ?_, hb4⟩
        have h := HO4.out
        rw [List.replicate_succ', ← List.append_assoc, List.flatMap_append]
        exact h
      case measure => have := hT.out; show 100200 - (T + 1) < 100200 - T; omega
end Go.Proofs.YtjpokeakemlffaaGreatDoor
/-
  sha.Of of a new row of pieces.
-/
namespace Go.Proofs.YtjpokeakemlffaaGreatDoor
open Go.RowKit
theorem Arg.empty {α : Type} (w : World) (sz : Nat) (enc : α → List Value) (A : Option Addr) : Arg w sz enc A 0 0 ([] : List α) := ⟨rfl, Nat.le_refl _, by decide, fun _ => rfl, Rd.nil⟩
theorem PcsOk.alloc {w : World} {ps : List Pc} (h : PcsOk w ps) (o : Obj) : PcsOk (w.alloc o) ps := fun p hp => (h p hp).alloc o
theorem of_new (w : World) (g n : Nat) (ps : List Pc) (l : List Int) (hg : w.heap.size = g) (hn : ps.length = n) (hok : PcsOk w ps) (hl : glue ps = l) (hn1 : n ≤ 1000000) (h1 : l.length ≤ 100000) (hb : ∀ z ∈ l, 0 ≤ z ∧ z ≤ 255) :
    Calls Tryz.prog 275 #[.slice (some ⟨g, 0, none⟩) n n] (w.alloc (.cells (ps.flatMap encP).toArray 24)) fun r w' => r = .returned (.agg (bArr (digB l))) ∧ Below w.heap.size w w' := by
  subst hl
  refine (of_any _ n n ps _ (Arg.new' w g hg 24 (0, 0) 1 encP encP_length ps n hn (by unfold maxLen; omega)) (hok.alloc _) hn1 h1 hb).mono ?_
  rintro e w' ⟨rfl, hb'⟩
  exact ⟨rfl, ((Below.refl _ w).alloc (Nat.le_refl _) _).trans (hb'.mono (by simp))⟩
end Go.Proofs.YtjpokeakemlffaaGreatDoor
/-
  Layer 5: key.wide, key.head, key.Token.
-/
namespace Go.Proofs.YtjpokeakemlffaaGreatDoor
open Go.RowKit
def encU (x : Int) : List Value := [.int .u64 x]
theorem encU_length (x : Int) : (encU x).length = 1 := rfl
theorem Rd.num {w : World} {B : Nat} {A : Option Addr} {l : List Int} (h : Rd w B 1 encU A l) (hl : l ≠ []) : ∃ b off, A = some ⟨b, off, none⟩ ∧ b < B ∧ ∀ k (hk : k < l.length), w.cell? ⟨b, off + k, none⟩ = some (.int .u64 l[k]) := by
  obtain ⟨b, off, e, hb, hc⟩ := h hl
  refine ⟨b, off, e, hb, fun k hk => ?_⟩
  have := hc k _ (List.getElem?_eq_getElem hk) 0 (.int .u64 l[k]) rfl
  simpa using this
def wideB (k : Nat) (ns : List Int) : List Int := ns.flatMap (beB · k)
theorem wideB_snoc (k : Nat) (ns : List Int) (i : Nat) (hi : i < ns.length) : wideB k (ns.take (i + 1)) = wideB k (ns.take i) ++ beB ns[i] k := by
  rw [wideB, List.take_succ_eq_append_getElem hi, List.flatMap_append]
  simp [wideB]
set_option maxRecDepth 100000 in
set_option maxHeartbeats 2000000 in
theorem wide_any (k : Nat) (A : Option Addr) (n c : Nat) (ns : List Int) (w : World) (ha : Arg w 1 encU A n c ns) (hns : ∀ z ∈ ns, 0 ≤ z ∧ z < 18446744073709551616) (k1 : 1 ≤ k) (k8 : k ≤ 8) (hn : n ≤ 1000) :
    Calls Tryz.prog 276 #[.int .i64 k, .slice A n c] w fun e w' => ∃ A' c', e = .returned (.slice A' (k * n) c') ∧ Arg w' 1 encB A' (k * n) c' (wideB k ns) ∧ Below w.heap.size w w' := by
  have haH := Lib.hid ha
  have hlen := Keep.mk ha.hlen
  have hnsH := Lib.hid hns
  clear ha hns
  go_enter Tryz.func276, Tryz.ntmps276
  go_wp2_with fail
  go_loopw [5, 7, 10] (fun v _ i wr => ∃ (j m : Nat) (A' : Option Addr) (c' : Nat), j ≤ n ∧ Keep (m = k * j) ∧ m ≤ 8000 ∧ i = .int .i64 j ∧ v = .slice A' m c' ∧ Keep (Arg wr 1 encB A' m c' (wideB k (ns.take j))) ∧ Below w.heap.size w wr) (fun _ _ i _ => n - (intOf i).toNat)
  case atStart => exact ⟨0, 0, none, 0, by omega, ⟨by omega⟩, by omega, rfl, rfl, ⟨by simpa [wideB] using Arg.nil w 1 encB⟩, Below.refl _ _⟩
  case round =>
    obtain ⟨j, m, A', c', hj, hm, hm8, rfl, rfl, haj, hb⟩ := hrel
    by_cases hlt : j < n
    · obtain ⟨b, off, rfl, hbl, hc⟩ := haH.out.rd.num (List.ne_nil_of_length_pos (by rw [hlen.out]; omega))
      have c0 := (hb.cell (p := ⟨b, off + j, none⟩) hbl).trans (hc j (by rw [hlen.out]; exact hlt))
      have hx := hnsH.out (ns[j]'(by rw [hlen.out]; exact hlt)) (List.getElem_mem _)
      have hsn := wideB_snoc k ns j (by rw [hlen.out]; exact hlt)
      obtain ⟨x, hxx⟩ : ∃ x, ns[j]'(by rw [hlen.out]; exact hlt) = x := ⟨_, rfl⟩
      rw [hxx] at c0 hx hsn
      have HX := Keep.mk hx
      have HSN := Keep.mk hsn
      have hmk : m + k ≤ 8000 := by
        have h1 := hm.out
        have h2 : k * (j + 1) ≤ 8 * 1000 := Nat.mul_le_mul k8 (by omega)
        rw [Nat.mul_add] at h2
        omega
      have HM : Keep (m + k = k * (j + 1)) := ⟨by have := hm.out; rw [Nat.mul_add]; omega⟩
      have HB := Lib.hid hb
      clear hc hx hsn hxx hb hm
      go_wp2_with fail
      refine (put8_any A' m c' k x _ wr haj.out (by omega) k1 k8 HX.out.1 HX.out.2).mono ?_
      rintro e w1 ⟨rfl, hr1, hb1⟩
      have HR1 := Keep.mk (Arg.row (t := 5) (fr := (0, 0)) (l := wideB k (ns.take j) ++ beB x k) hr1 (m + k) (by rw [List.length_append, beB_length, haj.out.hlen]) (by unfold maxLen; omega))
      have HB1 := Lib.hid (HB.out.trans (hb1.mono HB.out.size))
      clear hr1 hb1 HB
      go_wp2_with fail
      go_roundw
      case rel => exact ⟨j + 1, m + k, _, _, by omega, HM, hmk, by go_num, rfl, ⟨by rw [HSN.out]; exact HR1.out⟩, HB1.out⟩
      case measure => simp [intOf] <;> omega
    · have hjn : j = n := by omega
      have hge : n ≤ j := by omega
      have hfin : Arg wr 1 encB A' (k * n) c' (wideB k ns) := by
        have h := haj.out
        rw [hm.out, hjn, List.take_of_length_le (by rw [hlen.out]; omega)] at h
        exact h
      have HM : Keep (m = k * n) := ⟨by rw [hm.out, hjn]⟩
      have HF := Keep.mk hfin
      have HB := Lib.hid hb
      clear hjn hfin hb hm haj
      go_wp2_with fail
      go_ret
      exact ⟨A', c', by rw [HM.out]; rfl, HF.out, HB.out⟩
set_option maxHeartbeats 1000000 in
theorem head_any (D : List Int) (k : Nat) (w : World) (hl : D.length = 32) (hD : ∀ z ∈ D, 0 ≤ z ∧ z ≤ 255) (k1 : 1 ≤ k) (k8 : k ≤ 8) :
    Calls Tryz.prog 274 #[.agg (bArr D), .int .i64 k] w fun e w' => e = .returned (.int .u64 (beN (D.take k))) ∧ Below w.heap.size w w' := by
  have HL := Keep.mk hl
  have HD := Lib.hid hD
  have hA := Keep.mk (Arg.row (w := w.alloc (.cells (bArr D) 337)) (g := w.heap.size) (t := 337) (fr := (0, 0)) (l := D) (heap_alloc_new w _) 32 hl (by decide))
  clear hl hD
  go_enter Tryz.func274, Tryz.ntmps274
  go_wp2_with fail
  refine (take_any _ 32 32 k D _ hA.out (by omega) (by omega) k1 k8 HD.out).mono ?_
  rintro e w1 ⟨A2, c2, rfl, _, hb1⟩
  have hb : Below w.heap.size w w1 := ((Below.refl _ w).alloc (Nat.le_refl _) _).trans (hb1.mono (by simp))
  clear hb1 hA
  go_wp2_with fail
  go_ret
  exact ⟨rfl, hb⟩
end Go.Proofs.YtjpokeakemlffaaGreatDoor
/-
  SHA-256, as the reference reckons it, answers what the program reckons: the plain law. No program in sight but for the names of its words.
-/
namespace Go.Proofs.YtjpokeakemlffaaGreatDoor
open Go.RowKit
end Go.Proofs.YtjpokeakemlffaaGreatDoor
/-
  key.Token.
-/
namespace Go.Proofs.YtjpokeakemlffaaGreatDoor
open Go.RowKit
def tokN (x : Int) : Int := beN ((digB (beB x 8)).take 4)
theorem digB_byte' (l : List Int) : ∀ z ∈ digB l, 0 ≤ z ∧ z ≤ 255 := fun z hz => by
  obtain ⟨x, _, hx⟩ := List.mem_flatMap.1 hz
  exact beB_byte _ _ z hx
theorem tok_bd (x : Int) : 0 ≤ tokN x ∧ tokN x < 4294967296 := by
  have h := beN_bd ((digB (beB x 8)).take 4) (fun z hz => digB_byte' _ z (List.mem_of_mem_take hz))
  rw [List.length_take, digB_length] at h
  exact h
theorem tok_wrap (x : Int) : IntKind.u32.wrap (tokN x) = tokN x := by rw [IntKind.wrap_u32]; have := tok_bd x; omega
set_option maxHeartbeats 1000000 in
theorem token_any (x : Int) (w : World) (h0 : 0 ≤ x) (h1 : x < 18446744073709551616) :
    Calls Tryz.prog 213 #[.int .u64 x] w fun e w' => e = .returned (.int .u32 (tokN x)) ∧ Below w.heap.size w w' := by
  have H0 := Keep.mk h0
  have H1 := Keep.mk h1
  clear h0 h1
  go_enter Tryz.func213, Tryz.ntmps213
  go_wp2_with fail
  have a1 := Arg.new' w _ rfl 42 (0, 0) 1 encU encU_length [x] 1 rfl (by decide)
  refine (wide_any 8 _ 1 1 [x] _ a1 (fun z hz => by simp only [List.mem_singleton] at hz; subst hz; exact ⟨H0.out, H1.out⟩) (by omega) (by omega) (by omega)).mono ?_
  rintro e w1 ⟨A1, c1, rfl, ha1, hb1⟩
  have hw : wideB 8 [x] = beB x 8 := by simp [wideB]
  rw [hw] at ha1
  have HA1 := Keep.mk ha1
  have HB1 := Lib.hid (((Below.refl _ w).alloc (Nat.le_refl _) _).trans (hb1.mono (by simp)))
  clear a1 ha1 hb1 hw
  go_wp2_with fail
  refine (of_new w1 _ 1 [⟨A1, 8 * 1, c1, beB x 8⟩] (beB x 8) rfl rfl (PcsOk.one HA1.out) (by simp [glue]) (by omega) (by rw [beB_length]; omega) (beB_byte x 8)).mono ?_
  rintro e w2 ⟨rfl, hb2⟩
  have HB2 := Lib.hid (HB1.out.trans (hb2.mono HB1.out.size))
  clear hb2
  go_wp2_with fail
  refine (head_any (digB (beB x 8)) 4 _ (digB_length _) (digB_byte' _) (by omega) (by omega)).mono ?_
  rintro e w3 ⟨rfl, hb3⟩
  have hb := HB2.out.trans (hb3.mono HB2.out.size)
  have HB3 := Lib.hid hb
  rw [show beN ((digB (beB x 8)).take 4) = tokN x from rfl]
  have htw := tok_wrap x
  clear hb hb3
  go_wp2_with fail
  go_ret
  exact ⟨rfl, HB3.out⟩
end Go.Proofs.YtjpokeakemlffaaGreatDoor
