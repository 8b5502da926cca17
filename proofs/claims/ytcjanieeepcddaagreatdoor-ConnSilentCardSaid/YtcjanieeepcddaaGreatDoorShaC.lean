/-
  The contract of sha.block: one block of 64 bytes goes into the eight words.
-/
import Derived.StillTailTactics
import Derived.Laws.Rows
import Derived.IntWalk
import Derived.Test.YtcjanieeepcddaaGreatDoorKeep
import Derived.Test.YtcjanieeepcddaaGreatDoorWord
import Derived.Test.YtcjanieeepcddaaGreatDoorShaB
import Derived.Test.YtcjanieeepcddaaGreatDoorPut
namespace Go.Proofs.YtcjanieeepcddaaGreatDoor
open Go.RowKit

/-- The cells of words. -/
def wArr (l : List W32) : Array Value := (l.map w32).toArray
theorem wArr_cell {w : World} {g : Nat} {t : TypeId} {l : List W32} (h : w.heap[g]? = some (.cells (wArr l) t (0, 0))) (i : Nat) (hi : i < l.length) : w.cell? ⟨g, i, none⟩ = some (w32 l[i]) := by
  rw [cell_of_row w g i _ t (0, 0) h]
  simp [wArr, hi]
theorem wArr_free {w : World} {g : Nat} {t : TypeId} {l : List W32} (h : w.heap[g]? = some (.cells (wArr l) t (0, 0))) (i : Nat) : w.frozen? ⟨g, i, none⟩ = false := by simp [World.frozen?, h]
theorem wArr_set {w : World} {g : Nat} {t : TypeId} {l : List W32} (h : w.heap[g]? = some (.cells (wArr l) t (0, 0))) (i : Nat) (v : W32) :
    (w.setCell ⟨g, i, none⟩ (w32 v)).heap[g]? = some (.cells (wArr (l.set i v)) t (0, 0)) := by
  have hlt := lt_of_block h
  have h' : w.heap[g] = .cells (wArr l) t (0, 0) := by simpa [Array.getElem?_eq_getElem hlt] using h
  show (w.heap.modify g _)[g]? = _
  rw [Array.getElem?_eq_getElem (by simpa using hlt), Array.getElem_modify_self, h']
  simp [wArr, List.map_set]


def sg0 (x : W32) : W32 := trn x 7 18 7 ^^^ rr x 7 ^^^ (x >>> 3)
def sg1 (x : W32) : W32 := trn x 17 19 17 ^^^ rr x 17 ^^^ (x >>> 10)
def wordAt (p : List Int) (i : Nat) : W32 := BitVec.ofInt 32 (beN ((p.drop (4 * i)).take 4))
def nxt (p : List Int) (ws : List W32) (i : Nat) : W32 :=
  if i < 16 then wordAt p i else ws.getD (i - 16) 0 + ws.getD (i - 7) 0 + sg0 (ws.getD (i - 15) 0) + sg1 (ws.getD (i - 2) 0)
def sch (p : List Int) : Nat → List W32
  | 0 => []
  | i + 1 => sch p i ++ [nxt p (sch p i) i]
theorem sch_length (p : List Int) : ∀ i, (sch p i).length = i
  | 0 => rfl
  | i + 1 => by rw [sch, List.length_append, sch_length p i]; rfl
theorem setW_mid (l : List W32) (k : Nat) (v : W32) : (l ++ List.replicate (k + 1) 0).set l.length v = l ++ [v] ++ List.replicate k 0 := by
  rw [List.set_append_right _ _ (Nat.le_refl _)]
  simp [List.replicate_succ]
/-- The words s behind i rounds. -/
def rnds (K : Nat → W32) (ws : List W32) (h : Nat → W32) : Nat → (Nat → W32)
  | 0 => h
  | i + 1 => rnd (rnds K ws h i) (ws.getD i 0 + K i)

theorem infoW : (Tryz.prog.info? 35).map (fun i => (i.zero, i.size, i.bytes)) = some (some (.int .u32 0), 1, 4) := by kernel_rfl
theorem run_index_w (cs : Array Value) (i : Nat) (v : Value) (h : cs[i]? = some v) (hi : i < 64) (W : World) :
    (Instr.index 267 (.agg cs) (.int .i64 (i : Int))).run Tryz.prog W = .ok v W := by
  obtain ⟨i0, h0, _, h1, _⟩ := info_parts infoW
  simp [Instr.index, run_underlying Tryz.underlying267, asIntOf, hi, sizeOf, typeInfo, part, go_sem, h0, h1, h]

theorem Wheel8.below {w w' : World} {b t : Nat} {s : Nat → W32} (h : Wheel8 w b t s) (hlt : b < w.heap.size) (hb : Below w.heap.size w w') : Wheel8 w' b t s :=
  ⟨(hb.cell (p := ⟨b, _, none⟩) hlt).trans h.c0, (hb.cell (p := ⟨b, _, none⟩) hlt).trans h.c1, (hb.cell (p := ⟨b, _, none⟩) hlt).trans h.c2, (hb.cell (p := ⟨b, _, none⟩) hlt).trans h.c3, (hb.cell (p := ⟨b, _, none⟩) hlt).trans h.c4, (hb.cell (p := ⟨b, _, none⟩) hlt).trans h.c5, (hb.cell (p := ⟨b, _, none⟩) hlt).trans h.c6, (hb.cell (p := ⟨b, _, none⟩) hlt).trans h.c7, (hb.cell (p := ⟨b, _, none⟩) hlt).trans h.c8, fun o => (hb.frozen (p := ⟨b, o, none⟩) hlt).trans (h.fz o)⟩
theorem Wheel8.at_ {w : World} {b t : Nat} {s : Nat → W32} (h : Wheel8 w b t s) (ht : t % 8 = 0) : ∀ k, k < 8 → w.cell? ⟨b, k, none⟩ = some (w32 (s k))
  | 0, _ => by have := h.c0; rwa [ht] at this
  | 1, _ => by have := h.c1; rwa [show (t + 1) % 8 = 1 by omega] at this
  | 2, _ => by have := h.c2; rwa [show (t + 2) % 8 = 2 by omega] at this
  | 3, _ => by have := h.c3; rwa [show (t + 3) % 8 = 3 by omega] at this
  | 4, _ => by have := h.c4; rwa [show (t + 4) % 8 = 4 by omega] at this
  | 5, _ => by have := h.c5; rwa [show (t + 5) % 8 = 5 by omega] at this
  | 6, _ => by have := h.c6; rwa [show (t + 6) % 8 = 6 by omega] at this
  | 7, _ => by have := h.c7; rwa [show (t + 7) % 8 = 7 by omega] at this
  | k + 8, h => absurd h (by omega)
/-- The eight words with the first k of them added to s. -/
def addK (h : List W32) (s : Nat → W32) : Nat → List W32
  | 0 => h
  | k + 1 => (addK h s k).set k ((addK h s k).getD k 0 + s k)
theorem addK_length (h : List W32) (s : Nat → W32) : ∀ k, (addK h s k).length = h.length
  | 0 => rfl
  | k + 1 => by rw [addK, List.length_set, addK_length h s k]
theorem infoA8 : (Tryz.prog.info? 226).map (·.size) = some 8 := by kernel_rfl
theorem infoA64 : (Tryz.prog.info? 267).map (·.size) = some 64 := by kernel_rfl
theorem w_shr3 (x : W32) : wv x / (8 : Int) = wv (x >>> 3) := w_shr x 3
theorem w_shr10 (x : W32) : wv x / (1024 : Int) = wv (x >>> 10) := w_shr x 10

set_option maxRecDepth 100000 in
set_option maxHeartbeats 4000000 in
theorem block_any (B : Nat) (ht : TypeId) (h0 h1 h2 h3 h4 h5 h6 h7 : W32) (A : Option Addr) (c : Nat) (p : List Int) (w : World) (ha : Arg w 1 encB A 64 c p) (hall : ∀ z ∈ p, 0 ≤ z ∧ z ≤ 255)
    (hH : w.heap[B]? = some (.cells (wArr [h0, h1, h2, h3, h4, h5, h6, h7]) ht (0, 0))) :
    Calls Tryz.prog 181 #[.pointer (some ⟨B, 0, none⟩), .slice A 64 c] w fun e w' => e = .returned (.tuple #[]) ∧ w'.heap[B]? = some (.cells (wArr (addK [h0, h1, h2, h3, h4, h5, h6, h7] (rnds kW (sch p 64) (fun k => [h0, h1, h2, h3, h4, h5, h6, h7].getD k 0) 64) 8)) ht (0, 0)) ∧ w.grownBy w' (some B) := by
  have haH := Lib.hid ha
  have hallH := Lib.hid hall
  have HH := Lib.hid hH
  clear ha hall hH
  go_enter Tryz.func181, Tryz.ntmps181
  go_wp2
  have hg0 : (w.alloc (.cells (wArr (List.replicate 64 0)) 267)).heap[w.heap.size]? = some (.cells (wArr (List.replicate 64 0)) 267 (0, 0)) := heap_alloc_new w _
  have hb0 : Below w.heap.size w (w.alloc (.cells (wArr (List.replicate 64 0)) 267)) := (Below.refl _ w).alloc (Nat.le_refl _) _
  have HG0 := Lib.hid hg0
  have HB0 := Lib.hid hb0
  clear hg0 hb0
  change Code.wp _ _ _ _ (w.alloc (.cells (wArr (List.replicate 64 0)) 267))
  generalize w.alloc (.cells (wArr (List.replicate 64 0)) 267) = w1 at *
  go_loopw [15] (fun i wr => ∃ k : Nat, k ≤ 64 ∧ i = .int .i64 k ∧ Hid (wr.heap[w.heap.size]? = some (.cells (wArr (sch p k ++ List.replicate (64 - k) 0)) 267 (0, 0))) ∧ Below w.heap.size w wr) (fun i _ => 64 - (intOf i).toNat)
  case atStart => exact ⟨0, by omega, rfl, (by show _ = _; simpa [sch] using HG0.out), HB0.out⟩
  case round =>
    obtain ⟨k, hk, rfl, hg, hb⟩ := hrel
    by_cases hlt : k < 64
    · have hlen : (sch p k ++ List.replicate (64 - k) (0 : W32)).length = 64 := by rw [List.length_append, sch_length, List.length_replicate]; omega
      have hset := fun v => wArr_set hg.out k v
      have hsm : ∀ v, (sch p k ++ List.replicate (64 - k) (0 : W32)).set k v = sch p k ++ [v] ++ List.replicate (64 - (k + 1)) 0 := fun v => by
        have := setW_mid (sch p k) (64 - (k + 1)) v
        rw [sch_length, show 64 - (k + 1) + 1 = 64 - k by omega] at this
        exact this
      have hnx : sch p (k + 1) = sch p k ++ [nxt p (sch p k) k] := rfl
      have HN := Lib.hid hnx
      have HSet := Lib.hid hset
      have HSM := Lib.hid hsm
      clear hnx hset hsm
      by_cases h16 : k < 16
      · have hc := wArr_cell hg.out k (by rw [hlen]; omega)
        obtain ⟨y, hy⟩ : ∃ y, (sch p k ++ List.replicate (64 - k) (0 : W32))[k]'(by rw [hlen]; omega) = y := ⟨_, rfl⟩
        rw [hy] at hc
        have hf := wArr_free hg.out k
        obtain ⟨b, off, rfl, hbl, _⟩ := haH.out.rd.byte (List.ne_nil_of_length_pos (by rw [haH.out.hlen]; omega))
        have hcap := haH.out.hcap
        have hmax := haH.out.hmax
        unfold maxLen at hmax
        have hap := (haH.out.below hb).cut (i := 4 * k) (j := 4 * k + 4) (m := 4) (c := c - 4 * k) (by omega) (by omega) (by omega) (by omega) rfl
        have hby : ∀ z ∈ (p.drop (4 * k)).take 4, 0 ≤ z ∧ z ≤ 255 := fun z hz => hallH.out z (List.mem_of_mem_drop (List.mem_of_mem_take hz))
        have hbd := beN_bd _ hby
        have h4 : ((p.drop (4 * k)).take 4).length = 4 := hap.hlen
        rw [h4] at hbd
        have z0 := hbd.1
        have z1 : beN ((p.drop (4 * k)).take 4) < 4294967296 := hbd.2
        have hww : nxt p (sch p k) k = wordAt p k := by unfold nxt; rw [if_pos h16]
        have hwv : wv (wordAt p k) = beN ((p.drop (4 * k)).take 4) := wv_ofInt z0 z1
        have HA := Lib.hid hap
        have HBy := Lib.hid hby
        have HW := Lib.hid hww
        have HV := Lib.hid hwv
        have htt : ((p.drop (4 * k)).take 4).take 4 = (p.drop (4 * k)).take 4 := List.take_of_length_le (by omega)
        have HT := Lib.hid htt
        clear hap hby hbd h4 hww hwv htt hlen hy
        have hgl := lt_of_block hg.out
        obtain ⟨x, hx⟩ : ∃ x, beN ((p.drop (4 * k)).take 4) = x := ⟨_, rfl⟩
        rw [hx] at z0 z1 HV
        have HX := Lib.hid hx
        clear hx
        go_wp2_with (go_at_call 173; refine (take_any _ 4 _ 4 _ _ HA.out (by omega) (by omega) (by omega) (by omega) HBy.out).mono ?_; rintro e w2 ⟨A2, c2, rfl, _, hb2⟩; rw [HT.out, HX.out]; have hc2 := (hb2.cell (p := ⟨w.heap.size, k, none⟩) hgl).trans hc; have hf2 := (hb2.frozen (p := ⟨w.heap.size, k, none⟩) hgl).trans hf)
        go_roundw
        case rel =>
          refine ⟨k + 1, by omega, by go_num, ?_, (hb.trans (hb2.mono hb.size)).setCell (p := ⟨w.heap.size, k, none⟩) (Nat.le_refl _) _⟩
          have hg2 : w2.heap[w.heap.size]? = some (.cells (wArr (sch p k ++ List.replicate (64 - k) 0)) 267 (0, 0)) := (hb2.block _ hgl).trans hg.out
          have h3 := wArr_set hg2 k (wordAt p k)
          rw [HSM.out, w32, HV.out] at h3
          rw [HN.out, HW.out]
          exact h3
        case measure => simp [intOf] <;> omega
      · have hc := wArr_cell hg.out k (by rw [hlen]; omega)
        obtain ⟨y, hy⟩ : ∃ y, (sch p k ++ List.replicate (64 - k) (0 : W32))[k]'(by rw [hlen]; omega) = y := ⟨_, rfl⟩
        rw [hy] at hc
        have hf := wArr_free hg.out k
        have c15 := wArr_cell hg.out (k - 15) (by rw [hlen]; omega)
        rw [List.getElem_append_left (by rw [sch_length]; omega)] at c15
        obtain ⟨y15, hy15⟩ : ∃ y, (sch p k)[k - 15]'(by rw [sch_length]; omega) = y := ⟨_, rfl⟩
        rw [hy15] at c15
        have g15 : (sch p k).getD (k - 15) 0 = y15 := by rw [List.getD_eq_getElem?_getD, List.getElem?_eq_getElem (by rw [sch_length]; omega), ← hy15]; rfl
        have c2 := wArr_cell hg.out (k - 2) (by rw [hlen]; omega)
        rw [List.getElem_append_left (by rw [sch_length]; omega)] at c2
        obtain ⟨y2, hy2⟩ : ∃ y, (sch p k)[k - 2]'(by rw [sch_length]; omega) = y := ⟨_, rfl⟩
        rw [hy2] at c2
        have g2 : (sch p k).getD (k - 2) 0 = y2 := by rw [List.getD_eq_getElem?_getD, List.getElem?_eq_getElem (by rw [sch_length]; omega), ← hy2]; rfl
        have c16 := wArr_cell hg.out (k - 16) (by rw [hlen]; omega)
        rw [List.getElem_append_left (by rw [sch_length]; omega)] at c16
        obtain ⟨y16, hy16⟩ : ∃ y, (sch p k)[k - 16]'(by rw [sch_length]; omega) = y := ⟨_, rfl⟩
        rw [hy16] at c16
        have g16 : (sch p k).getD (k - 16) 0 = y16 := by rw [List.getD_eq_getElem?_getD, List.getElem?_eq_getElem (by rw [sch_length]; omega), ← hy16]; rfl
        have c7 := wArr_cell hg.out (k - 7) (by rw [hlen]; omega)
        rw [List.getElem_append_left (by rw [sch_length]; omega)] at c7
        obtain ⟨y7, hy7⟩ : ∃ y, (sch p k)[k - 7]'(by rw [sch_length]; omega) = y := ⟨_, rfl⟩
        rw [hy7] at c7
        have g7 : (sch p k).getD (k - 7) 0 = y7 := by rw [List.getD_eq_getElem?_getD, List.getElem?_eq_getElem (by rw [sch_length]; omega), ← hy7]; rfl
        have hww : nxt p (sch p k) k = y16 + y7 + sg0 y15 + sg1 y2 := by unfold nxt; rw [if_neg h16, g16, g7, g15, g2]
        have HW := Lib.hid hww
        clear hlen hy hy15 hy2 hy16 hy7 g15 g2 g16 g7 hww
        have x15 : IntKind.i64.wrap ((k : Int) - 15) = (k : Int) - 15 := IntWalk.i64_in _ (by omega)
        have e15 : (0 : Int) ≤ (k : Int) - 15 := by omega
        have f15 : (k : Int) - 15 < 64 := by omega
        have i15 : (15 : Int) ≤ (k : Int) := by omega
        have j15 : (k : Int) < 64 + 15 := by omega
        have t15 : ((k : Int) - 15).toNat = k - 15 := by omega
        have x2 : IntKind.i64.wrap ((k : Int) - 2) = (k : Int) - 2 := IntWalk.i64_in _ (by omega)
        have e2 : (0 : Int) ≤ (k : Int) - 2 := by omega
        have f2 : (k : Int) - 2 < 64 := by omega
        have i2 : (2 : Int) ≤ (k : Int) := by omega
        have j2 : (k : Int) < 64 + 2 := by omega
        have t2 : ((k : Int) - 2).toNat = k - 2 := by omega
        have x16 : IntKind.i64.wrap ((k : Int) - 16) = (k : Int) - 16 := IntWalk.i64_in _ (by omega)
        have e16 : (0 : Int) ≤ (k : Int) - 16 := by omega
        have f16 : (k : Int) - 16 < 64 := by omega
        have i16 : (16 : Int) ≤ (k : Int) := by omega
        have j16 : (k : Int) < 64 + 16 := by omega
        have t16 : ((k : Int) - 16).toNat = k - 16 := by omega
        have x7 : IntKind.i64.wrap ((k : Int) - 7) = (k : Int) - 7 := IntWalk.i64_in _ (by omega)
        have e7 : (0 : Int) ≤ (k : Int) - 7 := by omega
        have f7 : (k : Int) - 7 < 64 := by omega
        have i7 : (7 : Int) ≤ (k : Int) := by omega
        have j7 : (k : Int) < 64 + 7 := by omega
        have t7 : ((k : Int) - 7).toNat = k - 7 := by omega
        go_wp2
        go_quiet (fail)
        go_wp2
        go_region_held3 (fun W => W.cell? ⟨w.heap.size, k - 16, none⟩ = some (w32 y16) ∧ W.cell? ⟨w.heap.size, k - 7, none⟩ = some (w32 y7))
          (first
            | go_keep
            | (go_split_ands
               refine ⟨?_, ?_⟩ <;> (rw [cell_far (by omega)]; assumption)))
          (first
            | (go_at_call 224; refine (turns_any _ _ _ _ (by omega) (by omega) (by omega) (by omega) (by omega) (by omega) _).mono ?_; rintro e w' ⟨rfl, rfl⟩)
            | (go_at_call 225; refine (rotl_any _ _ (by omega) (by omega) _).mono ?_; rintro e w' ⟨rfl, rfl⟩)
            | fail)
        simp only [w_wrap, w_xor, w_shr3, w_shr10]
        go_wp2
        go_roundw
        case rel =>
          refine ⟨k + 1, by omega, by go_num, ?_, (below_drewN hb _).setCell (p := ⟨w.heap.size, k, none⟩) (Nat.le_refl _) _⟩
          have h3 := HSet.out (nxt p (sch p k) k)
          rw [HSM.out, HW.out] at h3
          rw [HN.out, HW.out]
          exact h3
        case measure => simp [intOf] <;> omega
    · obtain rfl : k = 64 := by omega
      have hws : wr.heap[w.heap.size]? = some (.cells (wArr (sch p 64)) 267 (0, 0)) := by have := hg.out; simpa using this
      have hbl := lt_of_block HH.out
      clear hk hlt
      have hHr : wr.heap[B]? = some (.cells #[w32 h0, w32 h1, w32 h2, w32 h3, w32 h4, w32 h5, w32 h6, w32 h7] ht (0, 0)) := (hb.block _ hbl).trans HH.out
      have hsz8 : (Tryz.prog.info? 226).map (·.size) = some 8 := infoA8
      have hsz64 : (Tryz.prog.info? 267).map (·.size) = some (wArr (sch p 64)).size := by
        have : (wArr (sch p 64)).size = 64 := by simp [wArr, sch_length]
        rw [this]; exact infoA64
      have HWs := Lib.hid hws
      have HHr := Lib.hid hHr
      have H8 := Lib.hid hsz8
      have H64 := Lib.hid hsz64
      clear hws hHr hsz8 hsz64 hg
      have hgl := lt_of_block HWs.out
      go_wp2_with (first
        | (refine wpList_load_row rfl 226 _ rfl B rfl ht _ (0, 0) _ HHr.out Tryz.underlying226 rfl H8.out ?_)
        | (refine wpList_load_row rfl 267 _ rfl w.heap.size rfl 267 (wArr (sch p 64)) (0, 0) _ ((Below.heap_alloc _ _ _ hgl).trans HWs.out) Tryz.underlying267 rfl H64.out ?_)
        | fail)
      have hbw : Below w.heap.size w (wr.alloc (.cells #[w32 h0, w32 h1, w32 h2, w32 h3, w32 h4, w32 h5, w32 h6, w32 h7, .int .i64 0] 270)) := hb.alloc hb.size _
      have hWh : Wheel8 (wr.alloc (.cells #[w32 h0, w32 h1, w32 h2, w32 h3, w32 h4, w32 h5, w32 h6, w32 h7, .int .i64 0] 270)) wr.heap.size 0 (fun k => [h0, h1, h2, h3, h4, h5, h6, h7].getD k 0) := by
        constructor <;> simp
      have hHb := (Below.heap_alloc wr (.cells #[w32 h0, w32 h1, w32 h2, w32 h3, w32 h4, w32 h5, w32 h6, w32 h7, .int .i64 0] 270) B (by have := hb.size; omega)).trans HHr.out
      have hsb := hb.size
      have HBW := Lib.hid hbw
      have HWh := Lib.hid hWh
      have HHb := Lib.hid hHb
      clear hb hbw hWh hHb
      change Code.wp _ _ _ _ (wr.alloc (.cells #[w32 h0, w32 h1, w32 h2, w32 h3, w32 h4, w32 h5, w32 h6, w32 h7, .int .i64 0] 270))
      have hsG : (wr.alloc (.cells #[w32 h0, w32 h1, w32 h2, w32 h3, w32 h4, w32 h5, w32 h6, w32 h7, .int .i64 0] 270)).heap.size = wr.heap.size + 1 := World.size_alloc _ _
      have HsG := Lib.hid hsG
      clear hsG
      generalize wr.alloc (.cells #[w32 h0, w32 h1, w32 h2, w32 h3, w32 h4, w32 h5, w32 h6, w32 h7, .int .i64 0] 270) = w2 at *
      obtain ⟨G, hG⟩ : ∃ G, wr.heap.size = G := ⟨_, rfl⟩
      rw [hG] at HWh hgl hsb HsG ⊢
      clear hG HWs HHr
      have hwl : (sch p 64).length = 64 := sch_length p 64
      obtain ⟨ws, hws0⟩ : ∃ ws, sch p 64 = ws := ⟨_, rfl⟩
      rw [hws0] at hwl ⊢
      have HWS0 : Keep (sch p 64 = ws) := ⟨hws0⟩
      clear hws0 H64
      have HWL := Lib.hid hwl
      clear hwl
      go_loopw [79] (fun i wz => ∃ k : Nat, k ≤ 64 ∧ i = .int .i64 k ∧ Hid (Wheel8 wz G (7 * k) (rnds kW ws (fun k => [h0, h1, h2, h3, h4, h5, h6, h7].getD k 0) k)) ∧ Hid (wz.heap[B]? = some (.cells #[w32 h0, w32 h1, w32 h2, w32 h3, w32 h4, w32 h5, w32 h6, w32 h7] ht (0, 0))) ∧ Below w.heap.size w wz ∧ G < wz.heap.size) (fun i _ => 64 - (intOf i).toNat)
      case atStart => exact ⟨0, by omega, rfl, HWh.out, HHb.out, HBW.out, (by have := HsG.out; omega)⟩
      case round =>
        obtain ⟨k, hk, rfl, hW8, hHk, hbk, hGk⟩ := hrel
        by_cases hlt : k < 64
        · have hwk : k < ws.length := by have := HWL.out; omega
          have hidx := fun W => run_index_w (wArr ws) k (w32 ws[k]) (by simp [wArr, hwk]) hlt W
          have hgd : ws.getD k 0 = ws[k] := by rw [List.getD_eq_getElem?_getD, List.getElem?_eq_getElem hwk]; rfl
          have HGD := Lib.hid hgd
          clear hgd
          obtain ⟨x, hx⟩ : ∃ x, ws[k] = x := ⟨_, rfl⟩
          rw [hx] at hidx HGD
          clear hx
          go_wp2_with (first
            | (go_at_call 180; go_loud (refine (word_any _ roundsL 64 k ?_ (by decide) roundsL_length hlt roundsL_hex _).mono ?_); (· kernel_rfl); rintro e w3 ⟨rfl, hb3⟩)
            | (go_at_call 226; rw [w_add]; refine (round_any G (7 * k) (rnds kW ws (fun k => [h0, h1, h2, h3, h4, h5, h6, h7].getD k 0) k) (x + kW k) (by omega) _ ?_).mono ?_; (· exact hW8.out.below hGk hb3); rintro e w4 ⟨rfl, hW9, hg4⟩)
            | fail)
          go_roundw
          case rel =>
            refine ⟨k + 1, by omega, by go_num, ?_, ?_, ?_, ?_⟩
            · show Wheel8 _ _ _ _
              rw [rnds, HGD.out, show 7 * (k + 1) = 7 * k + 7 by omega]
              exact hW9
            · show _ = _
              rw [hg4.block B (by have := hb3.size; omega) (by simp; omega), hb3.block B (by omega)]
              exact hHk.out
            · exact (hbk.trans (hb3.mono hbk.size)).grown hg4 (by have := hbk.size; have := hb3.size; omega) (fun j e => by cases e; omega)
            · have := hg4.size; have := hb3.size; omega
          case measure => simp [intOf] <;> omega
        · have hk64 : k = 64 := by omega
          have hz := hW8.out
          rw [hk64] at hz
          have hHz := hHk.out
          have hgr := grown_of_below hbk (some B)
          have HZ := Lib.hid hz
          have HHz := Lib.hid hHz
          have HGr := Lib.hid hgr
          have hBG : B ≠ G := by omega
          have hk2 : 64 ≤ k := by omega
          clear hz hHz hgr hbk hW8 hHk hk64 hlt
          obtain ⟨s, hs0⟩ : ∃ s, rnds kW ws (fun k => [h0, h1, h2, h3, h4, h5, h6, h7].getD k 0) 64 = s := ⟨_, rfl⟩
          rw [hs0] at HZ
          have HS0 : Keep (rnds kW ws (fun k => [h0, h1, h2, h3, h4, h5, h6, h7].getD k 0) 64 = s) := ⟨hs0⟩
          clear hs0
          obtain ⟨H0, hH0⟩ : ∃ H0 : List W32, [h0, h1, h2, h3, h4, h5, h6, h7] = H0 := ⟨_, rfl⟩
          have hHl : H0.length = 8 := by rw [← hH0]; rfl
          have hHz2 : Hid (wr.heap[B]? = some (.cells (wArr H0) ht (0, 0))) := hH0 ▸ HHz.out
          clear HHz
          have HHl := Lib.hid hHl
          have HH0 := Lib.hid hH0
          clear hH0 hHl HHb HWh HBW HG0 HB0
          go_wp2
          go_loopw [14, 89] (fun _ i wy => ∃ k : Nat, k ≤ 8 ∧ i = .int .i64 k ∧ Hid (Wheel8 wy G (7 * 64) s) ∧ Hid (wy.heap[B]? = some (.cells (wArr (addK H0 s k)) ht (0, 0))) ∧ w.grownBy wy (some B)) (fun _ i _ => 8 - (intOf i).toNat)
          case atStart => exact ⟨0, by omega, rfl, HZ.out, hHz2.out, HGr.out⟩
          case round =>
            obtain ⟨k, hk, rfl, hW, hH, hg⟩ := hrel
            by_cases hlt8 : k < 8
            · have hlen : (addK H0 s k).length = 8 := by rw [addK_length]; exact HHl.out
              have cH := wArr_cell hH.out k (by omega)
              have fH := wArr_free hH.out k
              have cW := hW.out.at_ (by omega) k hlt8
              obtain ⟨y, hy⟩ : ∃ y, (addK H0 s k)[k]'(by omega) = y := ⟨_, rfl⟩
              rw [hy] at cH
              have hnx : addK H0 s (k + 1) = (addK H0 s k).set k (y + s k) := by
                rw [addK, List.getD_eq_getElem?_getD, List.getElem?_eq_getElem (by omega), ← hy]; rfl
              have hset := wArr_set hH.out k (y + s k)
              rw [← hnx] at hset
              have HSet := Lib.hid hset
              clear hlen hy hnx hset
              go_wp2
              go_still_tail 12, (by kernel_rfl)
              change wpList _ _ _ _ _ wr.drew
              have cH2 : wr.drew.cell? ⟨B, k, none⟩ = some (w32 y) := cH
              have fH2 : wr.drew.frozen? ⟨B, k, none⟩ = false := fH
              clear cH fH cW
              go_wp2
              simp only [w_add]
              go_roundw
              case rel =>
                refine ⟨k + 1, by omega, by go_num, ?_, ?_, ?_⟩
                · show Wheel8 _ _ _ _
                  have h := hW.out
                  have hne : ∀ j, (⟨B, k, none⟩ : Addr) ≠ ⟨G, j, none⟩ := fun j e => hBG (by injection e)
                  exact ⟨(World.cell?_setCell_other _ _ _ _ (hne _)).trans h.c0, (World.cell?_setCell_other _ _ _ _ (hne _)).trans h.c1, (World.cell?_setCell_other _ _ _ _ (hne _)).trans h.c2, (World.cell?_setCell_other _ _ _ _ (hne _)).trans h.c3, (World.cell?_setCell_other _ _ _ _ (hne _)).trans h.c4, (World.cell?_setCell_other _ _ _ _ (hne _)).trans h.c5, (World.cell?_setCell_other _ _ _ _ (hne _)).trans h.c6, (World.cell?_setCell_other _ _ _ _ (hne _)).trans h.c7, (World.cell?_setCell_other _ _ _ _ (hne _)).trans h.c8, fun o => (World.frozen?_setCell _ _ _ _).trans (h.fz o)⟩
                · exact HSet.out
                · have hgs := grown_set hg k (w32 (y + s k))
                  exact ⟨hgs.os, hgs.tape, hgs.output, hgs.size, hgs.block⟩
              case measure => simp [intOf] <;> omega
            · obtain rfl : k = 8 := by omega
              go_wp2
              go_end0
              refine ⟨rfl, ?_, hg⟩
              rw [HWS0.out, HS0.out, HH0.out]
              exact hH.out
end Go.Proofs.YtcjanieeepcddaaGreatDoor
