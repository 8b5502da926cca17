/-
  Walks and laws, one behind the other (part 20).
-/
import Derived.Laws.CopyOwn
import Derived.Laws.MakeOwn
import Derived.Test.YtjpokeakemlffaaGreatDoorS19
set_option linter.unusedSimpArgs false
set_option linter.unusedVariables false
/-
  The contract of octet.Put.
-/
namespace Go.Proofs.YtjpokeakemlffaaGreatDoor
open Go.RowKit
def bArr (l : List Int) : Array Value := (l.map (Value.int .u8)).toArray
theorem bArr_made (n : Nat) : madeCells (Value.cells (.int .u8 0)) n = bArr (List.replicate n 0) := by
  apply Array.ext
  · simp [madeCells, bArr]
  · intro i h1 h2
    simp [madeCells, bArr, Value.cells, Nat.mod_one]
theorem bArr_cell {w : World} {g : Nat} {t : TypeId} {l : List Int} (h : w.heap[g]? = some (.cells (bArr l) t (0, 0))) (i : Nat) (hi : i < l.length) : w.cell? ⟨g, i, none⟩ = some (.int .u8 l[i]) := by
  rw [cell_of_row w g i _ t (0, 0) h]
  simp [bArr, hi]
theorem bArr_free {w : World} {g : Nat} {t : TypeId} {l : List Int} (h : w.heap[g]? = some (.cells (bArr l) t (0, 0))) (i : Nat) : w.frozen? ⟨g, i, none⟩ = false := by simp [World.frozen?, h]
theorem bArr_set {w : World} {g : Nat} {t : TypeId} {l : List Int} (h : w.heap[g]? = some (.cells (bArr l) t (0, 0))) (i : Nat) (v : Int) :
    (w.setCell ⟨g, i, none⟩ (.int .u8 v)).heap[g]? = some (.cells (bArr (l.set i v)) t (0, 0)) := by
  have hlt := lt_of_block h
  have h' : w.heap[g] = .cells (bArr l) t (0, 0) := by simpa [Array.getElem?_eq_getElem hlt] using h
  show (w.heap.modify g _)[g]? = _
  rw [Array.getElem?_eq_getElem (by simpa using hlt), Array.getElem_modify_self, h']
  simp [bArr, List.map_set]
theorem flat_encB : ∀ l : List Int, l.flatMap encB = l.map (Value.int .u8)
  | [] => rfl
  | x :: r => by rw [List.flatMap_cons, flat_encB r]; rfl
theorem bArr_own {w : World} {g : Nat} {e : TypeId} {l : List Int} {base : Nat} (h : w.heap[g]? = some (.cells (bArr l) e (0, 0))) (hb : base ≤ g) (hm : l.length ≤ maxLen) :
    w.ownsRow base e 1 (.slice (some ⟨g, 0, none⟩) l.length l.length) l.length (l.flatMap encB) := by
  refine ⟨by rw [flat_length encB_length], .inr ⟨g, _, _, rfl, hb, h, Nat.le_refl _, hm, by simp [bArr], ?_⟩⟩
  rw [flat_encB, Nat.mul_one, List.take_of_length_le (by simp [bArr])]
  simp [bArr]
def shB (n : Int) : Nat → Int
  | 0 => n
  | j + 1 => shB n j / 256
theorem shB_bd {n : Int} (h0 : 0 ≤ n) (h1 : n < 18446744073709551616) : ∀ j, 0 ≤ shB n j ∧ shB n j < 18446744073709551616
  | 0 => ⟨h0, h1⟩
  | j + 1 => by
    have := shB_bd h0 h1 j
    rw [shB]
    omega
def beB (n : Int) : Nat → List Int
  | 0 => []
  | k + 1 => shB n k % 256 :: beB n k
theorem beB_byte (n : Int) : ∀ k, ∀ z ∈ beB n k, 0 ≤ z ∧ z ≤ 255
  | 0, z, h => by simp [beB] at h
  | k + 1, z, h => by
    rw [beB, List.mem_cons] at h
    rcases h with rfl | h
    · omega
    · exact beB_byte n k z h
theorem beB_length (n : Int) : ∀ k, (beB n k).length = k
  | 0 => rfl
  | k + 1 => by rw [beB, List.length_cons, beB_length n k]
theorem set_mid (l r : List Int) (k : Nat) (v : Int) : (l ++ List.replicate (k + 1) 0 ++ r).set (l.length + k) v = l ++ List.replicate k 0 ++ v :: r := by
  rw [List.replicate_succ', ← List.append_assoc, List.append_assoc (l ++ List.replicate k 0), List.set_append_right _ _ (by simp)]
  simp
set_option maxHeartbeats 2000000 in
set_option maxRecDepth 100000 in
theorem put8_any (A : Option Addr) (n c : Nat) (k : Nat) (x : Int) (l : List Int) (w : World) (ha : Arg w 1 encB A n c l) (hn : n ≤ 1000000000) (k1 : 1 ≤ k) (k8 : k ≤ 8) (x0 : 0 ≤ x) (x1 : x < 18446744073709551616) :
    Calls Tryz.prog 170 #[.slice A n c, .int .u64 x, .int .i64 k] w fun r w' => r = .returned (.slice (some ⟨w.heap.size, 0, none⟩) (n + k) (n + k)) ∧ w'.heap[w.heap.size]? = some (.cells (bArr (l ++ beB x k)) 5 (0, 0)) ∧ Below w.heap.size w w' := by
  obtain ⟨i0, hi, hz0, hz1, hz2⟩ := info_parts infoB
  have hsz : (Tryz.prog.info? 5).map (·.size) = some 1 := by rw [hi]; simp [hz1]
  have hszH := Lib.hid hsz
  have haH := Lib.hid ha
  clear ha hsz
  obtain ⟨N, hN⟩ : ∃ N : Nat, n + k = N := ⟨_, rfl⟩
  have hmk : ∀ W : World, (Instr.makeSlice 24 (.int .i64 (N : Int)) (.int .i64 (N : Int))).run Tryz.prog W = .ok (.slice (some ⟨W.heap.size, 0, none⟩) N N) (W.alloc (.cells (bArr (List.replicate N 0)) 5)) := fun W => by
    have h := run_make (P := Tryz.prog) W 24 5 i0 _ Tryz.underlying24 hi hz0 .i64 .i64 N N (by omega) (by omega) (by rw [hz2]; omega) (by omega)
    rw [Int.toNat_natCast, hz1, Nat.mul_one, bArr_made] at h
    exact h
  have hNI : (n : Int) + (k : Int) = (N : Int) := by omega
  have hNH := Lib.hid hN
  have hNk : n + 1 ≤ N := by omega
  have hNs : N ≤ 1000000008 := by omega
  clear hN
  go_enter Tryz.func170, Tryz.ntmps170
  go_wp2_with (first
    | (go_at_call 232; refine (width_any _ _ (by omega) (by omega)).mono ?_; rintro e w' ⟨rfl, rfl⟩)
    | (refine wpList_copy_splice rfl (.tmp 16) (.tmp 17) 24 24 rfl 5 Tryz.underlying24 hszH.out (some ⟨w.heap.size, 0, none⟩) A N N n c rfl rfl w.heap.size 0 ((List.replicate N 0).map (Value.int .u8)) 5 (heap_alloc_new w _) (l.map (Value.int .u8)) ?_ ?_ ?_ ?_ w.heap.size w ?_ (Nat.le_refl _) ?_
       · rw [List.length_map, haH.out.hlen]; exact (Nat.min_eq_left (by omega)).symm
       · intro hpos
         refine ⟨rfl, ?_⟩
         obtain ⟨b, off, rfl, hb, hc⟩ := haH.out.rd.byte (List.ne_nil_of_length_pos (by simpa using hpos))
         refine ⟨_, rfl, fun j v hv => ?_⟩
         have hj : j < l.length := by have := (List.getElem?_eq_some_iff.1 hv).1; simpa using this
         rw [List.getElem?_map, List.getElem?_eq_getElem hj] at hv
         have hv' : Value.int .u8 l[j] = v := by simpa using hv
         rw [show (⟨b, off, none⟩ : Addr).add j = ⟨b, off + j, none⟩ from by unfold Addr.add; split <;> simp_all]
         rw [World.cell?_alloc_lt w _ ⟨b, off + j, none⟩ hb, hc j hj, hv']
       · simp only [List.length_map, List.length_replicate, haH.out.hlen]; omega
       · intro v hv
         obtain ⟨z, _, rfl⟩ := List.mem_map.1 hv
         rfl
       · exact (Below.refl _ w).alloc (Nat.le_refl _) _
       intro w1 hg1 hb1)
    | fail)
  have hw1 : w1.heap[w.heap.size]? = some (.cells (bArr (l ++ List.replicate k 0)) 5 (0, 0)) := by
    have h := hg1.out
    rw [h]
    congr 2
    have hl := haH.out.hlen
    have hN' := hNH.out
    rw [splice, List.take_zero, List.nil_append, Nat.zero_add, List.length_map, ← List.map_drop, ← List.map_append, List.drop_replicate, show N - l.length = k by omega]
    rfl
  have HG1 := Lib.hid hw1
  clear hg1 hw1
  go_loopw [1, 8] (fun xv at_ wr => ∃ j q : Nat, j ≤ k ∧ n ≤ q ∧ Hid (q + j = N) ∧ xv = .int .u64 (shB x j) ∧ at_ = .int .i64 ((q : Int) - 1) ∧ Hid (wr.heap[w.heap.size]? = some (.cells (bArr (l ++ List.replicate (k - j) 0 ++ beB x j)) 5 (0, 0))) ∧ Below w.heap.size w wr) (fun _ at_ _ => (intOf at_ + 1).toNat)
  case atStart => exact ⟨0, N, by omega, by omega, rfl, rfl, rfl, (by show _ = _; simpa [beB] using HG1.out), hb1⟩
  case round =>
    obtain ⟨j, q, hj, hnq, hqj, rfl, rfl, hg, hb⟩ := hrel
    have hl := haH.out.hlen
    have hlen : (l ++ List.replicate (k - j) 0 ++ beB x j).length = N := by have := hNH.out; simp [beB_length]; omega
    have hbd := shB_bd x0 x1 j
    by_cases hlt : n < q
    · obtain ⟨p, rfl⟩ : ∃ p, q = p + 1 := ⟨q - 1, by omega⟩
      rw [show ((p + 1 : Nat) : Int) - 1 = (p : Int) by omega]
      have hpN : p < N := by have := hqj.out; omega
      have hjk : j < k := by have := hqj.out; have := hNH.out; omega
      have hc := bArr_cell hg.out p (by rw [hlen]; exact hpN)
      have hf := bArr_free hg.out p
      have hset := bArr_set hg.out p (shB x j % 256)
      have he : (l ++ List.replicate (k - j) 0 ++ beB x j).set p (shB x j % 256) = l ++ List.replicate (k - (j + 1)) 0 ++ beB x (j + 1) := by
        have := hqj.out
        have := hNH.out
        rw [show k - j = k - (j + 1) + 1 by omega, show p = l.length + (k - (j + 1)) by omega, set_mid]
        rfl
      rw [he] at hset
      have HS := Lib.hid hset
      obtain ⟨y, hy⟩ : ∃ y, (l ++ List.replicate (k - j) 0 ++ beB x j)[p]'(by rw [hlen]; exact hpN) = y := ⟨_, rfl⟩
      rw [hy] at hc
      obtain ⟨z, hz⟩ : ∃ z, shB x j = z := ⟨_, rfl⟩
      have hz' : shB x (j + 1) = z / 256 := by rw [shB, hz]
      have HZ := Lib.hid hz'
      rw [hz] at hbd HS ⊢
      obtain ⟨hz0, hz1'⟩ := hbd
      have hle : ((n : Int)) ≤ (p : Int) := by omega
      clear hset he hy hz hz' hlen hl
      go_wp2
      go_roundw
      case rel =>
        refine ⟨j + 1, p, by omega, by omega, show p + (j + 1) = N by have := hqj.out; omega, by rw [HZ.out], rfl, HS, hb.setCell (p := ⟨w.heap.size, p, none⟩) (Nat.le_refl _) _⟩
      case measure => simp [intOf] <;> omega
    · have hqn : q = n := by omega
      have hjk : j = k := by have := hqj.out; have := hNH.out; omega
      subst hjk
      have hN2 : n + j = N := hNH.out
      clear hlen hl
      go_wp2
      go_ret
      refine ⟨by rw [hN2]; rfl, ?_, hb⟩
      have := hg.out
      simpa using this
theorem Arg.cut {w : World} {b off len cap i j m c : Nat} {l : List Int} (h : Arg w 1 encB (some ⟨b, off, none⟩) len cap l) (hij : i ≤ j) (hj : j ≤ len) (hc : cap ≠ i) (hm : j - i = m) (hcc : cap - i = c) :
    Arg w 1 encB (some ⟨b, off + i, none⟩) m c ((l.drop i).take m) := by
  have h1 := (h.drop (k := i) (by omega)).take (k := m) (by omega)
  rw [if_neg hc, hcc] at h1
  have e : (Option.map (fun x => Addr.add x (i * 1)) (some (⟨b, off, none⟩ : Addr))) = some ⟨b, off + i, none⟩ := by
    simp only [Option.map_some, Nat.mul_one, Option.some.injEq]
    unfold Addr.add
    split <;> simp_all
  rw [e] at h1
  exact h1
end Go.Proofs.YtjpokeakemlffaaGreatDoor
