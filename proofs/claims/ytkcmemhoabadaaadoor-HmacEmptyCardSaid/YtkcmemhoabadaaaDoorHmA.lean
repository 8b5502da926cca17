/-
  Layer 4: hmac.padded.
-/
import Derived.Deep.MidRow
import Derived.Test.YtkcmemhoabadaaaDoorShaE
namespace Go.Proofs.YtkcmemhoabadaaaDoor
open Go.RowKit

/-- A byte added without carry. -/
def bx (z x : Int) : Int := bits .xor .u8 z x
/-- A key made 64 bytes long. -/
def key64 (l : List Int) : List Int := l ++ List.replicate (64 - l.length) 0
/-- The same, each added to another one. -/
def xorB (l : List Int) (x : Int) : List Int := (key64 l).map (bx · x)
theorem key64_length (l : List Int) (h : l.length ≤ 64) : (key64 l).length = 64 := by simp [key64]; omega
theorem xorB_length (l : List Int) (x : Int) (h : l.length ≤ 64) : (xorB l x).length = 64 := by rw [xorB, List.length_map, key64_length l h]
def mid (K : List Int) (x : Int) (i : Nat) : List Int := (K.take i).map (bx · x) ++ K.drop i
theorem mid_length (K : List Int) (x : Int) (i : Nat) (hi : i ≤ K.length) : (mid K x i).length = K.length := by simp [mid]; omega
theorem mid_at (K : List Int) (x : Int) (i : Nat) (hi : i < K.length) : (mid K x i)[i]'(by rw [mid_length K x i (by omega)]; exact hi) = K[i] := by
  simp only [mid]
  rw [List.getElem_append_right (by rw [List.length_map, List.length_take]; omega)]
  simp only [List.getElem_drop, List.length_map, List.length_take]
  congr 1
  omega
theorem mid_set (K : List Int) (x : Int) (i : Nat) (hi : i < K.length) : (mid K x i).set i (bx K[i] x) = mid K x (i + 1) := by
  have hl : ((K.take i).map (bx · x)).length = i := by rw [List.length_map, List.length_take]; omega
  simp only [mid]
  rw [List.set_append_right _ _ (by omega), hl, Nat.sub_self, List.drop_eq_getElem_cons hi, List.set_cons_zero, List.take_succ_eq_append_getElem hi, List.map_append, List.append_assoc]
  rfl
theorem bx_byte (z x : Int) : 0 ≤ bx z x ∧ bx z x ≤ 255 := by
  show 0 ≤ IntKind.u8.wrap _ ∧ IntKind.u8.wrap _ ≤ 255
  rw [IntKind.wrap_u8]
  omega
theorem key64_byte {l : List Int} (h : ∀ z ∈ l, 0 ≤ z ∧ z ≤ 255) : ∀ z ∈ key64 l, 0 ≤ z ∧ z ≤ 255 := fun z hz => by
  rcases List.mem_append.1 hz with h1 | h1
  · exact h z h1
  · obtain ⟨_, rfl⟩ := List.mem_replicate.1 h1
    omega
theorem xorB_byte {l : List Int} {x : Int} : ∀ z ∈ xorB l x, 0 ≤ z ∧ z ≤ 255 := fun z hz => by
  obtain ⟨y, hy, rfl⟩ := List.mem_map.1 hz
  exact bx_byte y x

set_option maxRecDepth 100000 in
set_option maxHeartbeats 2000000 in
theorem padded_any (A : Option Addr) (n c : Nat) (l : List Int) (x : Int) (w : World) (ha : Arg w 1 encB A n c l) (hn : n ≤ 64) :
    Calls Tryd.prog 37 #[.slice A n c, .int .u8 x] w fun e w' => e = .returned (.slice (some ⟨w.heap.size, 0, none⟩) 64 64) ∧ w'.heap[w.heap.size]? = some (.cells (bArr (xorB l x)) 77 (0, 0)) ∧ Below w.heap.size w w' := by
  have hsz1 : Hid ((Tryd.prog.info? 5).map (·.size) = some 1) := infoB1
  have haH := Lib.hid ha
  have hlen := Keep.mk ha.hlen
  have hcap := ha.hcap
  clear ha
  go_enter Tryd.func37, Tryd.ntmps37
  go_wp2_with (first
    | (refine wpList_copy_splice rfl (.tmp 7) (.tmp 8) 22 22 rfl 5 Tryd.underlying22 hsz1.out (some ⟨w.heap.size, 0, none⟩) A 64 64 n c rfl rfl w.heap.size 0 ((List.replicate 64 0).map (Value.int .u8)) 77 (heap_alloc_new w _) (l.map (Value.int .u8)) ?_ ?_ ?_ ?_ w.heap.size w ?_ (Nat.le_refl _) ?_
       · rw [List.length_map, hlen.out]; exact (Nat.min_eq_left (by omega)).symm
       · intro hpos
         refine ⟨rfl, ?_⟩
         obtain ⟨b, off, rfl, hb, hc⟩ := haH.out.rd.byte (List.ne_nil_of_length_pos (by simpa using hpos))
         refine ⟨_, rfl, fun j v hv => ?_⟩
         have hj : j < l.length := by have := (List.getElem?_eq_some_iff.1 hv).1; simpa using this
         rw [List.getElem?_map, List.getElem?_eq_getElem hj] at hv
         have hv' : Value.int .u8 l[j] = v := by simpa using hv
         rw [show (⟨b, off, none⟩ : Addr).add j = ⟨b, off + j, none⟩ from by unfold Addr.add; split <;> simp_all]
         rw [World.cell?_alloc_lt w _ ⟨b, off + j, none⟩ hb, hc j hj, hv']
       · simp only [List.length_map, List.length_replicate, hlen.out]; omega
       · intro v hv
         obtain ⟨z, _, rfl⟩ := List.mem_map.1 hv
         rfl
       · exact (Below.refl _ w).alloc (Nat.le_refl _) _
       intro w1 hg1 hb1)
    | fail)
  have hw1 : w1.heap[w.heap.size]? = some (.cells (bArr (key64 l)) 77 (0, 0)) := by
    have h := hg1.out
    rw [h]
    congr 2
    have hl := hlen.out
    rw [splice, List.take_zero, List.nil_append, Nat.zero_add, List.length_map, ← List.map_drop, ← List.map_append, List.drop_replicate, key64]
    rfl
  have HG1 := Keep.mk hw1
  have hKl : (key64 l).length = 64 := key64_length l (by rw [hlen.out]; exact hn)
  have hX : Keep (xorB l x = (key64 l).map (bx · x)) := ⟨rfl⟩
  generalize key64 l = K at *
  have HKl := Keep.mk hKl
  clear hg1 hw1 hKl
  go_loopw [6, 10] (fun _ i wr => ∃ k : Nat, k ≤ 64 ∧ i = .int .i64 k ∧ Keep (wr.heap[w.heap.size]? = some (.cells (bArr (mid K x k)) 77 (0, 0))) ∧ Below w.heap.size w wr) (fun _ i _ => 64 - (intOf i).toNat)
  case atStart => exact ⟨0, by omega, rfl, ⟨by simpa [mid] using HG1.out⟩, hb1⟩
  case round =>
    obtain ⟨k, hk, rfl, hg, hb⟩ := hrel
    by_cases hlt : k < 64
    · have hKl := HKl.out
      have hc := bArr_cell hg.out k (by rw [mid_length K x k (by omega)]; omega)
      rw [mid_at K x k (by omega)] at hc
      have hf := bArr_free hg.out k
      have hset := bArr_set hg.out k (bx (K[k]'(by omega)) x)
      rw [mid_set K x k (by omega)] at hset
      obtain ⟨z, hz⟩ : ∃ z, K[k]'(by omega) = z := ⟨_, rfl⟩
      rw [hz] at hc hset
      have HSet := Keep.mk hset
      have HB := Lib.hid hb
      have hk0 : (0 : Int) ≤ (k : Int) := by omega
      have hk1 : (k : Int) < 64 := by omega
      clear hz hset hKl hg hb
      go_wp2
      go_roundw
      case rel => exact ⟨k + 1, by omega, by go_num, HSet, HB.out.setCell (p := ⟨w.heap.size, k, none⟩) (Nat.le_refl _) _⟩
      case measure => simp [intOf] <;> omega
    · have hge : 64 ≤ k := by omega
      have hfin : mid K x k = K.map (bx · x) := by rw [mid, List.take_of_length_le (by rw [HKl.out]; exact hge), List.drop_of_length_le (by rw [HKl.out]; exact hge), List.append_nil]
      have hg2 := hg.out
      rw [hfin, ← hX.out] at hg2
      have HG := Keep.mk hg2
      have HB := Lib.hid hb
      clear hfin hg2 hg hb
      go_wp2_with fail
      go_ret
      exact ⟨rfl, HG.out, HB.out⟩
end Go.Proofs.YtkcmemhoabadaaaDoor
