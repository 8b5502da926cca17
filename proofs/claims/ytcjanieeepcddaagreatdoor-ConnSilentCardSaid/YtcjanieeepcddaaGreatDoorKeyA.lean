/-
  Layer 5: key.wide, key.head, key.Token.
-/
import Derived.Test.YtcjanieeepcddaaGreatDoorShaN
namespace Go.Proofs.YtcjanieeepcddaaGreatDoor
open Go.RowKit

/-- The cell of a number of 64 bits. -/
def encU (x : Int) : List Value := [.int .u64 x]
theorem encU_length (x : Int) : (encU x).length = 1 := rfl
theorem Rd.num {w : World} {B : Nat} {A : Option Addr} {l : List Int} (h : Rd w B 1 encU A l) (hl : l ≠ []) : ∃ b off, A = some ⟨b, off, none⟩ ∧ b < B ∧ ∀ k (hk : k < l.length), w.cell? ⟨b, off + k, none⟩ = some (.int .u64 l[k]) := by
  obtain ⟨b, off, e, hb, hc⟩ := h hl
  refine ⟨b, off, e, hb, fun k hk => ?_⟩
  have := hc k _ (List.getElem?_eq_getElem hk) 0 (.int .u64 l[k]) rfl
  simpa using this
/-- Numbers' bytes, k of each. -/
def wideB (k : Nat) (ns : List Int) : List Int := ns.flatMap (beB · k)
theorem wideB_snoc (k : Nat) (ns : List Int) (i : Nat) (hi : i < ns.length) : wideB k (ns.take (i + 1)) = wideB k (ns.take i) ++ beB ns[i] k := by
  rw [wideB, List.take_succ_eq_append_getElem hi, List.flatMap_append]
  simp [wideB]
theorem wideB_length (k : Nat) : ∀ ns, (wideB k ns).length = k * ns.length
  | [] => rfl
  | n :: r => by
    have := wideB_length k r
    rw [wideB] at this ⊢
    rw [List.flatMap_cons, List.length_append, beB_length, this, List.length_cons, Nat.mul_add]; omega
theorem wideB_byte (k : Nat) (ns : List Int) : ∀ z ∈ wideB k ns, 0 ≤ z ∧ z ≤ 255 := fun z hz => by
  obtain ⟨x, _, hx⟩ := List.mem_flatMap.1 hz
  exact beB_byte x k z hx

set_option maxRecDepth 100000 in
set_option maxHeartbeats 2000000 in
theorem wide_any (k : Nat) (A : Option Addr) (n c : Nat) (ns : List Int) (w : World) (ha : Arg w 1 encU A n c ns) (hns : ∀ z ∈ ns, 0 ≤ z ∧ z < 18446744073709551616) (k1 : 1 ≤ k) (k8 : k ≤ 8) (hn : n ≤ 1000) :
    Calls Tryz.prog 116 #[.int .i64 k, .slice A n c] w fun e w' => ∃ A' c', e = .returned (.slice A' (k * n) c') ∧ Arg w' 1 encB A' (k * n) c' (wideB k ns) ∧ Below w.heap.size w w' := by
  have haH := Lib.hid ha
  have hlen := Keep.mk ha.hlen
  have hnsH := Lib.hid hns
  clear ha hns
  go_enter Tryz.func116, Tryz.ntmps116
  go_wp2_with fail
  go_loopw [5, 7, 10] (fun v _ i wr => ∃ (j m : Nat) (A' : Option Addr) (c' : Nat), j ≤ n ∧ Keep (m = k * j) ∧ m ≤ 8000 ∧ i = .int .i64 j ∧ v = .slice A' m c' ∧ Keep (Arg wr 1 encB A' m c' (wideB k (ns.take j))) ∧ Below w.heap.size w wr) (fun _ _ i _ => n - (intOf i).toNat)
  case atStart => exact ⟨0, 0, none, 0, by omega, ⟨by omega⟩, by omega, rfl, rfl, ⟨by simpa [wideB] using Arg.nil w 1 encB⟩, Below.refl _ _⟩
  case round =>
    obtain ⟨j, m, A', c', hj, hm, hm8, rfl, rfl, haj, hb⟩ := hrel
    by_cases hlt : j < n
    · obtain ⟨b, off, rfl, hbl, hc⟩ := haH.out.rd.num (List.ne_nil_of_length_pos (by rw [hlen.out]; omega))
      have c0 := (hb.cell (p := ⟨b, off + j, none⟩) hbl).trans (hc j (by rw [hlen.out]; exact hlt))
      have hx := hnsH.out (ns[j]'(by rw [hlen.out]; exact hlt)) (List.getElem_mem _)
      have hsn := wideB_snoc k ns j (by rw [hlen.out]; exact hlt)
      obtain ⟨x, hxx⟩ : ∃ x, ns[j]'(by rw [hlen.out]; exact hlt) = x := ⟨_, rfl⟩
      rw [hxx] at c0 hx hsn
      have HX := Keep.mk hx
      have HSN := Keep.mk hsn
      have hmk : m + k ≤ 8000 := by
        have h1 := hm.out
        have h2 : k * (j + 1) ≤ 8 * 1000 := Nat.mul_le_mul k8 (by omega)
        rw [Nat.mul_add] at h2
        omega
      have HM : Keep (m + k = k * (j + 1)) := ⟨by have := hm.out; rw [Nat.mul_add]; omega⟩
      have HB := Lib.hid hb
      clear hc hx hsn hxx hb hm
      go_wp2_with fail
      refine (put8_any A' m c' k x _ wr haj.out (by omega) k1 k8 HX.out.1 HX.out.2).mono ?_
      rintro e w1 ⟨rfl, hr1, hb1⟩
      have HR1 := Keep.mk (Arg.row (t := 5) (fr := (0, 0)) (l := wideB k (ns.take j) ++ beB x k) hr1 (m + k) (by rw [List.length_append, beB_length, haj.out.hlen]) (by unfold maxLen; omega))
      have HB1 := Lib.hid (HB.out.trans (hb1.mono HB.out.size))
      clear hr1 hb1 HB
      go_wp2_with fail
      go_roundw
      case rel => exact ⟨j + 1, m + k, _, _, by omega, HM, hmk, by go_num, rfl, ⟨by rw [HSN.out]; exact HR1.out⟩, HB1.out⟩
      case measure => simp [intOf] <;> omega
    · have hjn : j = n := by omega
      have hge : n ≤ j := by omega
      have hfin : Arg wr 1 encB A' (k * n) c' (wideB k ns) := by
        have h := haj.out
        rw [hm.out, hjn, List.take_of_length_le (by rw [hlen.out]; omega)] at h
        exact h
      have HM : Keep (m = k * n) := ⟨by rw [hm.out, hjn]⟩
      have HF := Keep.mk hfin
      have HB := Lib.hid hb
      clear hjn hfin hb hm haj
      go_wp2_with fail
      go_ret
      exact ⟨A', c', by rw [HM.out]; rfl, HF.out, HB.out⟩

set_option maxHeartbeats 1000000 in
theorem head_any (D : List Int) (k : Nat) (w : World) (hl : D.length = 32) (hD : ∀ z ∈ D, 0 ≤ z ∧ z ≤ 255) (k1 : 1 ≤ k) (k8 : k ≤ 8) :
    Calls Tryz.prog 114 #[.agg (bArr D), .int .i64 k] w fun e w' => e = .returned (.int .u64 (beN (D.take k))) ∧ Below w.heap.size w w' := by
  have HL := Keep.mk hl
  have HD := Lib.hid hD
  have hA := Keep.mk (Arg.row (w := w.alloc (.cells (bArr D) 157)) (g := w.heap.size) (t := 157) (fr := (0, 0)) (l := D) (heap_alloc_new w _) 32 hl (by decide))
  clear hl hD
  go_enter Tryz.func114, Tryz.ntmps114
  go_wp2_with fail
  refine (take_any _ 32 32 k D _ hA.out (by omega) (by omega) k1 k8 HD.out).mono ?_
  rintro e w1 ⟨A2, c2, rfl, _, hb1⟩
  have hb : Below w.heap.size w w1 := ((Below.refl _ w).alloc (Nat.le_refl _) _).trans (hb1.mono (by simp))
  clear hb1 hA
  go_wp2_with fail
  go_ret
  exact ⟨rfl, hb⟩
end Go.Proofs.YtcjanieeepcddaaGreatDoor
