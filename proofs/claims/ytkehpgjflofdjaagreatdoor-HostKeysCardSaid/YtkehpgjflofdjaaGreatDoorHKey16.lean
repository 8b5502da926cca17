/-
  Walks and laws, one behind the other (part 16).
-/
import Derived.Test.YtkehpgjflofdjaaGreatDoorHKey14
import Derived.Test.YtkehpgjflofdjaaGreatDoorHKey15
set_option linter.unusedSimpArgs false
set_option linter.unusedVariables false
/-
  sha.Of of a new row of pieces.
-/
namespace Go.Proofs.YtkehpgjflofdjaaGreatDoor
open Go.RowKit

theorem Arg.empty {α : Type} (w : World) (sz : Nat) (enc : α → List Value) (A : Option Addr) : Arg w sz enc A 0 0 ([] : List α) := ⟨rfl, Nat.le_refl _, by decide, fun _ => rfl, Rd.nil⟩

theorem PcsOk.alloc {w : World} {ps : List Pc} (h : PcsOk w ps) (o : Obj) : PcsOk (w.alloc o) ps := fun p hp => (h p hp).alloc o
/-- sha.Of of a new row of pieces. -/
theorem of_new (w : World) (g n : Nat) (ps : List Pc) (l : List Int) (hg : w.heap.size = g) (hn : ps.length = n) (hok : PcsOk w ps) (hl : glue ps = l) (hn1 : n ≤ 1000000) (h1 : l.length ≤ 100000) (hb : ∀ z ∈ l, 0 ≤ z ∧ z ≤ 255) :
    Calls Tryz.prog 233 #[.slice (some ⟨g, 0, none⟩) n n] (w.alloc (.cells (ps.flatMap encP).toArray 24)) fun r w' => r = .returned (.agg (bArr (digB l))) ∧ Below w.heap.size w w' := by
  subst hl
  refine (of_any _ n n ps _ (Arg.new' w g hg 24 (0, 0) 1 encP encP_length ps n hn (by unfold maxLen; omega)) (hok.alloc _) hn1 h1 hb).mono ?_
  rintro e w' ⟨rfl, hb'⟩
  exact ⟨rfl, ((Below.refl _ w).alloc (Nat.le_refl _) _).trans (hb'.mono (by simp))⟩

end Go.Proofs.YtkehpgjflofdjaaGreatDoor
/-
  Layer 5: key.wide, key.head, key.Token.
-/
namespace Go.Proofs.YtkehpgjflofdjaaGreatDoor
open Go.RowKit

/-- The cell of a number of 64 bits. -/
def encU (x : Int) : List Value := [.int .u64 x]
theorem encU_length (x : Int) : (encU x).length = 1 := rfl
theorem Rd.num {w : World} {B : Nat} {A : Option Addr} {l : List Int} (h : Rd w B 1 encU A l) (hl : l ≠ []) : ∃ b off, A = some ⟨b, off, none⟩ ∧ b < B ∧ ∀ k (hk : k < l.length), w.cell? ⟨b, off + k, none⟩ = some (.int .u64 l[k]) := by
  obtain ⟨b, off, e, hb, hc⟩ := h hl
  refine ⟨b, off, e, hb, fun k hk => ?_⟩
  have := hc k _ (List.getElem?_eq_getElem hk) 0 (.int .u64 l[k]) rfl
  simpa using this
/-- Numbers' bytes, k of each. -/
def wideB (k : Nat) (ns : List Int) : List Int := ns.flatMap (beB · k)
theorem wideB_snoc (k : Nat) (ns : List Int) (i : Nat) (hi : i < ns.length) : wideB k (ns.take (i + 1)) = wideB k (ns.take i) ++ beB ns[i] k := by
  rw [wideB, List.take_succ_eq_append_getElem hi, List.flatMap_append]
  simp [wideB]
theorem wideB_length (k : Nat) : ∀ ns, (wideB k ns).length = k * ns.length
  | [] => rfl
  | n :: r => by
    have := wideB_length k r
    rw [wideB] at this ⊢
    rw [List.flatMap_cons, List.length_append, beB_length, this, List.length_cons, Nat.mul_add]; omega
theorem wideB_byte (k : Nat) (ns : List Int) : ∀ z ∈ wideB k ns, 0 ≤ z ∧ z ≤ 255 := fun z hz => by
  obtain ⟨x, _, hx⟩ := List.mem_flatMap.1 hz
  exact beB_byte x k z hx

set_option maxRecDepth 100000 in
set_option maxHeartbeats 2000000 in
theorem wide_any (k : Nat) (A : Option Addr) (n c : Nat) (ns : List Int) (w : World) (ha : Arg w 1 encU A n c ns) (hns : ∀ z ∈ ns, 0 ≤ z ∧ z < 18446744073709551616) (k1 : 1 ≤ k) (k8 : k ≤ 8) (hn : n ≤ 1000) :
    Calls Tryz.prog 208 #[.int .i64 k, .slice A n c] w fun e w' => ∃ A' c', e = .returned (.slice A' (k * n) c') ∧ Arg w' 1 encB A' (k * n) c' (wideB k ns) ∧ Below w.heap.size w w' := by
  have haH := Lib.hid ha
  have hlen := Keep.mk ha.hlen
  have hnsH := Lib.hid hns
  clear ha hns
  go_enter Tryz.func208, Tryz.ntmps208
  go_wp2_with fail
  go_loopw [5, 7, 10] (fun v _ i wr => ∃ (j m : Nat) (A' : Option Addr) (c' : Nat), j ≤ n ∧ Keep (m = k * j) ∧ m ≤ 8000 ∧ i = .int .i64 j ∧ v = .slice A' m c' ∧ Keep (Arg wr 1 encB A' m c' (wideB k (ns.take j))) ∧ Below w.heap.size w wr) (fun _ _ i _ => n - (intOf i).toNat)
  case atStart => exact ⟨0, 0, none, 0, by omega, ⟨by omega⟩, by omega, rfl, rfl, ⟨by simpa [wideB] using Arg.nil w 1 encB⟩, Below.refl _ _⟩
  case round =>
    obtain ⟨j, m, A', c', hj, hm, hm8, rfl, rfl, haj, hb⟩ := hrel
    by_cases hlt : j < n
    · obtain ⟨b, off, rfl, hbl, hc⟩ := haH.out.rd.num (List.ne_nil_of_length_pos (by rw [hlen.out]; omega))
      have c0 := (hb.cell (p := ⟨b, off + j, none⟩) hbl).trans (hc j (by rw [hlen.out]; exact hlt))
      have hx := hnsH.out (ns[j]'(by rw [hlen.out]; exact hlt)) (List.getElem_mem _)
      have hsn := wideB_snoc k ns j (by rw [hlen.out]; exact hlt)
      obtain ⟨x, hxx⟩ : ∃ x, ns[j]'(by rw [hlen.out]; exact hlt) = x := ⟨_, rfl⟩
      rw [hxx] at c0 hx hsn
      have HX := Keep.mk hx
      have HSN := Keep.mk hsn
      have hmk : m + k ≤ 8000 := by
        have h1 := hm.out
        have h2 : k * (j + 1) ≤ 8 * 1000 := Nat.mul_le_mul k8 (by omega)
        rw [Nat.mul_add] at h2
        omega
      have HM : Keep (m + k = k * (j + 1)) := ⟨by have := hm.out; rw [Nat.mul_add]; omega⟩
      have HB := Lib.hid hb
      clear hc hx hsn hxx hb hm
      go_wp2_with fail
      refine (put8_any A' m c' k x _ wr haj.out (by omega) k1 k8 HX.out.1 HX.out.2).mono ?_
      rintro e w1 ⟨rfl, hr1, hb1⟩
      have HR1 := Keep.mk (Arg.row (t := 5) (fr := (0, 0)) (l := wideB k (ns.take j) ++ beB x k) hr1 (m + k) (by rw [List.length_append, beB_length, haj.out.hlen]) (by unfold maxLen; omega))
      have HB1 := Lib.hid (HB.out.trans (hb1.mono HB.out.size))
      clear hr1 hb1 HB
      go_wp2_with fail
      go_roundw
      case rel => exact ⟨j + 1, m + k, _, _, by omega, HM, hmk, by go_num, rfl, ⟨by rw [HSN.out]; exact HR1.out⟩, HB1.out⟩
      case measure => simp [intOf] <;> omega
    · have hjn : j = n := by omega
      have hge : n ≤ j := by omega
      have hfin : Arg wr 1 encB A' (k * n) c' (wideB k ns) := by
        have h := haj.out
        rw [hm.out, hjn, List.take_of_length_le (by rw [hlen.out]; omega)] at h
        exact h
      have HM : Keep (m = k * n) := ⟨by rw [hm.out, hjn]⟩
      have HF := Keep.mk hfin
      have HB := Lib.hid hb
      clear hjn hfin hb hm haj
      go_wp2_with fail
      go_ret
      exact ⟨A', c', by rw [HM.out]; rfl, HF.out, HB.out⟩

set_option maxHeartbeats 1000000 in
theorem head_any (D : List Int) (k : Nat) (w : World) (hl : D.length = 32) (hD : ∀ z ∈ D, 0 ≤ z ∧ z ≤ 255) (k1 : 1 ≤ k) (k8 : k ≤ 8) :
    Calls Tryz.prog 206 #[.agg (bArr D), .int .i64 k] w fun e w' => e = .returned (.int .u64 (beN (D.take k))) ∧ Below w.heap.size w w' := by
  have HL := Keep.mk hl
  have HD := Lib.hid hD
  have hA := Keep.mk (Arg.row (w := w.alloc (.cells (bArr D) 257)) (g := w.heap.size) (t := 257) (fr := (0, 0)) (l := D) (heap_alloc_new w _) 32 hl (by decide))
  clear hl hD
  go_enter Tryz.func206, Tryz.ntmps206
  go_wp2_with fail
  refine (take_any _ 32 32 k D _ hA.out (by omega) (by omega) k1 k8 HD.out).mono ?_
  rintro e w1 ⟨A2, c2, rfl, _, hb1⟩
  have hb : Below w.heap.size w w1 := ((Below.refl _ w).alloc (Nat.le_refl _) _).trans (hb1.mono (by simp))
  clear hb1 hA
  go_wp2_with fail
  go_ret
  exact ⟨rfl, hb⟩
end Go.Proofs.YtkehpgjflofdjaaGreatDoor
/-
  key.Token.
-/
namespace Go.Proofs.YtkehpgjflofdjaaGreatDoor
open Go.RowKit

/-- A key's token. -/
def tokN (x : Int) : Int := beN ((digB (beB x 8)).take 4)
theorem digB_byte' (l : List Int) : ∀ z ∈ digB l, 0 ≤ z ∧ z ≤ 255 := fun z hz => by
  obtain ⟨x, _, hx⟩ := List.mem_flatMap.1 hz
  exact beB_byte _ _ z hx
theorem tok_bd (x : Int) : 0 ≤ tokN x ∧ tokN x < 4294967296 := by
  have h := beN_bd ((digB (beB x 8)).take 4) (fun z hz => digB_byte' _ z (List.mem_of_mem_take hz))
  rw [List.length_take, digB_length] at h
  exact h
theorem tok_wrap (x : Int) : IntKind.u32.wrap (tokN x) = tokN x := by rw [IntKind.wrap_u32]; have := tok_bd x; omega
def rd' (l : List Int) : List Int := bytesW (rdigN ((pad l).length / 64) (pad l) beginsR)
theorem tok_zero : tokN 0 = 2941612277 := by
  rw [tokN, digB_eq _ (beB_byte 0 8)]
  decide +kernel

set_option maxHeartbeats 1000000 in
theorem token_any (x : Int) (w : World) (h0 : 0 ≤ x) (h1 : x < 18446744073709551616) :
    Calls Tryz.prog 166 #[.int .u64 x] w fun e w' => e = .returned (.int .u32 (tokN x)) ∧ Below w.heap.size w w' := by
  have H0 := Keep.mk h0
  have H1 := Keep.mk h1
  clear h0 h1
  go_enter Tryz.func166, Tryz.ntmps166
  go_wp2_with fail
  have a1 := Arg.new' w _ rfl 30 (0, 0) 1 encU encU_length [x] 1 rfl (by decide)
  refine (wide_any 8 _ 1 1 [x] _ a1 (fun z hz => by simp only [List.mem_singleton] at hz; subst hz; exact ⟨H0.out, H1.out⟩) (by omega) (by omega) (by omega)).mono ?_
  rintro e w1 ⟨A1, c1, rfl, ha1, hb1⟩
  have hw : wideB 8 [x] = beB x 8 := by simp [wideB]
  rw [hw] at ha1
  have HA1 := Keep.mk ha1
  have HB1 := Lib.hid (((Below.refl _ w).alloc (Nat.le_refl _) _).trans (hb1.mono (by simp)))
  clear a1 ha1 hb1 hw
  go_wp2_with fail
  refine (of_new w1 _ 1 [⟨A1, 8 * 1, c1, beB x 8⟩] (beB x 8) rfl rfl (PcsOk.one HA1.out) (by simp [glue]) (by omega) (by rw [beB_length]; omega) (beB_byte x 8)).mono ?_
  rintro e w2 ⟨rfl, hb2⟩
  have HB2 := Lib.hid (HB1.out.trans (hb2.mono HB1.out.size))
  clear hb2
  go_wp2_with fail
  refine (head_any (digB (beB x 8)) 4 _ (digB_length _) (digB_byte' _) (by omega) (by omega)).mono ?_
  rintro e w3 ⟨rfl, hb3⟩
  have hb := HB2.out.trans (hb3.mono HB2.out.size)
  have HB3 := Lib.hid hb
  rw [show beN ((digB (beB x 8)).take 4) = tokN x from rfl]
  have htw := tok_wrap x
  clear hb hb3
  go_wp2_with fail
  go_ret
  exact ⟨rfl, HB3.out⟩
end Go.Proofs.YtkehpgjflofdjaaGreatDoor
