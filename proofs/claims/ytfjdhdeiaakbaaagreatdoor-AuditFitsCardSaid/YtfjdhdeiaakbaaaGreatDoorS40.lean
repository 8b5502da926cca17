/-
  Walks and laws, one behind the other (part 40).
-/
import Derived.Test.YtfjdhdeiaakbaaaGreatDoorS8
import Derived.Test.YtfjdhdeiaakbaaaGreatDoorS36
import Derived.Test.YtfjdhdeiaakbaaaGreatDoorS37
import Derived.Test.YtfjdhdeiaakbaaaGreatDoorS39
set_option linter.unusedSimpArgs false
set_option linter.unusedVariables false
/-
  bytes.HasPrefix of bytes; audit.Fits.
-/
namespace Go.Proofs.YtfjdhdeiaakbaaaGreatDoor
open Go.RowKit Go.Shelf

/-- Do the first ones of ws say rs? -/
def pfx (ws rs : List Int) : Bool := decide (rs.length ≤ ws.length) && decide (ws.take rs.length = rs)
theorem bytes_inj : ∀ {xs ys : List Int}, (∀ x ∈ xs, 0 ≤ x ∧ x ≤ 255) → (∀ y ∈ ys, 0 ≤ y ∧ y ≤ 255) → Lib.bytesOf xs = Lib.bytesOf ys → xs = ys
  | [], [], _, _, _ => rfl
  | [], y :: r, _, _, h => by simp [Lib.bytesOf] at h
  | x :: l, [], _, _, h => by simp [Lib.bytesOf] at h
  | x :: l, y :: r, hx, hy, h => by
    simp only [Lib.bytesOf, List.map_cons, List.cons.injEq] at h
    have a := hx x (by simp)
    have b := hy y (by simp)
    have e := congrArg UInt8.toNat h.1
    simp only [UInt8.toNat_ofNat'] at e
    have : x = y := by omega
    rw [this, bytes_inj (fun z hz => hx z (by simp [hz])) (fun z hz => hy z (by simp [hz])) h.2]
theorem hasPrefix_pfx {ws rs : List Int} (hw : ∀ x ∈ ws, 0 ≤ x ∧ x ≤ 255) (hr : ∀ x ∈ rs, 0 ≤ x ∧ x ≤ 255) : Lib.hasPrefix (Lib.bytesOf ws) (Lib.bytesOf rs) = pfx ws rs := by
  rw [← Lib.hasPrefix_of_take]
  unfold pfx
  have l1 : (Lib.bytesOf ws).length = ws.length := by simp [Lib.bytesOf]
  have l2 : (Lib.bytesOf rs).length = rs.length := by simp [Lib.bytesOf]
  have l3 : (Lib.bytesOf ws).take rs.length = Lib.bytesOf (ws.take rs.length) := by simp [Lib.bytesOf]
  rw [l1, l2, l3]
  congr 1
  rw [Bool.eq_iff_iff, beq_iff_eq, decide_eq_true_iff]
  exact ⟨fun h => bytes_inj (fun z hz => hw z (List.mem_of_mem_take hz)) hr h, fun h => by rw [h]⟩
theorem bytesIn_of {w : World} {A : Option Addr} {n c : Nat} {l : List Int} (h : Arg w 1 encB A n c l) : Lib.BytesIn w A n l := fun hn => by
  obtain ⟨b, off, e, _, hc⟩ := h.rd.byte (List.ne_nil_of_length_pos (by rw [h.hlen]; exact hn))
  refine ⟨b, off, e, fun i hi => ?_⟩
  have hil : i < l.length := by rw [h.hlen]; exact hi
  rw [hc i hil]
  simp [List.getD, List.getElem?_eq_getElem hil]
theorem hasPre_any {w : World} {A1 A2 : Option Addr} {n1 c1 n2 c2 : Nat} {ws rs : List Int} (h1 : Arg w 1 encB A1 n1 c1 ws) (h2 : Arg w 1 encB A2 n2 c2 rs) (b1 : ∀ x ∈ ws, 0 ≤ x ∧ x ≤ 255) (b2 : ∀ x ∈ rs, 0 ≤ x ∧ x ≤ 255) :
    Calls Tryz.prog 19 #[.slice A1 n1 c1, .slice A2 n2 c2] w fun e w' => e = .returned (.bool (pfx ws rs)) ∧ w' = w := by
  have := Any.bytes_HasPrefix_all layHp A1 A2 n1 c1 n2 c2 ws rs w h1.hlen h2.hlen h1.hcap (bytesIn_of h1) (bytesIn_of h2)
  rw [hasPrefix_pfx b1 b2] at this
  exact this
/-- Do a reader and a writer fit? -/
def fitB (ws rs : List Int) (ov sh : Bool) : Bool := pfx ws rs && (!ov || (sh && decide (rs.length = ws.length)))
abbrev rdC (A : Option Addr) (n c : Nat) (ov : Bool) : Array Value := #[.int .i64 0, .int .i64 0, .slice none 0 0, .slice A n c, .bool false, .bool false, .bool ov, .int .i64 0]
abbrev wrC (A : Option Addr) (n c : Nat) (sh : Bool) : Array Value := #[.int .i64 0, .int .i64 0, .slice A n c, .slice none 0 0, .bool sh, .bool false, .bool false, .int .i64 0]
set_option maxRecDepth 100000 in
set_option maxHeartbeats 6400000 in
theorem afits_any {w : World} {A1 A2 : Option Addr} {n1 c1 n2 c2 : Nat} {ws rs : List Int} (ov sh : Bool) (h1 : Arg w 1 encB A1 n1 c1 ws) (h2 : Arg w 1 encB A2 n2 c2 rs) (b1 : ∀ x ∈ ws, 0 ≤ x ∧ x ≤ 255) (b2 : ∀ x ∈ rs, 0 ≤ x ∧ x ≤ 255) :
    Calls Tryz.prog 10 #[.agg (rdC A2 n2 c2 ov), .agg (wrC A1 n1 c1 sh)] w fun e w' => e = .returned (.bool (fitB ws rs ov sh)) ∧ Below w.heap.size w w' := by
  obtain ⟨oA, hoA⟩ : ∃ o, Obj.cells (rdC A2 n2 c2 ov) 37 = o := ⟨_, rfl⟩
  obtain ⟨oB, hoB⟩ : ∃ o, Obj.cells (wrC A1 n1 c1 sh) 37 = o := ⟨_, rfl⟩
  have F2 : Fz w ((w.alloc oA).alloc oB) [] := ((Fz.alloc w oA).trans (Fz.alloc _ oB)).mono (by simp)
  have BB : Keep (Below w.heap.size w ((w.alloc oA).alloc oB)) := ⟨F2.toBelow (Nat.le_refl _) (by simp)⟩
  have bA : Bk ((w.alloc oA).alloc oB) w.heap.size (rdC A2 n2 c2 ov) 37 := (hoA ▸ Bk.new w (rdC A2 n2 c2 ov) 37).fz (Fz.alloc _ oB) (by simp)
  have bB : Bk ((w.alloc oA).alloc oB) (w.heap.size + 1) (wrC A1 n1 c1 sh) 37 := by
    have := Bk.new (w.alloc oA) (wrC A1 n1 c1 sh) 37
    rw [show (w.alloc oA).heap.size = w.heap.size + 1 by simp, hoB] at this
    exact this
  have e3 : ((w.alloc oA).alloc oB).cell? ⟨w.heap.size, 3, none⟩ = some (.slice A2 n2 c2) := bA.c 3
  have e6 : ((w.alloc oA).alloc oB).cell? ⟨w.heap.size, 6, none⟩ = some (.bool ov) := bA.c 6
  have g2 : ((w.alloc oA).alloc oB).cell? ⟨w.heap.size + 1, 2, none⟩ = some (.slice A1 n1 c1) := bB.c 2
  have g4 : ((w.alloc oA).alloc oB).cell? ⟨w.heap.size + 1, 4, none⟩ = some (.bool sh) := bB.c 4
  have HP := Keep.mk (hasPre_any (h1.below BB.out) (h2.below BB.out) b1 b2)
  obtain ⟨p, hp⟩ : ∃ p, pfx ws rs = p := ⟨_, rfl⟩
  rw [hp] at HP
  obtain ⟨q, hq⟩ : ∃ q, (((n2 : Nat) : Int) == ((n1 : Nat) : Int)) = q := ⟨_, rfl⟩
  have hq2 : decide (rs.length = ws.length) = q := by
    rw [← hq, h1.hlen, h2.hlen, Bool.eq_iff_iff, decide_eq_true_iff, beq_iff_eq]
    omega
  have HF : Keep (fitB ws rs ov sh = (p && (!ov || (sh && q)))) := ⟨by unfold fitB; rw [hp, hq2]⟩
  clear h1 h2 b1 b2 hp hq2 bA bB F2
  cases p
  · go_enter Tryz.func10, Tryz.ntmps10
    go_wp2_with (first
      | (go_at_call 19
         go_loud (refine HP.out.mono ?_; rintro e X ⟨rfl, hX⟩)
         rw [hX]
         clear hX)
      | fail)
    go_ret
    exact ⟨by rw [HF.out]; rfl, BB.out⟩
  · cases ov
    · go_enter Tryz.func10, Tryz.ntmps10
      go_wp2_with (first
        | (go_at_call 19
           go_loud (refine HP.out.mono ?_; rintro e X ⟨rfl, hX⟩)
           rw [hX]
           clear hX)
        | fail)
      go_ret
      exact ⟨by rw [HF.out]; rfl, BB.out⟩
    · cases sh
      · go_enter Tryz.func10, Tryz.ntmps10
        go_wp2_with (first
          | (go_at_call 19
             go_loud (refine HP.out.mono ?_; rintro e X ⟨rfl, hX⟩)
             rw [hX]
             clear hX)
          | fail)
        go_ret
        exact ⟨by rw [HF.out]; rfl, BB.out⟩
      · go_enter Tryz.func10, Tryz.ntmps10
        go_wp2_with (first
          | (go_at_call 19
             go_loud (refine HP.out.mono ?_; rintro e X ⟨rfl, hX⟩)
             rw [hX]
             clear hX)
          | fail)
        go_ret
        exact ⟨by rw [HF.out]; cases q <;> rfl, BB.out⟩
end Go.Proofs.YtfjdhdeiaakbaaaGreatDoor
