/-
  Layer 4: wakes.
-/
import Derived.Lib.SlBytesConst
import Derived.Test.YtkcmemhoabadaaaDoorHmB
namespace Go.Proofs.YtkcmemhoabadaaaDoor
open Go.RowKit

/-- The digest, as the kernel reckons it. -/
def rd (l : List Int) : List Int := bytesW (rdigN ((pad l).length / 64) (pad l) beginsR)
theorem rd_eq {l : List Int} (h : ∀ z ∈ l, 0 ≤ z ∧ z ≤ 255) : digB l = rd l := digB_eq l h
def jefe : List Int := [74, 101, 102, 101]
def what : List Int := [119, 104, 97, 116, 32, 100, 111, 32, 121, 97, 32, 119, 97, 110, 116, 32]
def nothing : List Int := [102, 111, 114, 32, 110, 111, 116, 104, 105, 110, 103, 63]
theorem inner_byte {l t : List Int} {x : Int} (ht : ∀ z ∈ t, 0 ≤ z ∧ z ≤ 255) : ∀ z ∈ xorB l x ++ t, 0 ≤ z ∧ z ≤ 255 := fun z hz => (List.mem_append.1 hz).elim (xorB_byte z) (ht z)
theorem what_byte : ∀ z ∈ what ++ nothing, 0 ≤ z ∧ z ≤ 255 := by decide +kernel
theorem hmB_jefe : (hmB jefe (what ++ nothing)).take 4 = [91, 220, 193, 70] := by
  have h1 : ∀ z ∈ xorB jefe 54 ++ (what ++ nothing), 0 ≤ z ∧ z ≤ 255 := inner_byte what_byte
  have h2 : ∀ z ∈ xorB jefe 92 ++ digB (xorB jefe 54 ++ (what ++ nothing)), 0 ≤ z ∧ z ≤ 255 := inner_byte (digB_byte _)
  rw [hmB, show keyB jefe = jefe from rfl, rd_eq h2, rd_eq h1]
  decide +kernel

set_option maxRecDepth 100000 in
set_option maxHeartbeats 1000000 in
theorem wakes04_any (w : World) : Calls Tryd.prog 22 #[] w fun e w' => e = .returned (.bool true) ∧ Below w.heap.size w w' := by
  have kc := fun (w : World) (C : Array Value) (n c : Nat) => Lib.run_convert_bytes_const (P := Tryd.prog) w 22 5 C n c Tryd.underlying22 Tryd.underlying5
  have kc2 : ∀ (w : World) (o : Obj) (C : Array Value) (n c : Nat), (convert 22 22 (.slice (some ⟨w.heap.size + 1, 0, none⟩) n c)).run Tryd.prog ((w.alloc o).alloc (.cells C 5)) = .ok (.slice (some ⟨w.heap.size + 1, 0, none⟩) n c) ((w.alloc o).alloc (.cells C 5 (C.size, C.size + 1))) := fun w o C n c => by
    have h := kc (w.alloc o) C n c
    rw [World.size_alloc] at h
    exact h
  have kc3 : ∀ (w : World) (o o' : Obj) (C : Array Value) (n c : Nat), (convert 22 22 (.slice (some ⟨w.heap.size + 1 + 1, 0, none⟩) n c)).run Tryd.prog (((w.alloc o).alloc o').alloc (.cells C 5)) = .ok (.slice (some ⟨w.heap.size + 1 + 1, 0, none⟩) n c) (((w.alloc o).alloc o').alloc (.cells C 5 (C.size, C.size + 1))) := fun w o o' C n c => by
    have h := kc ((w.alloc o).alloc o') C n c
    rw [World.size_alloc, World.size_alloc] at h
    exact h
  go_enter Tryd.func22, Tryd.ntmps22
  go_wp2_with fail
  have a1 := Arg.new' w _ rfl 5 (4, 5) 1 encB encB_length jefe 4 rfl (by decide)
  have s1 : (w.alloc (.cells (jefe.flatMap encB).toArray 5 (4, 5))).heap.size = w.heap.size + 1 := World.size_alloc _ _
  have b1 : Below w.heap.size w (w.alloc (.cells (jefe.flatMap encB).toArray 5 (4, 5))) := (Below.refl _ w).alloc (Nat.le_refl _) _
  change Calls _ _ _ ((((w.alloc (.cells (jefe.flatMap encB).toArray 5 (4, 5))).alloc (.cells (what.flatMap encB).toArray 5 (16, 17))).alloc (.cells (nothing.flatMap encB).toArray 5 (12, 13))).alloc _) _
  generalize w.alloc (.cells (jefe.flatMap encB).toArray 5 (4, 5)) = w1 at *
  have a2 := Arg.new' w1 _ s1 5 (16, 17) 1 encB encB_length what 16 rfl (by decide)
  have s2 : (w1.alloc (.cells (what.flatMap encB).toArray 5 (16, 17))).heap.size = w.heap.size + 1 + 1 := by rw [World.size_alloc, s1]
  have b2 : Below w1.heap.size w1 (w1.alloc (.cells (what.flatMap encB).toArray 5 (16, 17))) := (Below.refl _ w1).alloc (Nat.le_refl _) _
  generalize w1.alloc (.cells (what.flatMap encB).toArray 5 (16, 17)) = w2 at *
  have a3 := Arg.new' w2 _ s2 5 (12, 13) 1 encB encB_length nothing 12 rfl (by decide)
  have s3 : (w2.alloc (.cells (nothing.flatMap encB).toArray 5 (12, 13))).heap.size = w.heap.size + 1 + 1 + 1 := by rw [World.size_alloc, s2]
  have b3 : Below w2.heap.size w2 (w2.alloc (.cells (nothing.flatMap encB).toArray 5 (12, 13))) := (Below.refl _ w2).alloc (Nat.le_refl _) _
  generalize w2.alloc (.cells (nothing.flatMap encB).toArray 5 (12, 13)) = w3 at *
  have c1 := (a1.below b2).below b3
  have c2 := a2.below b3
  have a4 := Arg.new' w3 _ s3 22 (0, 0) 1 encP encP_length [⟨some ⟨w.heap.size + 1, 0, none⟩, 16, 16, what⟩, ⟨some ⟨w.heap.size + 1 + 1, 0, none⟩, 12, 12, nothing⟩] 2 rfl (by decide)
  have b123 : Below w.heap.size w w3 := b1.trans ((b2.mono (by omega)).trans (b3.mono (by omega)))
  refine (hmOf_any _ 4 4 jefe _ 2 2 _ _ (c1.alloc _) (by decide) (by omega) a4 (fun p hp => ?_) (by omega) (show (what ++ nothing).length ≤ 50000 by decide) (show ∀ z ∈ what ++ nothing, 0 ≤ z ∧ z ≤ 255 from what_byte)).mono ?_
  · simp only [List.mem_cons, List.not_mem_nil, or_false] at hp
    rcases hp with rfl | rfl
    · exact c2.alloc _
    · exact a3.alloc _
  rintro e w4 ⟨rfl, hb4⟩
  have hb : Below w.heap.size w w4 := (b123.alloc (by omega) _).trans (hb4.mono (by simp; omega))
  clear a1 a2 a3 a4 c1 c2 s1 s2 s3 b1 b2 b3 b123 hb4
  rw [show glue [(⟨some ⟨w.heap.size + 1, 0, none⟩, 16, 16, what⟩ : Pc), ⟨some ⟨w.heap.size + 1 + 1, 0, none⟩, 12, 12, nothing⟩] = what ++ nothing from rfl]
  obtain ⟨D, hD⟩ : ∃ D, hmB jefe (what ++ nothing) = D := ⟨_, rfl⟩
  have hl : D.length = 32 := by rw [← hD, hmB_length]
  have h4 : D.take 4 = [91, 220, 193, 70] := by rw [← hD, hmB_jefe]
  rw [hD]
  have H32 : Hid ((Tryd.prog.info? 24).map (·.size) = some (bArr D).size) := Lib.hid (by rw [bArr_size, hl]; exact infoA32)
  have HSz : Hid ((bArr (List.replicate 32 0)).size = (bArr D).size) := Lib.hid (by rw [bArr_size, bArr_size, hl]; rfl)
  have H4 := Lib.hid h4
  have HL := Lib.hid hl
  have hA : Keep ((w4.alloc (.cells (bArr (List.replicate 32 0)) 24)).heap[w4.heap.size]? = some (.cells (bArr (List.replicate 32 0)) 24 (0, 0))) := ⟨heap_alloc_new _ _⟩
  clear hD hl h4
  go_wp2_with (first
    | (refine wpList_store_row rfl 24 _ _ rfl w4.heap.size 24 (bArr (List.replicate 32 0)) (bArr D) rfl rfl hA.out H32.out HSz.out (bArr_one _) ?_)
    | fail)
  have hB : ((w4.alloc (.cells (bArr (List.replicate 32 0)) 24)).setRow w4.heap.size (bArr D)).heap[w4.heap.size]? = some (.cells (bArr D) 24 (0, 0)) := setRow_heap _ _ _ _ _ _ hA.out
  have hs1 : ((w4.alloc (.cells (bArr (List.replicate 32 0)) 24)).setRow w4.heap.size (bArr D)).heap.size = w4.heap.size + 1 := by rw [size_setRow, World.size_alloc]
  have hb2 : Below w4.heap.size w4 ((w4.alloc (.cells (bArr (List.replicate 32 0)) 24)).setRow w4.heap.size (bArr D)) := below_setRow ((Below.refl _ w4).alloc (Nat.le_refl _) _) (Nat.le_refl _) _
  change Calls _ _ _ (((w4.alloc (.cells (bArr (List.replicate 32 0)) 24)).setRow w4.heap.size (bArr D)).alloc _) _
  generalize (w4.alloc (.cells (bArr (List.replicate 32 0)) 24)).setRow w4.heap.size (bArr D) = w5 at *
  have a1 : Arg w5 1 encB (some ⟨w4.heap.size, 0, none⟩) 4 32 (D.take 4) := (Arg.row hB 32 HL.out (by decide)).take (by omega)
  rw [H4.out] at a1
  have a2 := Arg.new' w5 _ hs1 5 (0, 0) 1 encB encB_length [91, 220, 193, 70] 4 rfl (by decide)
  refine (same_any _ _ [91, 220, 193, 70] [91, 220, 193, 70] 4 4 32 4 _ (a1.alloc _) a2 (by omega) (by omega)).mono ?_
  rintro e w6 ⟨rfl, nn, rfl⟩
  go_wp2_with fail
  go_ret
  exact ⟨rfl, below_drewN ((hb.trans (hb2.mono hb.size)).alloc (Nat.le_trans hb.size hb2.size) _) _⟩
end Go.Proofs.YtkcmemhoabadaaaDoor
