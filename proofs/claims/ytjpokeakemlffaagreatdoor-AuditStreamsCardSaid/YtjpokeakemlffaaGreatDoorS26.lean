/-
  Walks and laws, one behind the other (part 26).
-/
import Derived.Laws.StructEq
import Derived.Test.YtjpokeakemlffaaGreatDoorS25
set_option linter.unusedSimpArgs false
set_option linter.unusedVariables false
/-
  An option that opens is right.
-/
namespace Go.Proofs.YtjpokeakemlffaaGreatDoor
open Go.RowKit
abbrev placeC (b : Nat) : Array Value := #[.pointer (some ⟨b, 1, none⟩), .pointer none, .pointer none, .pointer none, .int .i64 8]
theorem places_cap (b : Nat) (w : World) (h0 : w.cell? ⟨b, 0, none⟩ = some (.int .i64 1)) :
    Calls Tryz.prog 177 #[.pointer (some ⟨b, 0, none⟩)] w fun e w' => ∃ g, e = .returned (.slice (some ⟨g, 0, none⟩) 1 1) ∧ w.heap.size ≤ g ∧ Bk w' g (placeC b) 237 ∧ Below w.heap.size w w' := by
  refine (places_any b 1 w h0).mono ?_
  rintro e w' (⟨h, _⟩ | ⟨kn, g, hk, _, _, rfl, h1, h2, h3⟩)
  · omega
  · obtain rfl : kn = 1 := by omega
    exact ⟨g, rfl, h1, h2, h3⟩
set_option maxRecDepth 100000 in
theorem number_cap (b : Nat) (k : Int) (w : World) (h : w.cell? ⟨b, 1, none⟩ = some (.int .u64 k)) :
    Calls Tryz.prog 215 #[.agg (placeC b)] w fun e w' => e = .returned (.tuple #[.int .u64 k, .bool true]) ∧ Below w.heap.size w w' := by
  have hlt := World.block_lt_of_cell? _ _ h
  simp only at hlt
  have HB := Keep.mk ((Below.refl _ w).alloc (Nat.le_refl _) (.cells (placeC b) 237))
  go_enter Tryz.func215, Tryz.ntmps215
  go_wp2_with fail
  refine bodyPost_ret (results_tmp2 rfl _ _ _) rfl ⟨rfl, HB.out⟩
set_option maxRecDepth 100000 in
theorem pset_cap (b : Nat) (k : Int) (arr : Array Value) (w : World) (h : Bk w b arr 173) (hs : 1 < arr.size) :
    Calls Tryz.prog 178 #[.agg (placeC b), .int .u64 k] w fun e w' => e = .returned (.bool true) ∧ Bk w' b (arr.setIfInBounds 1 (.int .u64 k)) 173 ∧ Fz w w' [b] := by
  have c1 : w.cell? ⟨b, 1, none⟩ = some arr[1] := (h.c 1).trans (by simp [hs])
  have f1 := h.free 1
  have hlt := h.lt
  have HB := Keep.mk h
  clear h
  go_enter Tryz.func178, Tryz.ntmps178
  go_wp2_with fail
  go_ret
  exact ⟨rfl, (HB.out.set 1 _).fz (Fz.alloc _ _) (by simp), ((Fz.set w b 1 _).trans (Fz.alloc _ _)).mono (by simp)⟩
abbrev kindO : Array Value := #[.int .i64 1, .int .u64 0, .int .u64 0, .int .u32 0, .int .u32 0, .int .i64 0, .int .i64 0, .bool false, .bool false, .int .i64 0, .bool false, .int .i64 0, .int .i64 0, .bool false]
set_option maxRecDepth 100000 in
set_option maxHeartbeats 3200000 in
theorem optright_cap (k : Int) (w : World) : Calls Tryz.prog 145 #[.agg (capO k)] w fun e w' => e = .returned (.bool true) ∧ Below w.heap.size w w' := by
  have KX0 := Keep.mk (Fz.alloc w (.cells (capO k) 173))
  have KB0 := Keep.mk (Bk.new w (capO k) 173)
  have P0 := Keep.mk (places_cap w.heap.size (w.alloc (.cells (capO k) 173)) (KB0.out.c 0))
  go_enter Tryz.func145, Tryz.ntmps145
  go_wp2_with (first
    | (go_at_call 177
       go_loud (refine P0.out.mono ?_; rintro e w1 ⟨g1, rfl, _, pb1, b1⟩)
       have KB1 := Keep.mk (KB0.out.fz (Fz.below b1 (Nat.le_refl _)) (by simp))
       have KP1 := Keep.mk pb1
       have KX1 : Keep (Fz w w1 []) := ⟨(KX0.out.trans (Fz.below b1 (Nat.le_refl _))).mono (by simp)⟩
       have c10 : w1.cell? ⟨w.heap.size, 0, none⟩ = some (.int .i64 1) := KB1.out.c 0
       have N2 := Keep.mk (Bk.new w1 kindO 173)
       have P2 := places_cap w1.heap.size (w1.alloc (.cells kindO 173)) (N2.out.c 0)
       have P2 := Keep.mk P2
       clear pb1 b1 P0)
    | (go_at_call 177
       go_loud (refine P2.out.mono ?_; rintro e w2 ⟨g2, rfl, _, pb2, b2⟩)
       have X2 : Fz w1 w2 [] := ((Fz.alloc w1 (.cells kindO 173)).trans (Fz.below b2 (by simp))).mono (by simp)
       have KN2 := Keep.mk (N2.out.fz (Fz.below b2 (by simp)) (by simp))
       have KP2 := Keep.mk pb2
       have KB2 := Keep.mk (KB1.out.fz X2 (by simp))
       have KPP2 := Keep.mk (KP1.out.fz X2 (by simp))
       have KX2 : Keep (Fz w w2 [] ∧ w.heap.size < w1.heap.size) := ⟨(KX1.out.trans X2).mono (by simp), KB1.out.lt⟩
       clear pb2 b2 X2)
    | fail)
  go_loopw [15] (fun i wr => (i = .int .i64 0 ∧ wr = w2) ∨ (i = .int .i64 1 ∧ Keep (Bk wr w1.heap.size (capO k) 173 ∧ Fz w2 wr [w1.heap.size]))) (fun i _ => 1 - (intOf i).toNat)
  case atStart => exact .inl ⟨rfl, rfl⟩
  case round =>
    rcases hrel with ⟨rfl, rfl⟩ | ⟨rfl, HQ⟩
    · have a0 := KP2.out.c 0
      have a1 := KP2.out.c 1
      have a2 := KP2.out.c 2
      have a3 := KP2.out.c 3
      have a4 := KP2.out.c 4
      have la := KP2.out.lt
      have b0 := KPP2.out.c 0
      have b1 := KPP2.out.c 1
      have b2 := KPP2.out.c 2
      have b3 := KPP2.out.c 3
      have b4 := KPP2.out.c 4
      have lb := KPP2.out.lt
      simp at a0 a1 a2 a3 a4 b0 b1 b2 b3 b4
      have X3 := Fz.alloc wr (.cells (placeC w1.heap.size) 237)
      have NU := Keep.mk (number_cap w.heap.size k (wr.alloc (.cells (placeC w1.heap.size) 237)) ((KB2.out.fz X3 (by simp)).c 1))
      have N3 := Keep.mk (KN2.out.fz X3 (by simp))
      have KX3 := Keep.mk X3
      have KP3 := Keep.mk (Bk.new wr (placeC w1.heap.size) 237)
      clear X3
      go_wp2_with (first
        | (go_at_call 215
           go_loud (refine NU.out.mono ?_; rintro e w4 ⟨rfl, b4⟩)
           have F4 := Fz.below b4 (Nat.le_refl _)
           have N4 := N3.out.fz F4 (by simp)
           have P4 := KP3.out.fz F4 (by simp)
           have d0 := P4.c 0
           have d1 := P4.c 1
           have d2 := P4.c 2
           have d3 := P4.c 3
           have d4 := P4.c 4
           simp at d0 d1 d2 d3 d4
           have PS := Keep.mk (pset_cap w1.heap.size k kindO w4 N4 (by simp))
           have KX4 : Keep (Fz wr w4 []) := ⟨(KX3.out.trans F4).mono (by simp)⟩
           clear b4 F4 N4 P4)
        | (go_at_call 178
           go_loud (refine PS.out.mono ?_; rintro e w5 ⟨rfl, n5, f5⟩)
           have K5 : Keep (Bk w5 w1.heap.size (capO k) 173 ∧ Fz wr w5 [w1.heap.size]) := ⟨n5, (KX4.out.trans f5).mono (by simp)⟩
           clear n5 f5)
        | fail)
      go_roundw
      case rel => exact .inr ⟨rfl, K5⟩
      case measure => simp [intOf]
    · have NB := HQ.out.1
      have n0 := NB.c 0
      have n1 := NB.c 1
      have n2 := NB.c 2
      have n3 := NB.c 3
      have n4 := NB.c 4
      have n5 := NB.c 5
      have n6 := NB.c 6
      have n7 := NB.c 7
      have n8 := NB.c 8
      have n9 := NB.c 9
      have n10 := NB.c 10
      have n11 := NB.c 11
      have n12 := NB.c 12
      have n13 := NB.c 13
      have OB := KB2.out.fz HQ.out.2 (by simp; have := KX2.out.2; omega)
      have o0 := OB.c 0
      have o1 := OB.c 1
      have o2 := OB.c 2
      have o3 := OB.c 3
      have o4 := OB.c 4
      have o5 := OB.c 5
      have o6 := OB.c 6
      have o7 := OB.c 7
      have o8 := OB.c 8
      have o9 := OB.c 9
      have o10 := OB.c 10
      have o11 := OB.c 11
      have o12 := OB.c 12
      have o13 := OB.c 13
      simp at n0 n1 n2 n3 n4 n5 n6 n7 n8 n9 n10 n11 n12 n13 o0 o1 o2 o3 o4 o5 o6 o7 o8 o9 o10 o11 o12 o13
      clear NB OB
      go_wp2_with fail
      go_ret
      exact ⟨by first | rfl | simp, (KX2.out.1.trans HQ.out.2).toBelow (Nat.le_refl _) (by simp; have := KX2.out.2; omega)⟩
set_option maxRecDepth 100000 in
theorem rightf_cap (k : Int) (w : World) : Calls Tryz.prog 144 #[.agg (capO k)] w fun e w' => e = .returned (.bool false) ∧ Below w.heap.size w w' := by
  have KX := Keep.mk ((Below.refl _ w).alloc (Nat.le_refl _) (.cells (capO k) 173))
  have OR := Keep.mk (optright_cap k (w.alloc (.cells (capO k) 173)))
  go_enter Tryz.func144, Tryz.ntmps144
  go_wp2_with (first
    | (go_at_call 145
       go_loud (refine OR.out.mono ?_; rintro e w1 ⟨rfl, b1⟩)
       have KX1 := Keep.mk (KX.out.trans (b1.mono (by simp)))
       clear b1)
    | fail)
  go_ret
  exact ⟨by first | rfl | simp, KX1.out⟩
end Go.Proofs.YtjpokeakemlffaaGreatDoor
