/-
  Walks and laws, one behind the other (part 30).
-/
import Derived.Test.YtjpokeakemlffaaGreatDoorS26
import Derived.Test.YtjpokeakemlffaaGreatDoorS29
set_option linter.unusedSimpArgs false
set_option linter.unusedVariables false
/-
  A segment that opens is right; its truths as a number.
-/
namespace Go.Proofs.YtjpokeakemlffaaGreatDoor
open Go.RowKit
set_option maxRecDepth 100000 in
set_option maxHeartbeats 1600000 in
theorem rix_one (go : Nat) (k : Int) (w : World) (h : Bk w go (capO k) 173) : Calls Tryz.prog 214 #[.slice (some ⟨go, 0, none⟩) 1 1, .func (.func 144) #[] #[]] w fun e w' => e = .returned (.int .i64 (-1)) ∧ Below w.heap.size w w' := by
  have RF := Keep.mk (rightf_cap k w)
  have KB := Keep.mk h
  clear h
  go_enter Tryz.func214, Tryz.ntmps214
  go_wp2_with fail
  go_loopw [8] (fun i wr => (i = .int .i64 0 ∧ wr = w) ∨ (i = .int .i64 1 ∧ Keep (Below w.heap.size w wr))) (fun i _ => 1 - (intOf i).toNat)
  case atStart => exact .inl ⟨rfl, rfl⟩
  case round =>
    rcases hrel with ⟨rfl, rfl⟩ | ⟨rfl, HQ⟩
    · have o0 := KB.out.c 0
      have o1 := KB.out.c 1
      have o2 := KB.out.c 2
      have o3 := KB.out.c 3
      have o4 := KB.out.c 4
      have o5 := KB.out.c 5
      have o6 := KB.out.c 6
      have o7 := KB.out.c 7
      have o8 := KB.out.c 8
      have o9 := KB.out.c 9
      have o10 := KB.out.c 10
      have o11 := KB.out.c 11
      have o12 := KB.out.c 12
      have o13 := KB.out.c 13
      simp at o0 o1 o2 o3 o4 o5 o6 o7 o8 o9 o10 o11 o12 o13
      go_wp2_with (first
        | (go_at_call 144
           go_loud (refine RF.out.mono ?_; rintro e w1 ⟨rfl, b1⟩)
           have K1 := Keep.mk b1
           clear b1)
        | fail)
      go_roundw
      case rel => exact .inr ⟨rfl, K1⟩
      case measure => simp [intOf]
    · go_wp2_with fail
      go_ret
      exact ⟨rfl, HQ.out⟩
set_option maxRecDepth 100000 in
theorem rcon_one (go : Nat) (k : Int) (w : World) (h : Bk w go (capO k) 173) : Calls Tryz.prog 143 #[.slice (some ⟨go, 0, none⟩) 1 1, .func (.func 144) #[] #[]] w fun e w' => e = .returned (.bool false) ∧ Below w.heap.size w w' := by
  have IX := Keep.mk (rix_one go k w h)
  clear h
  go_enter Tryz.func143, Tryz.ntmps143
  go_wp2_with (first
    | (go_at_call 214
       go_loud (refine IX.out.mono ?_; rintro e w1 ⟨rfl, b1⟩)
       have K1 := Keep.mk b1
       clear b1)
    | fail)
  go_ret
  exact ⟨by first | rfl | simp, K1.out⟩
set_option maxRecDepth 100000 in
set_option maxHeartbeats 1600000 in
theorem right_syn (p1 p2 s : Int) (go : Nat) (k : Int) (w : World) (h : Bk w go (capO k) 173) (c1 : 0 ≤ p1) (c2 : p1 ≤ 65535) (d1 : 0 ≤ p2) (d2 : p2 ≤ 65535) :
    Calls Tryz.prog 90 #[.agg (segS p1 p2 s go).toArray] w fun e w' => e = .returned (.bool true) ∧ Below w.heap.size w w' := by
  have IA : Keep (∀ W, Calls Tryz.prog 142 #[.int .i64 0, .int .i64 3] W fun e w' => e = .returned (.bool true) ∧ w' = W) := ⟨fun W => in_yes 0 3 W (by omega) (by omega)⟩
  have IB : Keep (∀ W, Calls Tryz.prog 142 #[.int .i64 1, .int .i64 3] W fun e w' => e = .returned (.bool true) ∧ w' = W) := ⟨fun W => in_yes 1 3 W (by omega) (by omega)⟩
  have IC : Keep (∀ W, Calls Tryz.prog 142 #[.int .i64 p1, .int .i64 65535] W fun e w' => e = .returned (.bool true) ∧ w' = W) := ⟨fun W => in_yes p1 65535 W c1 c2⟩
  have ID : Keep (∀ W, Calls Tryz.prog 142 #[.int .i64 p2, .int .i64 65535] W fun e w' => e = .returned (.bool true) ∧ w' = W) := ⟨fun W => in_yes p2 65535 W d1 d2⟩
  have IE : Keep (∀ W, Calls Tryz.prog 142 #[.int .i64 32, .int .i64 65535] W fun e w' => e = .returned (.bool true) ∧ w' = W) := ⟨fun W => in_yes 32 65535 W (by omega) (by omega)⟩
  have X := Fz.alloc w (.cells (segS p1 p2 s go).toArray 132)
  have RC := Keep.mk (rcon_one go k _ (h.fz X (by simp)))
  have HB : Keep (Below w.heap.size w (w.alloc (.cells (segS p1 p2 s go).toArray 132))) := ⟨(Below.refl _ w).alloc (Nat.le_refl _) _⟩
  clear c1 c2 d1 d2 h X
  show Calls Tryz.prog 90 #[.agg #[.int .i64 0, .int .i64 1, .int .i64 p1, .int .i64 p2, .int .u32 s, .int .u32 0, .bool true, .bool false, .bool false, .bool false, .int .i64 32, .slice (some ⟨go, 0, none⟩) 1 1, .slice none 0 0]] w _
  go_enter Tryz.func90, Tryz.ntmps90
  go_wp2_with (first
    | (go_at_call_of 142 (Value.int .i64 0)
       go_loud (refine (IA.out _).mono ?_; rintro e X ⟨rfl, hX⟩)
       rw [hX]
       clear hX)
    | (go_at_call_of 142 (Value.int .i64 1)
       go_loud (refine (IB.out _).mono ?_; rintro e X ⟨rfl, hX⟩)
       rw [hX]
       clear hX)
    | (go_at_call_of 142 (Value.int .i64 p1)
       go_loud (refine (IC.out _).mono ?_; rintro e X ⟨rfl, hX⟩)
       rw [hX]
       clear hX)
    | (go_at_call_of 142 (Value.int .i64 p2)
       go_loud (refine (ID.out _).mono ?_; rintro e X ⟨rfl, hX⟩)
       rw [hX]
       clear hX)
    | (go_at_call_of 142 (Value.int .i64 32)
       go_loud (refine (IE.out _).mono ?_; rintro e X ⟨rfl, hX⟩)
       rw [hX]
       clear hX)
    | (go_at_call 143
       go_loud (refine RC.out.mono ?_; rintro e w1 ⟨rfl, b1⟩)
       have K1 := Keep.mk (HB.out.trans (b1.mono (by simp)))
       clear b1)
    | fail)
  go_ret
  exact ⟨by first | rfl | simp, K1.out⟩
set_option maxRecDepth 100000 in
set_option maxHeartbeats 1600000 in
theorem set_any (g n : Nat) (l : List Bool) (w : World) (hl : l.length = n) (hn : n ≤ 8) (hc : ∀ i b, l[i]? = some b → w.cell? ⟨g, i, none⟩ = some (.bool b)) :
    Calls Tryz.prog 169 #[.slice (some ⟨g, 0, none⟩) n n] w fun e w' => ∃ x, e = .returned (.int .u64 x) ∧ 0 ≤ x ∧ x < 18446744073709551616 ∧ w' = w := by
  have HC := Lib.hid hc
  have HL := Keep.mk hl
  have HN := Keep.mk hn
  clear hc hl hn
  go_enter Tryz.func169, Tryz.ntmps169
  go_wp2_with fail
  go_loopw [3, 8] (fun v i wr => wr = w ∧ ∃ (j : Nat) (x : Int), j ≤ n ∧ i = .int .i64 j ∧ v = .int .u64 x ∧ Keep (0 ≤ x ∧ x < 18446744073709551616)) (fun _ i _ => n - (intOf i).toNat)
  case atStart => exact ⟨rfl, 0, 0, by omega, rfl, rfl, ⟨by decide, by decide⟩⟩
  case round =>
    obtain ⟨rfl, j, x, hj, rfl, rfl, HX⟩ := hrel
    rcases Nat.lt_or_ge j n with hlt | hge
    · have hn := HN.out
      obtain ⟨b, hb⟩ : ∃ b, l[j]? = some b := ⟨l[j]'(by rw [HL.out]; exact hlt), List.getElem?_eq_getElem _⟩
      have r0 := HC.out j b hb
      have hlti : ((j : Nat) : Int) < (n : Int) := by omega
      have hj0 : (0 : Int) ≤ (j : Int) := by omega
      clear hb
      cases b with
      | true =>
        go_wp2_with fail
        go_roundw
        case rel => exact ⟨by first | trivial | rfl, j + 1, _, by omega, by go_num, rfl, ⟨or_bd _ _⟩⟩
        case measure => simp [intOf] <;> omega
      | false =>
        go_wp2_with fail
        go_roundw
        case rel => exact ⟨by first | trivial | rfl, j + 1, x, by omega, by go_num, rfl, HX⟩
        case measure => simp [intOf] <;> omega
    · obtain rfl : j = n := by omega
      go_wp2_with fail
      go_ret
      exact ⟨x, rfl, HX.out.1, HX.out.2, rfl⟩
end Go.Proofs.YtjpokeakemlffaaGreatDoor
/-
  An option that opens, as bytes.
-/
namespace Go.Proofs.YtjpokeakemlffaaGreatDoor
open Go.RowKit
theorem bArg {w : World} {g : Nat} {l : List Int} (h : w.heap[g]? = some (.cells (bArr l) 5 (0, 0))) (hm : l.length ≤ maxLen) : Arg w 1 encB (some ⟨g, 0, none⟩) l.length l.length l := by
  obtain ⟨A, c, e, ha⟩ := Arg.of_own (by decide) encB_length (bArr_own h (Nat.zero_le g) hm)
  cases e
  exact ha
theorem bheap {w w' : World} {g : Nat} {o : Obj} (h : w.heap[g]? = some o) (F : Fz w w' []) : w'.heap[g]? = some o := (F.block g (lt_of_block h) (by simp)).trans h
set_option maxRecDepth 100000 in
set_option maxHeartbeats 6400000 in
theorem optput_cap (go : Nat) (k : Int) (w : World) (h : Bk w go (capO k) 173) (k0 : 0 ≤ k) (k1 : k < 18446744073709551616) :
    Calls Tryz.prog 171 #[.slice (some ⟨go, 0, none⟩) 1 1] w fun e w' => ∃ g, e = .returned (.tuple #[.slice (some ⟨g, 0, none⟩) 9 9, .int .i64 0]) ∧ w'.heap[g]? = some (.cells (bArr (1 :: beB k 8)) 5 (0, 0)) ∧ Below w.heap.size w w' := by
  have KB := Keep.mk h
  have KK : Keep (0 ≤ k ∧ k < 18446744073709551616) := ⟨k0, k1⟩
  clear h k0 k1
  go_enter Tryz.func171, Tryz.ntmps171
  go_wp2_with fail
  go_loopw [4, 13] (fun b i wr => (i = .int .i64 0 ∧ b = .slice none 0 0 ∧ wr = w) ∨ (∃ g, i = .int .i64 1 ∧ b = .slice (some ⟨g, 0, none⟩) 9 9 ∧ Keep (wr.heap[g]? = some (.cells (bArr (1 :: beB k 8)) 5 (0, 0)) ∧ Below w.heap.size w wr))) (fun _ i _ => 1 - (intOf i).toNat)
  case atStart => exact .inl ⟨rfl, rfl, rfl⟩
  case round =>
    rcases hrel with ⟨rfl, rfl, rfl⟩ | ⟨g, rfl, rfl, HQ⟩
    · obtain ⟨wo, rfl⟩ : ∃ wo : World, wo = wr := ⟨_, rfl⟩
      have o0 := KB.out.c 0
      have o1 := KB.out.c 1
      have o2 := KB.out.c 2
      have o3 := KB.out.c 3
      have o4 := KB.out.c 4
      have o5 := KB.out.c 5
      have o6 := KB.out.c 6
      have o7 := KB.out.c 7
      have o8 := KB.out.c 8
      have o9 := KB.out.c 9
      have o10 := KB.out.c 10
      have o11 := KB.out.c 11
      have o12 := KB.out.c 12
      have o13 := KB.out.c 13
      simp at o0 o1 o2 o3 o4 o5 o6 o7 o8 o9 o10 o11 o12 o13
      have N1 := Keep.mk (Bk.new wo (capO k) 173)
      have X1 := Keep.mk (Fz.alloc wo (.cells (capO k) 173))
      have OR := Keep.mk (optright_cap k (wo.alloc (.cells (capO k) 173)))
      go_wp2_with (first
        | (go_at_call 145
           go_loud (refine OR.out.mono ?_; rintro e w1 ⟨rfl, b1⟩)
           have F1 := Fz.below b1 (Nat.le_refl _)
           have N2 := Keep.mk (N1.out.fz F1 (by simp))
           have X2 : Keep (Fz wo w1 []) := ⟨(X1.out.trans F1).mono (by simp)⟩
           have c0 : w1.cell? ⟨wo.heap.size, 0, none⟩ = some (.int .i64 1) := N2.out.c 0
           have PB := Keep.mk (put8_any none 0 0 1 1 [] w1 (Arg.nil _ _ _) (by omega) (by omega) (by omega) (by omega) (by omega))
           clear b1 F1 o0 o1 o2 o3 o4 o5 o6 o7 o8 o9 o10 o11 o12 o13)
        | (go_at_call 170
           go_loud (refine PB.out.mono ?_; rintro e w2 ⟨rfl, h2, b2⟩)
           have F2 := Fz.below b2 (Nat.le_refl _)
           have N3 := Keep.mk (N2.out.fz F2 (by simp))
           have X3 : Keep (Fz wo w2 []) := ⟨(X2.out.trans F2).mono (by simp)⟩
           have KH2 := Keep.mk h2
           have PL := Keep.mk (places_cap wo.heap.size w2 (N3.out.c 0))
           clear h2 b2 F2)
        | (go_at_call 177
           go_loud (refine PL.out.mono ?_; rintro e w3 ⟨g3, rfl, _, pb3, b3⟩)
           have F3 := Fz.below b3 (Nat.le_refl _)
           have N4 := Keep.mk (N3.out.fz F3 (by simp))
           have X4 : Keep (Fz wo w3 []) := ⟨(X3.out.trans F3).mono (by simp)⟩
           have KH3 := Keep.mk (bheap KH2.out F3)
           have P3 := Keep.mk pb3
           clear b3 F3 pb3 c0)
        | fail)
      go_loopw [4, 27] (fun b i wq => (i = .int .i64 0 ∧ b = .slice (some ⟨w1.heap.size, 0, none⟩) 1 1 ∧ wq = w3) ∨ (∃ g, i = .int .i64 1 ∧ b = .slice (some ⟨g, 0, none⟩) 9 9 ∧ Keep (wq.heap[g]? = some (.cells (bArr (1 :: beB k 8)) 5 (0, 0)) ∧ Fz wo wq []))) (fun _ i _ => 1 - (intOf i).toNat)
      case atStart => exact .inl ⟨rfl, rfl, rfl⟩
      case round =>
        rcases hrel with ⟨rfl, rfl, rfl⟩ | ⟨g, rfl, rfl, HQ⟩
        · have a0 := P3.out.c 0
          have a1 := P3.out.c 1
          have a2 := P3.out.c 2
          have a3 := P3.out.c 3
          have a4 := P3.out.c 4
          simp at a0 a1 a2 a3 a4
          have X5 := Fz.alloc wr (.cells (placeC wo.heap.size) 237)
          have NU := Keep.mk (number_cap wo.heap.size k (wr.alloc (.cells (placeC wo.heap.size) 237)) ((N4.out.fz X5 (by simp)).c 1))
          have P5 := Keep.mk (Bk.new wr (placeC wo.heap.size) 237)
          have KX5 := Keep.mk X5
          clear X5
          go_wp2_with (first
            | (go_at_call 215
               go_loud (refine NU.out.mono ?_; rintro e w6 ⟨rfl, b6⟩)
               have F6 := Fz.below b6 (Nat.le_refl _)
               have d4 : w6.cell? ⟨wr.heap.size, 4, none⟩ = some (.int .i64 8) := (P5.out.fz F6 (by simp)).c 4
               have X6 : Keep (Fz wr w6 []) := ⟨(KX5.out.trans F6).mono (by simp)⟩
               have PB2 := Keep.mk (put8_any (some ⟨w1.heap.size, 0, none⟩) 1 1 8 k [1] w6 (bArg (bheap KH3.out X6.out) (by decide)) (by omega) (by omega) (by omega) KK.out.1 KK.out.2)
               clear b6 F6)
            | (go_at_call 170
               go_loud (refine PB2.out.mono ?_; rintro e w7 ⟨rfl, h7, b7⟩)
               have K7 : Keep (w7.heap[w6.heap.size]? = some (.cells (bArr (1 :: beB k 8)) 5 (0, 0)) ∧ Fz wo w7 []) := ⟨h7, ((X4.out.trans X6.out).trans (Fz.below b7 (Nat.le_refl _))).mono (by simp)⟩
               clear h7 b7)
            | fail)
          go_roundw
          case rel => exact .inr ⟨_, rfl, rfl, K7⟩
          case measure => simp [intOf]
        · go_wp2_with fail
          go_roundw
          case rel => exact .inr ⟨g, rfl, rfl, ⟨HQ.out.1, HQ.out.2.toBelow (Nat.le_refl _) (by simp)⟩⟩
          case measure => simp [intOf]
    · go_wp2_with fail
      refine bodyPost_ret (results_tmp2 rfl _ _ _) rfl ⟨g, rfl, HQ.out.1, HQ.out.2⟩
end Go.Proofs.YtjpokeakemlffaaGreatDoor
/-
  A segment that opens, as bytes.
-/
namespace Go.Proofs.YtjpokeakemlffaaGreatDoor
open Go.RowKit
abbrev widthsA : Array Value := #[.int .i64 1, .int .i64 1, .int .i64 2, .int .i64 2, .int .i64 4, .int .i64 4, .int .i64 1, .int .i64 2, .int .i64 1, .int .i64 1]
def Gw (w : World) : Prop := 0 < w.heap.size ∧ ∀ i v, widthsA[i]? = some v → w.cell? ⟨0, i, none⟩ = some v
theorem Gw.fz {w w' : World} {cs : List Nat} (h : Gw w) (F : Fz w w' cs) (hn : 0 ∉ cs) : Gw w' := ⟨Nat.lt_of_lt_of_le h.1 F.size, fun i v hv => (World.cell?_of_block (F.block _ h.1 hn)).trans (h.2 i v hv)⟩
theorem Gw.past {w w' : World} {B : Nat} (h : Gw w) (hB : Below B w w') (hg : 0 < B) : Gw w' := ⟨Nat.lt_of_lt_of_le h.1 hB.size, fun i v hv => (World.cell?_of_block (hB.block _ hg)).trans (h.2 i v hv)⟩
theorem w64_bd (x : Int) : 0 ≤ IntKind.u64.wrap x ∧ IntKind.u64.wrap x < 18446744073709551616 := by rw [IntKind.wrap_u64]; omega
theorem wid_at {j : Nat} (h : j < 10) : ∃ wd : Nat, widthsA[j]? = some (.int .i64 (wd : Int)) ∧ 1 ≤ wd ∧ wd ≤ 8 := by
  obtain rfl | rfl | rfl | rfl | rfl | rfl | rfl | rfl | rfl | rfl : j = 0 ∨ j = 1 ∨ j = 2 ∨ j = 3 ∨ j = 4 ∨ j = 5 ∨ j = 6 ∨ j = 7 ∨ j = 8 ∨ j = 9 := by omega
  · exact ⟨1, rfl, by omega, by omega⟩
  · exact ⟨1, rfl, by omega, by omega⟩
  · exact ⟨2, rfl, by omega, by omega⟩
  · exact ⟨2, rfl, by omega, by omega⟩
  · exact ⟨4, rfl, by omega, by omega⟩
  · exact ⟨4, rfl, by omega, by omega⟩
  · exact ⟨1, rfl, by omega, by omega⟩
  · exact ⟨2, rfl, by omega, by omega⟩
  · exact ⟨1, rfl, by omega, by omega⟩
  · exact ⟨1, rfl, by omega, by omega⟩
theorem index_wid {j : Nat} {v : Value} (h : widthsA[j]? = some v) (hj : j < 10) : ∀ X : World, (Instr.index 219 (.agg widthsA) (.int .i64 (j : Int))).run Tryz.prog X = .ok v X := fun X => by
  obtain rfl | rfl | rfl | rfl | rfl | rfl | rfl | rfl | rfl | rfl : j = 0 ∨ j = 1 ∨ j = 2 ∨ j = 3 ∨ j = 4 ∨ j = 5 ∨ j = 6 ∨ j = 7 ∨ j = 8 ∨ j = 9 := by omega
  · obtain rfl := Option.some.inj (h.symm.trans (show widthsA[0]? = some (.int .i64 1) from rfl))
    kernel_rfl
  · obtain rfl := Option.some.inj (h.symm.trans (show widthsA[1]? = some (.int .i64 1) from rfl))
    kernel_rfl
  · obtain rfl := Option.some.inj (h.symm.trans (show widthsA[2]? = some (.int .i64 2) from rfl))
    kernel_rfl
  · obtain rfl := Option.some.inj (h.symm.trans (show widthsA[3]? = some (.int .i64 2) from rfl))
    kernel_rfl
  · obtain rfl := Option.some.inj (h.symm.trans (show widthsA[4]? = some (.int .i64 4) from rfl))
    kernel_rfl
  · obtain rfl := Option.some.inj (h.symm.trans (show widthsA[5]? = some (.int .i64 4) from rfl))
    kernel_rfl
  · obtain rfl := Option.some.inj (h.symm.trans (show widthsA[6]? = some (.int .i64 1) from rfl))
    kernel_rfl
  · obtain rfl := Option.some.inj (h.symm.trans (show widthsA[7]? = some (.int .i64 2) from rfl))
    kernel_rfl
  · obtain rfl := Option.some.inj (h.symm.trans (show widthsA[8]? = some (.int .i64 1) from rfl))
    kernel_rfl
  · obtain rfl := Option.some.inj (h.symm.trans (show widthsA[9]? = some (.int .i64 1) from rfl))
    kernel_rfl
theorem index_head (ga : Nat) {j : Nat} (hj : j < 10) : ∀ X : World, (Instr.indexAt 167 (.pointer (some ⟨ga, 0, none⟩)) (.int .i64 (j : Int))).run Tryz.prog X = .ok (.pointer (some ⟨ga, j, none⟩)) X := fun X => by
  obtain rfl | rfl | rfl | rfl | rfl | rfl | rfl | rfl | rfl | rfl : j = 0 ∨ j = 1 ∨ j = 2 ∨ j = 3 ∨ j = 4 ∨ j = 5 ∨ j = 6 ∨ j = 7 ∨ j = 8 ∨ j = 9 := by omega
  all_goals kernel_rfl
theorem head_at {p1 p2 s2 x6 : Int} (hp : 0 ≤ p1 ∧ p1 ≤ 65535 ∧ 0 ≤ p2 ∧ p2 ≤ 65535) (hs : 0 ≤ s2 ∧ s2 < 18446744073709551616) (hx : 0 ≤ x6 ∧ x6 < 18446744073709551616) {j : Nat} (hj : j < 10) :
    ∃ v, (#[.int .u64 (IntKind.u64.wrap 0), .int .u64 (IntKind.u64.wrap 1), .int .u64 p1, .int .u64 p2, .int .u64 s2, .int .u64 (IntKind.u64.wrap 0), .int .u64 x6, .int .u64 (IntKind.u64.wrap 32), .int .u64 (IntKind.u64.wrap 1), .int .u64 (IntKind.u64.wrap 0)] : Array Value)[j]? = some (.int .u64 v) ∧ 0 ≤ v ∧ v < 18446744073709551616 := by
  obtain rfl | rfl | rfl | rfl | rfl | rfl | rfl | rfl | rfl | rfl : j = 0 ∨ j = 1 ∨ j = 2 ∨ j = 3 ∨ j = 4 ∨ j = 5 ∨ j = 6 ∨ j = 7 ∨ j = 8 ∨ j = 9 := by omega
  · exact ⟨_, rfl, w64_bd 0⟩
  · exact ⟨_, rfl, w64_bd 1⟩
  · exact ⟨_, rfl, by omega⟩
  · exact ⟨_, rfl, by omega⟩
  · exact ⟨_, rfl, hs⟩
  · exact ⟨_, rfl, w64_bd 0⟩
  · exact ⟨_, rfl, hx⟩
  · exact ⟨_, rfl, w64_bd 32⟩
  · exact ⟨_, rfl, w64_bd 1⟩
  · exact ⟨_, rfl, w64_bd 0⟩
theorem join_three (w : World) (A : Option Addr) (n c : Nat) (l : List Int) (A2 : Option Addr) (n2 c2 : Nat) (l2 : List Int) (h1 : Arg w 1 encB A n c l) (h2 : Arg w 1 encB A2 n2 c2 l2) (b1 : n ≤ 1000) (b2 : n2 ≤ 1000) :
    Calls Tryz.prog 173 #[.slice (some ⟨w.heap.size, 0, none⟩) 3 3] (w.alloc (.cells #[.slice A n c, .slice A2 n2 c2, .slice none 0 0] 24)) fun e w' => ∃ A' n' c', e = .returned (.slice A' n' c') ∧ Arg w' 1 encB A' n' c' (l ++ l2) ∧ n' = n + n2 ∧ Below (w.alloc (.cells #[.slice A n c, .slice A2 n2 c2, .slice none 0 0] 24)).heap.size (w.alloc (.cells #[.slice A n c, .slice A2 n2 c2, .slice none 0 0] 24)) w' := by
  have hg : glue [⟨A, n, c, l⟩, ⟨A2, n2, c2, l2⟩, ⟨none, 0, 0, []⟩] = l ++ l2 := by simp [glue]
  have hl : (l ++ l2).length = n + n2 := by rw [List.length_append, h1.hlen, h2.hlen]
  refine (join_any _ 3 3 [⟨A, n, c, l⟩, ⟨A2, n2, c2, l2⟩, ⟨none, 0, 0, []⟩] _ (Arg.new' w _ rfl 24 (0, 0) 1 encP encP_length [⟨A, n, c, l⟩, ⟨A2, n2, c2, l2⟩, ⟨none, 0, 0, []⟩] 3 rfl (by decide)) (fun p hp => ?_) (by decide) (by rw [hg, hl]; omega)).mono ?_
  · simp only [List.mem_cons, List.not_mem_nil, or_false] at hp
    rcases hp with rfl | rfl | rfl
    · exact h1.alloc _
    · exact h2.alloc _
    · exact Arg.nil _ _ _
  · rintro e w' ⟨A', c', rfl, ha, _, hb⟩
    rw [hg, hl] at ha ⊢
    exact ⟨A', _, c', rfl, ha, rfl, hb⟩
set_option maxRecDepth 100000 in
set_option maxHeartbeats 6400000 in
theorem segput_syn (p1 p2 s : Int) (go : Nat) (k : Int) (w : World) (hg : Gw w) (h : Bk w go (capO k) 173) (c1 : 0 ≤ p1) (c2 : p1 ≤ 65535) (d1 : 0 ≤ p2) (d2 : p2 ≤ 65535) (k0 : 0 ≤ k) (k1 : k < 18446744073709551616) :
    Calls Tryz.prog 110 #[.agg (segS p1 p2 s go).toArray] w fun e w' => ∃ (g m : Nat), e = .returned (.tuple #[.slice (some ⟨g, 0, none⟩) m m, .int .i64 0]) ∧ w.heap.size ≤ g ∧ 0 < m ∧ (∃ arr, Bk w' g arr 5) ∧ Below w.heap.size w w' := by
  have KB0 := Keep.mk h
  have RS := Keep.mk (right_syn p1 p2 s go k (w.alloc (.cells (segS p1 p2 s go).toArray 132)) (h.fz (Fz.alloc w _) (by simp)) c1 c2 d1 d2)
  have N0 := Keep.mk (Bk.new w (segS p1 p2 s go).toArray 132)
  have X0 := Keep.mk (Fz.alloc w (.cells (segS p1 p2 s go).toArray 132))
  have KG := Keep.mk hg
  have KK : Keep (0 ≤ k ∧ k < 18446744073709551616) := ⟨k0, k1⟩
  have q0 : IntKind.u64.wrap p1 = p1 := by rw [IntKind.wrap_u64]; omega
  have q1 : IntKind.u64.wrap p2 = p2 := by rw [IntKind.wrap_u64]; omega
  obtain ⟨s2, hs2⟩ : ∃ s2, IntKind.u64.wrap s = s2 := ⟨_, rfl⟩
  have HS : Keep (0 ≤ s2 ∧ s2 < 18446744073709551616) := ⟨hs2 ▸ w64_bd s⟩
  have HP : Keep (0 ≤ p1 ∧ p1 ≤ 65535 ∧ 0 ≤ p2 ∧ p2 ≤ 65535) := ⟨c1, c2, d1, d2⟩
  clear h hg k0 k1
  show Calls Tryz.prog 110 #[.agg #[.int .i64 0, .int .i64 1, .int .i64 p1, .int .i64 p2, .int .u32 s, .int .u32 0, .bool true, .bool false, .bool false, .bool false, .int .i64 32, .slice (some ⟨go, 0, none⟩) 1 1, .slice none 0 0]] w _
  go_enter Tryz.func110, Tryz.ntmps110
  go_wp2_with (first
    | (go_at_call 90
       go_loud (refine RS.out.mono ?_; rintro e w1 ⟨rfl, b1⟩)
       have F1 := Fz.below b1 (Nat.le_refl _)
       have N1 := Keep.mk (N0.out.fz F1 (by simp))
       have X1 : Keep (Fz w w1 []) := ⟨(X0.out.trans F1).mono (by simp)⟩
       clear b1 F1)
    | fail)
  have NX := Keep.mk (N1.out.fz (Fz.drew w1 1) (by simp))
  have XX : Keep (Fz w w1.drew []) := ⟨(X1.out.trans (Fz.drew w1 1)).mono (by simp)⟩
  -- reg segput
  refine wp_region_noPanic ?_
  refine wp_region_held_drew (S := fun X => X.cell? ⟨w.heap.size, 0, none⟩ = some (.int .i64 0) ∧ X.cell? ⟨w.heap.size, 1, none⟩ = some (.int .i64 1) ∧ X.cell? ⟨w.heap.size, 2, none⟩ = some (.int .i64 p1) ∧ X.cell? ⟨w.heap.size, 3, none⟩ = some (.int .i64 p2) ∧ X.cell? ⟨w.heap.size, 4, none⟩ = some (.int .u32 s) ∧ X.cell? ⟨w.heap.size, 5, none⟩ = some (.int .u32 0) ∧ X.cell? ⟨w.heap.size, 6, none⟩ = some (.bool true) ∧ X.cell? ⟨w.heap.size, 7, none⟩ = some (.bool false) ∧ X.cell? ⟨w.heap.size, 8, none⟩ = some (.bool false) ∧ X.cell? ⟨w.heap.size, 9, none⟩ = some (.bool false) ∧ X.cell? ⟨w.heap.size, 10, none⟩ = some (.int .i64 32) ∧ X.cell? ⟨w.heap.size, 11, none⟩ = some (.slice (some ⟨go, 0, none⟩) 1 1) ∧ X.cell? ⟨w.heap.size, 12, none⟩ = some (.slice none 0 0)) (by kernel_rfl) ⟨NX.out.c 0, NX.out.c 1, NX.out.c 2, NX.out.c 3, NX.out.c 4, NX.out.c 5, NX.out.c 6, NX.out.c 7, NX.out.c 8, NX.out.c 9, NX.out.c 10, NX.out.c 11, NX.out.c 12⟩ (fun hHeld => ?_)
  refine wpAnyH_pures' (fun d => ([1000, 1000, 1000, 1000, 41, 1000, 1000, 1000, 1000, 1000, 1000, 1000, 1000, 0, 1, 2, 3, 4, 5, 6, 7, 8, 9, 10, 11, 12, 13, 14, 15, 16, 17, 18, 19, 20, 21, 22, 23, 24, 25, 26, 27, 28, 29, 30, 31, 32, 33, 34, 35, 36, 37, 38, 39, 40] : List Nat).getD d 1000) [0, 1, 2, 3, 4, 5, 6, 7, 8, 9, 10, 11, 12, 13, 14, 15, 16, 17, 18, 19, 20, 21, 22, 23, 24, 25, 28, 29, 30, 31, 32, 33, 34, 35, 36, 37, 38] 6 (by kernel_rfl) (by kernel_rfl) (by kernel_rfl) (fun _ _ _ _ _ h => h) (by assumption) (fun K hK => ?_)
  iterate 37 (refine Ys_cons (v := ?_) rfl (Or.inl ⟨by rfl, ?_⟩) ?_; rotate_left; (focus (intro w hSw; go_simp; (try with_reducible rfl))); try simp only [Act.put, List.setIfInBounds_toArray, List.set_cons_zero, List.set_cons_succ, List.getElem_toArray, List.getElem_cons_zero, List.getElem_cons_succ])
  refine hK _ ?_
  clear hK K
  change wpAnyH _ _ _ _ _ _ #[true, true, true, true, true, true, true, true, true, true, true, true, true, true, true, true, true, true, true, true, true, true, true, true, true, true, false, false, true, true, true, true, true, true, true, true, true, true, true, false, false, false, false] _ _
  refine wpAnyH_ready (rs := [26, 41]) (by kernel_rfl) (by simp) ?_
  refine AllReadyH.cons rfl (fun K hK => ?_) (AllReadyH.cons rfl (fun K hK => ?_) AllReadyH.nil)
  · go_simp
    have NB := Keep.mk (NX.out.fz (Fz.alloc w1.drew (.cells #[.bool true, .bool false, .bool false, .bool false] 4)) (by simp))
    have XB : Keep (Fz w (w1.drew.alloc (.cells #[.bool true, .bool false, .bool false, .bool false] 4)) []) := ⟨(XX.out.trans (Fz.alloc w1.drew (.cells #[.bool true, .bool false, .bool false, .bool false] 4))).mono (by simp)⟩
    have GB := Keep.mk (Bk.new w1.drew #[.bool true, .bool false, .bool false, .bool false] 4)
    refine hK.out _ _ ?_ (fun hHeld => ?_)
    · first | exact ⟨NX.out.c 0, NX.out.c 1, NX.out.c 2, NX.out.c 3, NX.out.c 4, NX.out.c 5, NX.out.c 6, NX.out.c 7, NX.out.c 8, NX.out.c 9, NX.out.c 10, NX.out.c 11, NX.out.c 12⟩ | exact ⟨NB.out.c 0, NB.out.c 1, NB.out.c 2, NB.out.c 3, NB.out.c 4, NB.out.c 5, NB.out.c 6, NB.out.c 7, NB.out.c 8, NB.out.c 9, NB.out.c 10, NB.out.c 11, NB.out.c 12⟩ | exact ⟨NZ.out.c 0, NZ.out.c 1, NZ.out.c 2, NZ.out.c 3, NZ.out.c 4, NZ.out.c 5, NZ.out.c 6, NZ.out.c 7, NZ.out.c 8, NZ.out.c 9, NZ.out.c 10, NZ.out.c 11, NZ.out.c 12⟩ | exact ⟨NZB.out.c 0, NZB.out.c 1, NZB.out.c 2, NZB.out.c 3, NZB.out.c 4, NZB.out.c 5, NZB.out.c 6, NZB.out.c 7, NZB.out.c 8, NZB.out.c 9, NZB.out.c 10, NZB.out.c 11, NZB.out.c 12⟩ | exact ⟨NW.out.c 0, NW.out.c 1, NW.out.c 2, NW.out.c 3, NW.out.c 4, NW.out.c 5, NW.out.c 6, NW.out.c 7, NW.out.c 8, NW.out.c 9, NW.out.c 10, NW.out.c 11, NW.out.c 12⟩
    clear hK K
    try simp only [Act.put, List.setIfInBounds_toArray, List.set_cons_zero, List.set_cons_succ, List.getElem_toArray, List.getElem_cons_zero, List.getElem_cons_succ]
    refine wpAnyH_ready (rs := [27, 41]) (by kernel_rfl) (by simp) ?_
    refine AllReadyH.cons rfl (fun K hK => ?_) (AllReadyH.cons rfl (fun K hK => ?_) AllReadyH.nil)
    · go_simp
      refine (set_any _ 4 [true, false, false, false] _ rfl (by omega) (fun i b hb => ((show _ = _ by first | exact GB2.out.c i | exact GB.out.c i).trans (by have := hb; rcases i with _ | _ | _ | _ | i <;> simp at this ⊢ <;> exact this)))).mono ?_
      rintro e X ⟨x6, rfl, hx0, hx1, hX⟩
      rw [hX]
      have HX6 : Keep (0 ≤ x6 ∧ x6 < 18446744073709551616) := ⟨hx0, hx1⟩
      clear hX X hx0 hx1
      refine hK.out _ _ ?_ (fun hHeld => ?_)
      · first | exact ⟨NX.out.c 0, NX.out.c 1, NX.out.c 2, NX.out.c 3, NX.out.c 4, NX.out.c 5, NX.out.c 6, NX.out.c 7, NX.out.c 8, NX.out.c 9, NX.out.c 10, NX.out.c 11, NX.out.c 12⟩ | exact ⟨NB.out.c 0, NB.out.c 1, NB.out.c 2, NB.out.c 3, NB.out.c 4, NB.out.c 5, NB.out.c 6, NB.out.c 7, NB.out.c 8, NB.out.c 9, NB.out.c 10, NB.out.c 11, NB.out.c 12⟩ | exact ⟨NZ.out.c 0, NZ.out.c 1, NZ.out.c 2, NZ.out.c 3, NZ.out.c 4, NZ.out.c 5, NZ.out.c 6, NZ.out.c 7, NZ.out.c 8, NZ.out.c 9, NZ.out.c 10, NZ.out.c 11, NZ.out.c 12⟩ | exact ⟨NZB.out.c 0, NZB.out.c 1, NZB.out.c 2, NZB.out.c 3, NZB.out.c 4, NZB.out.c 5, NZB.out.c 6, NZB.out.c 7, NZB.out.c 8, NZB.out.c 9, NZB.out.c 10, NZB.out.c 11, NZB.out.c 12⟩ | exact ⟨NW.out.c 0, NW.out.c 1, NW.out.c 2, NW.out.c 3, NW.out.c 4, NW.out.c 5, NW.out.c 6, NW.out.c 7, NW.out.c 8, NW.out.c 9, NW.out.c 10, NW.out.c 11, NW.out.c 12⟩
      clear hK K
      try simp only [Act.put, List.setIfInBounds_toArray, List.set_cons_zero, List.set_cons_succ, List.getElem_toArray, List.getElem_cons_zero, List.getElem_cons_succ]
      refine wpAnyH_pures' (fun d => ([1000, 1000, 1000, 1000, 41, 1000, 1000, 1000, 1000, 1000, 1000, 1000, 1000, 0, 1, 2, 3, 4, 5, 6, 7, 8, 9, 10, 11, 12, 13, 14, 15, 16, 17, 18, 19, 20, 21, 22, 23, 24, 25, 26, 27, 28, 29, 30, 31, 32, 33, 34, 35, 36, 37, 38, 39, 40] : List Nat).getD d 1000) [39, 40] 2 (by kernel_rfl) (by kernel_rfl) (by kernel_rfl) (fun _ _ _ _ _ h => h) (by assumption) (fun K hK => ?_)
      iterate 2 (refine Ys_cons (v := ?_) rfl (Or.inl ⟨by rfl, ?_⟩) ?_; rotate_left; (focus (intro w hSw; go_simp; (try with_reducible rfl))); try simp only [Act.put, List.setIfInBounds_toArray, List.set_cons_zero, List.set_cons_succ, List.getElem_toArray, List.getElem_cons_zero, List.getElem_cons_succ])
      refine hK _ ?_
      clear hK K
      change wpAnyH _ _ _ _ _ _ #[true, true, true, true, true, true, true, true, true, true, true, true, true, true, true, true, true, true, true, true, true, true, true, true, true, true, true, true, true, true, true, true, true, true, true, true, true, true, true, true, true, false, false] _ _
      refine wpAnyH_ready (rs := [41]) (by kernel_rfl) (by simp) ?_
      refine AllReadyH.cons rfl (fun K hK => ?_) AllReadyH.nil
      go_simp
      have NZB := Keep.mk (NB.out.fz (Fz.alloc (w1.drew.alloc (.cells #[.bool true, .bool false, .bool false, .bool false] 4)) (.cells (Array.replicate 10 (.int .u64 0)) 169)) (by simp))
      have XZB : Keep (Fz w ((w1.drew.alloc (.cells #[.bool true, .bool false, .bool false, .bool false] 4)).alloc (.cells (Array.replicate 10 (.int .u64 0)) 169)) []) := ⟨(XB.out.trans (Fz.alloc (w1.drew.alloc (.cells #[.bool true, .bool false, .bool false, .bool false] 4)) (.cells (Array.replicate 10 (.int .u64 0)) 169))).mono (by simp)⟩
      have HZ := Keep.mk (Bk.new (w1.drew.alloc (.cells #[.bool true, .bool false, .bool false, .bool false] 4)) (Array.replicate 10 (.int .u64 0)) 169)
      refine hK.out _ _ ?_ (fun hHeld => ?_)
      · first | exact ⟨NX.out.c 0, NX.out.c 1, NX.out.c 2, NX.out.c 3, NX.out.c 4, NX.out.c 5, NX.out.c 6, NX.out.c 7, NX.out.c 8, NX.out.c 9, NX.out.c 10, NX.out.c 11, NX.out.c 12⟩ | exact ⟨NB.out.c 0, NB.out.c 1, NB.out.c 2, NB.out.c 3, NB.out.c 4, NB.out.c 5, NB.out.c 6, NB.out.c 7, NB.out.c 8, NB.out.c 9, NB.out.c 10, NB.out.c 11, NB.out.c 12⟩ | exact ⟨NZ.out.c 0, NZ.out.c 1, NZ.out.c 2, NZ.out.c 3, NZ.out.c 4, NZ.out.c 5, NZ.out.c 6, NZ.out.c 7, NZ.out.c 8, NZ.out.c 9, NZ.out.c 10, NZ.out.c 11, NZ.out.c 12⟩ | exact ⟨NZB.out.c 0, NZB.out.c 1, NZB.out.c 2, NZB.out.c 3, NZB.out.c 4, NZB.out.c 5, NZB.out.c 6, NZB.out.c 7, NZB.out.c 8, NZB.out.c 9, NZB.out.c 10, NZB.out.c 11, NZB.out.c 12⟩ | exact ⟨NW.out.c 0, NW.out.c 1, NW.out.c 2, NW.out.c 3, NW.out.c 4, NW.out.c 5, NW.out.c 6, NW.out.c 7, NW.out.c 8, NW.out.c 9, NW.out.c 10, NW.out.c 11, NW.out.c 12⟩
      clear hK K
      try simp only [Act.put, List.setIfInBounds_toArray, List.set_cons_zero, List.set_cons_succ, List.getElem_toArray, List.getElem_cons_zero, List.getElem_cons_succ]
      refine wpAnyH_ready (rs := [42]) (by kernel_rfl) (by simp) ?_
      refine AllReadyH.cons rfl (fun K hK => ?_) AllReadyH.nil
      first
        | (change if Region.wanted _ _ = true then Oper.wp _ _ _ ((w1.drew.alloc (.cells #[.bool true, .bool false, .bool false, .bool false] 4)).alloc (.cells (Array.replicate 10 (.int .u64 0)) 169)) _ _ else _
           have HZ3 : Keep (Bk ((w1.drew.alloc (.cells #[.bool true, .bool false, .bool false, .bool false] 4)).alloc (.cells (Array.replicate 10 (.int .u64 0)) 169)) (w1.heap.size + 1) (Array.replicate 10 (.int .u64 0)) 169) := ⟨(show (w1.drew.alloc (.cells #[.bool true, .bool false, .bool false, .bool false] 4)).heap.size = w1.heap.size + 1 by simp) ▸ HZ.out⟩
           refine step_store_row rfl 169 (.tmp 4) (.tmp 53) rfl (w1.heap.size + 1) #[.int .u64 (IntKind.u64.wrap 0), .int .u64 (IntKind.u64.wrap 1), .int .u64 p1, .int .u64 p2, .int .u64 s2, .int .u64 (IntKind.u64.wrap 0), .int .u64 x6, .int .u64 (IntKind.u64.wrap 32), .int .u64 (IntKind.u64.wrap 1), .int .u64 (IntKind.u64.wrap 0)] rfl rfl 169 (Array.replicate 10 (.int .u64 0)) HZ3.out.eq (by kernel_rfl) rfl (by simp [Value.oneCell']) ?_
           obtain ⟨hb, hhb⟩ : ∃ hb, w1.heap.size + 1 = hb := ⟨_, rfl⟩
           obtain ⟨CW, hCW⟩ : ∃ CW, ((w1.drew.alloc (.cells #[.bool true, .bool false, .bool false, .bool false] 4)).alloc (.cells (Array.replicate 10 (.int .u64 0)) 169)) = CW := ⟨_, rfl⟩
           have LB : Keep (w.heap.size < hb) := ⟨by have := N1.out.lt; omega⟩
           rw [hhb, hCW] at HZ3; rw [hCW] at XZB NZB; rw [hhb, hCW]; clear hhb hCW)
        | (change if Region.wanted _ _ = true then Oper.wp _ _ _ ((w1.drew.alloc (.cells (Array.replicate 10 (.int .u64 0)) 169)).alloc (.cells #[.bool true, .bool false, .bool false, .bool false] 4)) _ _ else _
           have HZ3 : Keep (Bk ((w1.drew.alloc (.cells (Array.replicate 10 (.int .u64 0)) 169)).alloc (.cells #[.bool true, .bool false, .bool false, .bool false] 4)) w1.heap.size (Array.replicate 10 (.int .u64 0)) 169) := ⟨HZ.out⟩
           refine step_store_row rfl 169 (.tmp 4) (.tmp 53) rfl w1.heap.size #[.int .u64 (IntKind.u64.wrap 0), .int .u64 (IntKind.u64.wrap 1), .int .u64 p1, .int .u64 p2, .int .u64 s2, .int .u64 (IntKind.u64.wrap 0), .int .u64 x6, .int .u64 (IntKind.u64.wrap 32), .int .u64 (IntKind.u64.wrap 1), .int .u64 (IntKind.u64.wrap 0)] rfl rfl 169 (Array.replicate 10 (.int .u64 0)) HZ3.out.eq (by kernel_rfl) rfl (by simp [Value.oneCell']) ?_
           obtain ⟨hb, hhb⟩ : ∃ hb, w1.heap.size = hb := ⟨_, rfl⟩
           obtain ⟨CW, hCW⟩ : ∃ CW, ((w1.drew.alloc (.cells (Array.replicate 10 (.int .u64 0)) 169)).alloc (.cells #[.bool true, .bool false, .bool false, .bool false] 4)) = CW := ⟨_, rfl⟩
           have LB : Keep (w.heap.size < hb) := ⟨by have := N1.out.lt; omega⟩
           rw [hCW] at XZB NZB HZ3; rw [hCW]; rw [hhb] at HZ3; rw [hhb]; clear hCW hhb)
      obtain ⟨W, hW⟩ : ∃ W, CW.setRow hb #[.int .u64 (IntKind.u64.wrap 0), .int .u64 (IntKind.u64.wrap 1), .int .u64 p1, .int .u64 p2, .int .u64 s2, .int .u64 (IntKind.u64.wrap 0), .int .u64 x6, .int .u64 (IntKind.u64.wrap 32), .int .u64 (IntKind.u64.wrap 1), .int .u64 (IntKind.u64.wrap 0)] = W := ⟨_, rfl⟩
      have FR : Fz CW W [hb] := hW ▸ Fz.row CW hb _
      have HB : Keep (Bk W hb #[.int .u64 (IntKind.u64.wrap 0), .int .u64 (IntKind.u64.wrap 1), .int .u64 p1, .int .u64 p2, .int .u64 s2, .int .u64 (IntKind.u64.wrap 0), .int .u64 x6, .int .u64 (IntKind.u64.wrap 32), .int .u64 (IntKind.u64.wrap 1), .int .u64 (IntKind.u64.wrap 0)] 169) := ⟨hW ▸ ⟨setRow_heap _ _ _ _ _ _ HZ3.out.eq⟩⟩
      have FW : Keep (Fz w W []) := ⟨(XZB.out.trans FR).mono (by simp; have := LB.out; omega)⟩
      have NW := Keep.mk (NZB.out.fz FR (by simp; have := LB.out; omega))
      rw [hW]
      clear hW FR
      refine hK.out _ _ ?_ (fun hHeld => ?_)
      · first | exact ⟨NX.out.c 0, NX.out.c 1, NX.out.c 2, NX.out.c 3, NX.out.c 4, NX.out.c 5, NX.out.c 6, NX.out.c 7, NX.out.c 8, NX.out.c 9, NX.out.c 10, NX.out.c 11, NX.out.c 12⟩ | exact ⟨NB.out.c 0, NB.out.c 1, NB.out.c 2, NB.out.c 3, NB.out.c 4, NB.out.c 5, NB.out.c 6, NB.out.c 7, NB.out.c 8, NB.out.c 9, NB.out.c 10, NB.out.c 11, NB.out.c 12⟩ | exact ⟨NZ.out.c 0, NZ.out.c 1, NZ.out.c 2, NZ.out.c 3, NZ.out.c 4, NZ.out.c 5, NZ.out.c 6, NZ.out.c 7, NZ.out.c 8, NZ.out.c 9, NZ.out.c 10, NZ.out.c 11, NZ.out.c 12⟩ | exact ⟨NZB.out.c 0, NZB.out.c 1, NZB.out.c 2, NZB.out.c 3, NZB.out.c 4, NZB.out.c 5, NZB.out.c 6, NZB.out.c 7, NZB.out.c 8, NZB.out.c 9, NZB.out.c 10, NZB.out.c 11, NZB.out.c 12⟩ | exact ⟨NW.out.c 0, NW.out.c 1, NW.out.c 2, NW.out.c 3, NW.out.c 4, NW.out.c 5, NW.out.c 6, NW.out.c 7, NW.out.c 8, NW.out.c 9, NW.out.c 10, NW.out.c 11, NW.out.c 12⟩
      clear hK K
      try simp only [Act.put, List.setIfInBounds_toArray, List.set_cons_zero, List.set_cons_succ, List.getElem_toArray, List.getElem_cons_zero, List.getElem_cons_succ]
      refine wpAnyH_done (by kernel_rfl) ?_ _
      refine NoPanic.normal ?_
      have KGW := KG.out.fz FW.out (by simp)
      have g0 := KGW.2 0 _ rfl
      have g1 := KGW.2 1 _ rfl
      have g2 := KGW.2 2 _ rfl
      have g3 := KGW.2 3 _ rfl
      have g4 := KGW.2 4 _ rfl
      have g5 := KGW.2 5 _ rfl
      have g6 := KGW.2 6 _ rfl
      have g7 := KGW.2 7 _ rfl
      have g8 := KGW.2 8 _ rfl
      have g9 := KGW.2 9 _ rfl
      clear KGW
      go_wp2_with fail
      go_loopw [5, 55] (fun b i wr => ∃ (j n c : Nat) (A : Option Addr) (l : List Int), j ≤ 10 ∧ i = .int .i64 j ∧ b = .slice A n c ∧ Keep (Arg wr 1 encB A n c l ∧ (∀ z ∈ l, 0 ≤ z ∧ z ≤ 255) ∧ n ≤ 8 * j ∧ Fz W wr [])) (fun _ i _ => 10 - (intOf i).toNat)
      case atStart => exact ⟨0, 0, 0, none, [], by omega, rfl, rfl, ⟨Arg.nil _ _ _, by simp, by omega, Fz.refl _⟩⟩
      case round =>
        obtain ⟨j, n, c, A, l, hj, rfl, rfl, HQ⟩ := hrel
        rcases Nat.lt_or_ge j 10 with hlt | hge
        · have hlti : ((j : Nat) : Int) < 10 := by omega
          obtain ⟨wd, hwd, hw1, hw8⟩ := wid_at hlt
          obtain ⟨v, hv, hv0, hv1⟩ := head_at (p1 := p1) (p2 := p2) (s2 := s2) (x6 := x6) HP.out HS.out HX6.out hlt
          have ix1 := index_wid hwd hlt
          have ix2 := index_head hb hlt
          have r0 : wr.cell? ⟨hb, j, none⟩ = some (.int .u64 v) := ((HB.out.fz HQ.out.2.2.2 (by simp)).c j).trans hv
          have PB := Keep.mk (put8_any A n c wd v l wr HQ.out.1 (by have := HQ.out.2.2.1; omega) hw1 hw8 hv0 hv1)
          have LN : Keep (l.length = n ∧ wd ≤ 8) := ⟨HQ.out.1.hlen, hw8⟩
          clear hwd hv hv0 hv1 hw1 hw8
          go_wp2_with (first
            | (go_at_call 170
               go_loud (refine PB.out.mono ?_; rintro e w4 ⟨rfl, h4, b4⟩)
               have K4 : Keep (Arg w4 1 encB (some ⟨wr.heap.size, 0, none⟩) (n + wd) (n + wd) (l ++ beB v wd) ∧ (∀ z ∈ l ++ beB v wd, 0 ≤ z ∧ z ≤ 255) ∧ n + wd ≤ 8 * (j + 1) ∧ Fz W w4 []) := ⟨by
                 have hle : (l ++ beB v wd).length = n + wd := by rw [List.length_append, beB_length, LN.out.1]
                 have := bArg h4 (by rw [hle]; unfold maxLen; have := HQ.out.2.2.1; have := LN.out.2; omega)
                 rw [hle] at this
                 exact this, fun z hz => by
                 rcases List.mem_append.1 hz with h | h
                 · exact HQ.out.2.1 z h
                 · exact beB_byte _ _ z h, by have := HQ.out.2.2.1; have := LN.out.2; omega, (HQ.out.2.2.2.trans (Fz.below b4 (Nat.le_refl _))).mono (by simp)⟩
               clear h4 b4 PB)
            | fail)
          go_roundw
          case rel => exact ⟨j + 1, n + wd, n + wd, _, _, by omega, by go_num, rfl, K4⟩
          case measure => simp [intOf] <;> omega
        · obtain rfl : j = 10 := by omega
          have OP := Keep.mk (optput_cap go k wr (KB0.out.fz (FW.out.trans HQ.out.2.2.2) (by simp)) KK.out.1 KK.out.2)
          have NWR := Keep.mk (NW.out.fz HQ.out.2.2.2 (by simp))
          have e11 : wr.cell? ⟨w.heap.size, 11, none⟩ = some (.slice (some ⟨go, 0, none⟩) 1 1) := NWR.out.c 11
          go_wp2_with (first
            | (go_at_call 171
               go_loud (refine OP.out.mono ?_; rintro e w5 ⟨g5, rfl, h5, b5⟩)
               have F5 := Fz.below b5 (Nat.le_refl _)
               have e12 : w5.cell? ⟨w.heap.size, 12, none⟩ = some (.slice none 0 0) := (NWR.out.fz F5 (by simp)).c 12
               have X5 : Keep (Fz w w5 []) := ⟨((FW.out.trans HQ.out.2.2.2).trans F5).mono (by simp)⟩
               have A5 := Keep.mk (HQ.out.1.below b5)
               have e9 : (1 :: beB k 8).length = 9 := by rw [List.length_cons, beB_length]
               have A6 := bArg h5 (by rw [e9]; decide)
               rw [e9] at A6
               have A6 := Keep.mk A6
               have JN := Keep.mk (join_three w5 A n c l (some ⟨g5, 0, none⟩) 9 9 (1 :: beB k 8) A5.out A6.out (by have := HQ.out.2.2.1; omega) (by omega))
               clear h5 b5 F5 e9)
            | (go_at_call 173
               go_loud (refine JN.out.mono ?_; rintro e w6 ⟨A7, n7, c7, rfl, a7, hn7, b7⟩)
               have X6 : Keep (Fz w w6 []) := ⟨((X5.out.trans (Fz.alloc w5 _)).trans (Fz.below b7 (Nat.le_refl _))).mono (by simp)⟩
               have SP := Keep.mk (sput_any A7 n7 c7 _ w6 a7 (fun z hz => by
                 rcases List.mem_append.1 hz with h | h
                 · exact HQ.out.2.1 z h
                 · rcases List.mem_cons.1 h with rfl | h
                   · omega
                   · exact beB_byte _ _ z h) (by have := HQ.out.2.2.1; omega))
               have HN7 : Keep (n7 = n + 9) := ⟨hn7⟩
               clear a7 b7 hn7)
            | (go_at_call 172
               go_loud (refine SP.out.mono ?_; rintro e w8 ⟨g8, m8, rfl, hm8, hg8, h8, b8⟩)
               have K8 : Keep (w.heap.size ≤ g8 ∧ 0 < m8 ∧ (∃ arr, Bk w8 g8 arr 5) ∧ Below w.heap.size w w8) := ⟨Nat.le_trans X6.out.size hg8, by rw [hm8]; unfold sumB; rw [List.length_append, beB_length]; omega, ⟨_, ⟨h8⟩⟩, (X6.out.toBelow (Nat.le_refl _) (by simp)).trans (b8.mono X6.out.size)⟩
               clear hm8 hg8 h8 b8)
            | fail)
          refine bodyPost_ret (results_tmp2 rfl _ _ _) rfl ⟨g8, m8, rfl, K8.out⟩
    · go_simp
      have NZB := Keep.mk (NB.out.fz (Fz.alloc (w1.drew.alloc (.cells #[.bool true, .bool false, .bool false, .bool false] 4)) (.cells (Array.replicate 10 (.int .u64 0)) 169)) (by simp))
      have XZB : Keep (Fz w ((w1.drew.alloc (.cells #[.bool true, .bool false, .bool false, .bool false] 4)).alloc (.cells (Array.replicate 10 (.int .u64 0)) 169)) []) := ⟨(XB.out.trans (Fz.alloc (w1.drew.alloc (.cells #[.bool true, .bool false, .bool false, .bool false] 4)) (.cells (Array.replicate 10 (.int .u64 0)) 169))).mono (by simp)⟩
      have HZ := Keep.mk (Bk.new (w1.drew.alloc (.cells #[.bool true, .bool false, .bool false, .bool false] 4)) (Array.replicate 10 (.int .u64 0)) 169)
      have GB2 := Keep.mk (GB.out.fz (Fz.alloc (w1.drew.alloc (.cells #[.bool true, .bool false, .bool false, .bool false] 4)) (.cells (Array.replicate 10 (.int .u64 0)) 169)) (by simp))
      refine hK.out _ _ ?_ (fun hHeld => ?_)
      · first | exact ⟨NX.out.c 0, NX.out.c 1, NX.out.c 2, NX.out.c 3, NX.out.c 4, NX.out.c 5, NX.out.c 6, NX.out.c 7, NX.out.c 8, NX.out.c 9, NX.out.c 10, NX.out.c 11, NX.out.c 12⟩ | exact ⟨NB.out.c 0, NB.out.c 1, NB.out.c 2, NB.out.c 3, NB.out.c 4, NB.out.c 5, NB.out.c 6, NB.out.c 7, NB.out.c 8, NB.out.c 9, NB.out.c 10, NB.out.c 11, NB.out.c 12⟩ | exact ⟨NZ.out.c 0, NZ.out.c 1, NZ.out.c 2, NZ.out.c 3, NZ.out.c 4, NZ.out.c 5, NZ.out.c 6, NZ.out.c 7, NZ.out.c 8, NZ.out.c 9, NZ.out.c 10, NZ.out.c 11, NZ.out.c 12⟩ | exact ⟨NZB.out.c 0, NZB.out.c 1, NZB.out.c 2, NZB.out.c 3, NZB.out.c 4, NZB.out.c 5, NZB.out.c 6, NZB.out.c 7, NZB.out.c 8, NZB.out.c 9, NZB.out.c 10, NZB.out.c 11, NZB.out.c 12⟩ | exact ⟨NW.out.c 0, NW.out.c 1, NW.out.c 2, NW.out.c 3, NW.out.c 4, NW.out.c 5, NW.out.c 6, NW.out.c 7, NW.out.c 8, NW.out.c 9, NW.out.c 10, NW.out.c 11, NW.out.c 12⟩
      clear hK K
      try simp only [Act.put, List.setIfInBounds_toArray, List.set_cons_zero, List.set_cons_succ, List.getElem_toArray, List.getElem_cons_zero, List.getElem_cons_succ]
      refine wpAnyH_ready (rs := [27]) (by kernel_rfl) (by simp) ?_
      refine AllReadyH.cons rfl (fun K hK => ?_) AllReadyH.nil
      go_simp
      refine (set_any _ 4 [true, false, false, false] _ rfl (by omega) (fun i b hb => ((show _ = _ by first | exact GB2.out.c i | exact GB.out.c i).trans (by have := hb; rcases i with _ | _ | _ | _ | i <;> simp at this ⊢ <;> exact this)))).mono ?_
      rintro e X ⟨x6, rfl, hx0, hx1, hX⟩
      rw [hX]
      have HX6 : Keep (0 ≤ x6 ∧ x6 < 18446744073709551616) := ⟨hx0, hx1⟩
      clear hX X hx0 hx1
      refine hK.out _ _ ?_ (fun hHeld => ?_)
      · first | exact ⟨NX.out.c 0, NX.out.c 1, NX.out.c 2, NX.out.c 3, NX.out.c 4, NX.out.c 5, NX.out.c 6, NX.out.c 7, NX.out.c 8, NX.out.c 9, NX.out.c 10, NX.out.c 11, NX.out.c 12⟩ | exact ⟨NB.out.c 0, NB.out.c 1, NB.out.c 2, NB.out.c 3, NB.out.c 4, NB.out.c 5, NB.out.c 6, NB.out.c 7, NB.out.c 8, NB.out.c 9, NB.out.c 10, NB.out.c 11, NB.out.c 12⟩ | exact ⟨NZ.out.c 0, NZ.out.c 1, NZ.out.c 2, NZ.out.c 3, NZ.out.c 4, NZ.out.c 5, NZ.out.c 6, NZ.out.c 7, NZ.out.c 8, NZ.out.c 9, NZ.out.c 10, NZ.out.c 11, NZ.out.c 12⟩ | exact ⟨NZB.out.c 0, NZB.out.c 1, NZB.out.c 2, NZB.out.c 3, NZB.out.c 4, NZB.out.c 5, NZB.out.c 6, NZB.out.c 7, NZB.out.c 8, NZB.out.c 9, NZB.out.c 10, NZB.out.c 11, NZB.out.c 12⟩ | exact ⟨NW.out.c 0, NW.out.c 1, NW.out.c 2, NW.out.c 3, NW.out.c 4, NW.out.c 5, NW.out.c 6, NW.out.c 7, NW.out.c 8, NW.out.c 9, NW.out.c 10, NW.out.c 11, NW.out.c 12⟩
      clear hK K
      try simp only [Act.put, List.setIfInBounds_toArray, List.set_cons_zero, List.set_cons_succ, List.getElem_toArray, List.getElem_cons_zero, List.getElem_cons_succ]
      refine wpAnyH_pures' (fun d => ([1000, 1000, 1000, 1000, 41, 1000, 1000, 1000, 1000, 1000, 1000, 1000, 1000, 0, 1, 2, 3, 4, 5, 6, 7, 8, 9, 10, 11, 12, 13, 14, 15, 16, 17, 18, 19, 20, 21, 22, 23, 24, 25, 26, 27, 28, 29, 30, 31, 32, 33, 34, 35, 36, 37, 38, 39, 40] : List Nat).getD d 1000) [39, 40] 1 (by kernel_rfl) (by kernel_rfl) (by kernel_rfl) (fun _ _ _ _ _ h => h) (by assumption) (fun K hK => ?_)
      iterate 2 (refine Ys_cons (v := ?_) rfl (Or.inl ⟨by rfl, ?_⟩) ?_; rotate_left; (focus (intro w hSw; go_simp; (try with_reducible rfl))); try simp only [Act.put, List.setIfInBounds_toArray, List.set_cons_zero, List.set_cons_succ, List.getElem_toArray, List.getElem_cons_zero, List.getElem_cons_succ])
      refine hK _ ?_
      clear hK K
      change wpAnyH _ _ _ _ _ _ #[true, true, true, true, true, true, true, true, true, true, true, true, true, true, true, true, true, true, true, true, true, true, true, true, true, true, true, true, true, true, true, true, true, true, true, true, true, true, true, true, true, true, false] _ _
      refine wpAnyH_ready (rs := [42]) (by kernel_rfl) (by simp) ?_
      refine AllReadyH.cons rfl (fun K hK => ?_) AllReadyH.nil
      first
        | (change if Region.wanted _ _ = true then Oper.wp _ _ _ ((w1.drew.alloc (.cells #[.bool true, .bool false, .bool false, .bool false] 4)).alloc (.cells (Array.replicate 10 (.int .u64 0)) 169)) _ _ else _
           have HZ3 : Keep (Bk ((w1.drew.alloc (.cells #[.bool true, .bool false, .bool false, .bool false] 4)).alloc (.cells (Array.replicate 10 (.int .u64 0)) 169)) (w1.heap.size + 1) (Array.replicate 10 (.int .u64 0)) 169) := ⟨(show (w1.drew.alloc (.cells #[.bool true, .bool false, .bool false, .bool false] 4)).heap.size = w1.heap.size + 1 by simp) ▸ HZ.out⟩
           refine step_store_row rfl 169 (.tmp 4) (.tmp 53) rfl (w1.heap.size + 1) #[.int .u64 (IntKind.u64.wrap 0), .int .u64 (IntKind.u64.wrap 1), .int .u64 p1, .int .u64 p2, .int .u64 s2, .int .u64 (IntKind.u64.wrap 0), .int .u64 x6, .int .u64 (IntKind.u64.wrap 32), .int .u64 (IntKind.u64.wrap 1), .int .u64 (IntKind.u64.wrap 0)] rfl rfl 169 (Array.replicate 10 (.int .u64 0)) HZ3.out.eq (by kernel_rfl) rfl (by simp [Value.oneCell']) ?_
           obtain ⟨hb, hhb⟩ : ∃ hb, w1.heap.size + 1 = hb := ⟨_, rfl⟩
           obtain ⟨CW, hCW⟩ : ∃ CW, ((w1.drew.alloc (.cells #[.bool true, .bool false, .bool false, .bool false] 4)).alloc (.cells (Array.replicate 10 (.int .u64 0)) 169)) = CW := ⟨_, rfl⟩
           have LB : Keep (w.heap.size < hb) := ⟨by have := N1.out.lt; omega⟩
           rw [hhb, hCW] at HZ3; rw [hCW] at XZB NZB; rw [hhb, hCW]; clear hhb hCW)
        | (change if Region.wanted _ _ = true then Oper.wp _ _ _ ((w1.drew.alloc (.cells (Array.replicate 10 (.int .u64 0)) 169)).alloc (.cells #[.bool true, .bool false, .bool false, .bool false] 4)) _ _ else _
           have HZ3 : Keep (Bk ((w1.drew.alloc (.cells (Array.replicate 10 (.int .u64 0)) 169)).alloc (.cells #[.bool true, .bool false, .bool false, .bool false] 4)) w1.heap.size (Array.replicate 10 (.int .u64 0)) 169) := ⟨HZ.out⟩
           refine step_store_row rfl 169 (.tmp 4) (.tmp 53) rfl w1.heap.size #[.int .u64 (IntKind.u64.wrap 0), .int .u64 (IntKind.u64.wrap 1), .int .u64 p1, .int .u64 p2, .int .u64 s2, .int .u64 (IntKind.u64.wrap 0), .int .u64 x6, .int .u64 (IntKind.u64.wrap 32), .int .u64 (IntKind.u64.wrap 1), .int .u64 (IntKind.u64.wrap 0)] rfl rfl 169 (Array.replicate 10 (.int .u64 0)) HZ3.out.eq (by kernel_rfl) rfl (by simp [Value.oneCell']) ?_
           obtain ⟨hb, hhb⟩ : ∃ hb, w1.heap.size = hb := ⟨_, rfl⟩
           obtain ⟨CW, hCW⟩ : ∃ CW, ((w1.drew.alloc (.cells (Array.replicate 10 (.int .u64 0)) 169)).alloc (.cells #[.bool true, .bool false, .bool false, .bool false] 4)) = CW := ⟨_, rfl⟩
           have LB : Keep (w.heap.size < hb) := ⟨by have := N1.out.lt; omega⟩
           rw [hCW] at XZB NZB HZ3; rw [hCW]; rw [hhb] at HZ3; rw [hhb]; clear hCW hhb)
      obtain ⟨W, hW⟩ : ∃ W, CW.setRow hb #[.int .u64 (IntKind.u64.wrap 0), .int .u64 (IntKind.u64.wrap 1), .int .u64 p1, .int .u64 p2, .int .u64 s2, .int .u64 (IntKind.u64.wrap 0), .int .u64 x6, .int .u64 (IntKind.u64.wrap 32), .int .u64 (IntKind.u64.wrap 1), .int .u64 (IntKind.u64.wrap 0)] = W := ⟨_, rfl⟩
      have FR : Fz CW W [hb] := hW ▸ Fz.row CW hb _
      have HB : Keep (Bk W hb #[.int .u64 (IntKind.u64.wrap 0), .int .u64 (IntKind.u64.wrap 1), .int .u64 p1, .int .u64 p2, .int .u64 s2, .int .u64 (IntKind.u64.wrap 0), .int .u64 x6, .int .u64 (IntKind.u64.wrap 32), .int .u64 (IntKind.u64.wrap 1), .int .u64 (IntKind.u64.wrap 0)] 169) := ⟨hW ▸ ⟨setRow_heap _ _ _ _ _ _ HZ3.out.eq⟩⟩
      have FW : Keep (Fz w W []) := ⟨(XZB.out.trans FR).mono (by simp; have := LB.out; omega)⟩
      have NW := Keep.mk (NZB.out.fz FR (by simp; have := LB.out; omega))
      rw [hW]
      clear hW FR
      refine hK.out _ _ ?_ (fun hHeld => ?_)
      · first | exact ⟨NX.out.c 0, NX.out.c 1, NX.out.c 2, NX.out.c 3, NX.out.c 4, NX.out.c 5, NX.out.c 6, NX.out.c 7, NX.out.c 8, NX.out.c 9, NX.out.c 10, NX.out.c 11, NX.out.c 12⟩ | exact ⟨NB.out.c 0, NB.out.c 1, NB.out.c 2, NB.out.c 3, NB.out.c 4, NB.out.c 5, NB.out.c 6, NB.out.c 7, NB.out.c 8, NB.out.c 9, NB.out.c 10, NB.out.c 11, NB.out.c 12⟩ | exact ⟨NZ.out.c 0, NZ.out.c 1, NZ.out.c 2, NZ.out.c 3, NZ.out.c 4, NZ.out.c 5, NZ.out.c 6, NZ.out.c 7, NZ.out.c 8, NZ.out.c 9, NZ.out.c 10, NZ.out.c 11, NZ.out.c 12⟩ | exact ⟨NZB.out.c 0, NZB.out.c 1, NZB.out.c 2, NZB.out.c 3, NZB.out.c 4, NZB.out.c 5, NZB.out.c 6, NZB.out.c 7, NZB.out.c 8, NZB.out.c 9, NZB.out.c 10, NZB.out.c 11, NZB.out.c 12⟩ | exact ⟨NW.out.c 0, NW.out.c 1, NW.out.c 2, NW.out.c 3, NW.out.c 4, NW.out.c 5, NW.out.c 6, NW.out.c 7, NW.out.c 8, NW.out.c 9, NW.out.c 10, NW.out.c 11, NW.out.c 12⟩
      clear hK K
      try simp only [Act.put, List.setIfInBounds_toArray, List.set_cons_zero, List.set_cons_succ, List.getElem_toArray, List.getElem_cons_zero, List.getElem_cons_succ]
      refine wpAnyH_done (by kernel_rfl) ?_ _
      refine NoPanic.normal ?_
      have KGW := KG.out.fz FW.out (by simp)
      have g0 := KGW.2 0 _ rfl
      have g1 := KGW.2 1 _ rfl
      have g2 := KGW.2 2 _ rfl
      have g3 := KGW.2 3 _ rfl
      have g4 := KGW.2 4 _ rfl
      have g5 := KGW.2 5 _ rfl
      have g6 := KGW.2 6 _ rfl
      have g7 := KGW.2 7 _ rfl
      have g8 := KGW.2 8 _ rfl
      have g9 := KGW.2 9 _ rfl
      clear KGW
      go_wp2_with fail
      go_loopw [5, 55] (fun b i wr => ∃ (j n c : Nat) (A : Option Addr) (l : List Int), j ≤ 10 ∧ i = .int .i64 j ∧ b = .slice A n c ∧ Keep (Arg wr 1 encB A n c l ∧ (∀ z ∈ l, 0 ≤ z ∧ z ≤ 255) ∧ n ≤ 8 * j ∧ Fz W wr [])) (fun _ i _ => 10 - (intOf i).toNat)
      case atStart => exact ⟨0, 0, 0, none, [], by omega, rfl, rfl, ⟨Arg.nil _ _ _, by simp, by omega, Fz.refl _⟩⟩
      case round =>
        obtain ⟨j, n, c, A, l, hj, rfl, rfl, HQ⟩ := hrel
        rcases Nat.lt_or_ge j 10 with hlt | hge
        · have hlti : ((j : Nat) : Int) < 10 := by omega
          obtain ⟨wd, hwd, hw1, hw8⟩ := wid_at hlt
          obtain ⟨v, hv, hv0, hv1⟩ := head_at (p1 := p1) (p2 := p2) (s2 := s2) (x6 := x6) HP.out HS.out HX6.out hlt
          have ix1 := index_wid hwd hlt
          have ix2 := index_head hb hlt
          have r0 : wr.cell? ⟨hb, j, none⟩ = some (.int .u64 v) := ((HB.out.fz HQ.out.2.2.2 (by simp)).c j).trans hv
          have PB := Keep.mk (put8_any A n c wd v l wr HQ.out.1 (by have := HQ.out.2.2.1; omega) hw1 hw8 hv0 hv1)
          have LN : Keep (l.length = n ∧ wd ≤ 8) := ⟨HQ.out.1.hlen, hw8⟩
          clear hwd hv hv0 hv1 hw1 hw8
          go_wp2_with (first
            | (go_at_call 170
               go_loud (refine PB.out.mono ?_; rintro e w4 ⟨rfl, h4, b4⟩)
               have K4 : Keep (Arg w4 1 encB (some ⟨wr.heap.size, 0, none⟩) (n + wd) (n + wd) (l ++ beB v wd) ∧ (∀ z ∈ l ++ beB v wd, 0 ≤ z ∧ z ≤ 255) ∧ n + wd ≤ 8 * (j + 1) ∧ Fz W w4 []) := ⟨by
                 have hle : (l ++ beB v wd).length = n + wd := by rw [List.length_append, beB_length, LN.out.1]
                 have := bArg h4 (by rw [hle]; unfold maxLen; have := HQ.out.2.2.1; have := LN.out.2; omega)
                 rw [hle] at this
                 exact this, fun z hz => by
                 rcases List.mem_append.1 hz with h | h
                 · exact HQ.out.2.1 z h
                 · exact beB_byte _ _ z h, by have := HQ.out.2.2.1; have := LN.out.2; omega, (HQ.out.2.2.2.trans (Fz.below b4 (Nat.le_refl _))).mono (by simp)⟩
               clear h4 b4 PB)
            | fail)
          go_roundw
          case rel => exact ⟨j + 1, n + wd, n + wd, _, _, by omega, by go_num, rfl, K4⟩
          case measure => simp [intOf] <;> omega
        · obtain rfl : j = 10 := by omega
          have OP := Keep.mk (optput_cap go k wr (KB0.out.fz (FW.out.trans HQ.out.2.2.2) (by simp)) KK.out.1 KK.out.2)
          have NWR := Keep.mk (NW.out.fz HQ.out.2.2.2 (by simp))
          have e11 : wr.cell? ⟨w.heap.size, 11, none⟩ = some (.slice (some ⟨go, 0, none⟩) 1 1) := NWR.out.c 11
          go_wp2_with (first
            | (go_at_call 171
               go_loud (refine OP.out.mono ?_; rintro e w5 ⟨g5, rfl, h5, b5⟩)
               have F5 := Fz.below b5 (Nat.le_refl _)
               have e12 : w5.cell? ⟨w.heap.size, 12, none⟩ = some (.slice none 0 0) := (NWR.out.fz F5 (by simp)).c 12
               have X5 : Keep (Fz w w5 []) := ⟨((FW.out.trans HQ.out.2.2.2).trans F5).mono (by simp)⟩
               have A5 := Keep.mk (HQ.out.1.below b5)
               have e9 : (1 :: beB k 8).length = 9 := by rw [List.length_cons, beB_length]
               have A6 := bArg h5 (by rw [e9]; decide)
               rw [e9] at A6
               have A6 := Keep.mk A6
               have JN := Keep.mk (join_three w5 A n c l (some ⟨g5, 0, none⟩) 9 9 (1 :: beB k 8) A5.out A6.out (by have := HQ.out.2.2.1; omega) (by omega))
               clear h5 b5 F5 e9)
            | (go_at_call 173
               go_loud (refine JN.out.mono ?_; rintro e w6 ⟨A7, n7, c7, rfl, a7, hn7, b7⟩)
               have X6 : Keep (Fz w w6 []) := ⟨((X5.out.trans (Fz.alloc w5 _)).trans (Fz.below b7 (Nat.le_refl _))).mono (by simp)⟩
               have SP := Keep.mk (sput_any A7 n7 c7 _ w6 a7 (fun z hz => by
                 rcases List.mem_append.1 hz with h | h
                 · exact HQ.out.2.1 z h
                 · rcases List.mem_cons.1 h with rfl | h
                   · omega
                   · exact beB_byte _ _ z h) (by have := HQ.out.2.2.1; omega))
               have HN7 : Keep (n7 = n + 9) := ⟨hn7⟩
               clear a7 b7 hn7)
            | (go_at_call 172
               go_loud (refine SP.out.mono ?_; rintro e w8 ⟨g8, m8, rfl, hm8, hg8, h8, b8⟩)
               have K8 : Keep (w.heap.size ≤ g8 ∧ 0 < m8 ∧ (∃ arr, Bk w8 g8 arr 5) ∧ Below w.heap.size w w8) := ⟨Nat.le_trans X6.out.size hg8, by rw [hm8]; unfold sumB; rw [List.length_append, beB_length]; omega, ⟨_, ⟨h8⟩⟩, (X6.out.toBelow (Nat.le_refl _) (by simp)).trans (b8.mono X6.out.size)⟩
               clear hm8 hg8 h8 b8)
            | fail)
          refine bodyPost_ret (results_tmp2 rfl _ _ _) rfl ⟨g8, m8, rfl, K8.out⟩
  · go_simp
    have NZ := Keep.mk (NX.out.fz (Fz.alloc w1.drew (.cells (Array.replicate 10 (.int .u64 0)) 169)) (by simp))
    have XZ : Keep (Fz w (w1.drew.alloc (.cells (Array.replicate 10 (.int .u64 0)) 169)) []) := ⟨(XX.out.trans (Fz.alloc w1.drew (.cells (Array.replicate 10 (.int .u64 0)) 169))).mono (by simp)⟩
    have ZB := Keep.mk (Bk.new w1.drew (Array.replicate 10 (.int .u64 0)) 169)
    refine hK.out _ _ ?_ (fun hHeld => ?_)
    · first | exact ⟨NX.out.c 0, NX.out.c 1, NX.out.c 2, NX.out.c 3, NX.out.c 4, NX.out.c 5, NX.out.c 6, NX.out.c 7, NX.out.c 8, NX.out.c 9, NX.out.c 10, NX.out.c 11, NX.out.c 12⟩ | exact ⟨NB.out.c 0, NB.out.c 1, NB.out.c 2, NB.out.c 3, NB.out.c 4, NB.out.c 5, NB.out.c 6, NB.out.c 7, NB.out.c 8, NB.out.c 9, NB.out.c 10, NB.out.c 11, NB.out.c 12⟩ | exact ⟨NZ.out.c 0, NZ.out.c 1, NZ.out.c 2, NZ.out.c 3, NZ.out.c 4, NZ.out.c 5, NZ.out.c 6, NZ.out.c 7, NZ.out.c 8, NZ.out.c 9, NZ.out.c 10, NZ.out.c 11, NZ.out.c 12⟩ | exact ⟨NZB.out.c 0, NZB.out.c 1, NZB.out.c 2, NZB.out.c 3, NZB.out.c 4, NZB.out.c 5, NZB.out.c 6, NZB.out.c 7, NZB.out.c 8, NZB.out.c 9, NZB.out.c 10, NZB.out.c 11, NZB.out.c 12⟩ | exact ⟨NW.out.c 0, NW.out.c 1, NW.out.c 2, NW.out.c 3, NW.out.c 4, NW.out.c 5, NW.out.c 6, NW.out.c 7, NW.out.c 8, NW.out.c 9, NW.out.c 10, NW.out.c 11, NW.out.c 12⟩
    clear hK K
    try simp only [Act.put, List.setIfInBounds_toArray, List.set_cons_zero, List.set_cons_succ, List.getElem_toArray, List.getElem_cons_zero, List.getElem_cons_succ]
    refine wpAnyH_ready (rs := [26]) (by kernel_rfl) (by simp) ?_
    refine AllReadyH.cons rfl (fun K hK => ?_) AllReadyH.nil
    go_simp
    have NZB := Keep.mk (NZ.out.fz (Fz.alloc (w1.drew.alloc (.cells (Array.replicate 10 (.int .u64 0)) 169)) (.cells #[.bool true, .bool false, .bool false, .bool false] 4)) (by simp))
    have XZB : Keep (Fz w ((w1.drew.alloc (.cells (Array.replicate 10 (.int .u64 0)) 169)).alloc (.cells #[.bool true, .bool false, .bool false, .bool false] 4)) []) := ⟨(XZ.out.trans (Fz.alloc (w1.drew.alloc (.cells (Array.replicate 10 (.int .u64 0)) 169)) (.cells #[.bool true, .bool false, .bool false, .bool false] 4))).mono (by simp)⟩
    have GB : Keep (Bk ((w1.drew.alloc (.cells (Array.replicate 10 (.int .u64 0)) 169)).alloc (.cells #[.bool true, .bool false, .bool false, .bool false] 4)) (w1.heap.size + 1) #[.bool true, .bool false, .bool false, .bool false] 4) := ⟨(show (w1.drew.alloc (.cells (Array.replicate 10 (.int .u64 0)) 169)).heap.size = w1.heap.size + 1 by simp) ▸ Bk.new (w1.drew.alloc (.cells (Array.replicate 10 (.int .u64 0)) 169)) _ _⟩
    have HZ := Keep.mk (ZB.out.fz (Fz.alloc (w1.drew.alloc (.cells (Array.replicate 10 (.int .u64 0)) 169)) (.cells #[.bool true, .bool false, .bool false, .bool false] 4)) (by simp))
    refine hK.out _ _ ?_ (fun hHeld => ?_)
    · first | exact ⟨NX.out.c 0, NX.out.c 1, NX.out.c 2, NX.out.c 3, NX.out.c 4, NX.out.c 5, NX.out.c 6, NX.out.c 7, NX.out.c 8, NX.out.c 9, NX.out.c 10, NX.out.c 11, NX.out.c 12⟩ | exact ⟨NB.out.c 0, NB.out.c 1, NB.out.c 2, NB.out.c 3, NB.out.c 4, NB.out.c 5, NB.out.c 6, NB.out.c 7, NB.out.c 8, NB.out.c 9, NB.out.c 10, NB.out.c 11, NB.out.c 12⟩ | exact ⟨NZ.out.c 0, NZ.out.c 1, NZ.out.c 2, NZ.out.c 3, NZ.out.c 4, NZ.out.c 5, NZ.out.c 6, NZ.out.c 7, NZ.out.c 8, NZ.out.c 9, NZ.out.c 10, NZ.out.c 11, NZ.out.c 12⟩ | exact ⟨NZB.out.c 0, NZB.out.c 1, NZB.out.c 2, NZB.out.c 3, NZB.out.c 4, NZB.out.c 5, NZB.out.c 6, NZB.out.c 7, NZB.out.c 8, NZB.out.c 9, NZB.out.c 10, NZB.out.c 11, NZB.out.c 12⟩ | exact ⟨NW.out.c 0, NW.out.c 1, NW.out.c 2, NW.out.c 3, NW.out.c 4, NW.out.c 5, NW.out.c 6, NW.out.c 7, NW.out.c 8, NW.out.c 9, NW.out.c 10, NW.out.c 11, NW.out.c 12⟩
    clear hK K
    try simp only [Act.put, List.setIfInBounds_toArray, List.set_cons_zero, List.set_cons_succ, List.getElem_toArray, List.getElem_cons_zero, List.getElem_cons_succ]
    refine wpAnyH_ready (rs := [27]) (by kernel_rfl) (by simp) ?_
    refine AllReadyH.cons rfl (fun K hK => ?_) AllReadyH.nil
    go_simp
    refine (set_any _ 4 [true, false, false, false] _ rfl (by omega) (fun i b hb => ((show _ = _ by first | exact GB2.out.c i | exact GB.out.c i).trans (by have := hb; rcases i with _ | _ | _ | _ | i <;> simp at this ⊢ <;> exact this)))).mono ?_
    rintro e X ⟨x6, rfl, hx0, hx1, hX⟩
    rw [hX]
    have HX6 : Keep (0 ≤ x6 ∧ x6 < 18446744073709551616) := ⟨hx0, hx1⟩
    clear hX X hx0 hx1
    refine hK.out _ _ ?_ (fun hHeld => ?_)
    · first | exact ⟨NX.out.c 0, NX.out.c 1, NX.out.c 2, NX.out.c 3, NX.out.c 4, NX.out.c 5, NX.out.c 6, NX.out.c 7, NX.out.c 8, NX.out.c 9, NX.out.c 10, NX.out.c 11, NX.out.c 12⟩ | exact ⟨NB.out.c 0, NB.out.c 1, NB.out.c 2, NB.out.c 3, NB.out.c 4, NB.out.c 5, NB.out.c 6, NB.out.c 7, NB.out.c 8, NB.out.c 9, NB.out.c 10, NB.out.c 11, NB.out.c 12⟩ | exact ⟨NZ.out.c 0, NZ.out.c 1, NZ.out.c 2, NZ.out.c 3, NZ.out.c 4, NZ.out.c 5, NZ.out.c 6, NZ.out.c 7, NZ.out.c 8, NZ.out.c 9, NZ.out.c 10, NZ.out.c 11, NZ.out.c 12⟩ | exact ⟨NZB.out.c 0, NZB.out.c 1, NZB.out.c 2, NZB.out.c 3, NZB.out.c 4, NZB.out.c 5, NZB.out.c 6, NZB.out.c 7, NZB.out.c 8, NZB.out.c 9, NZB.out.c 10, NZB.out.c 11, NZB.out.c 12⟩ | exact ⟨NW.out.c 0, NW.out.c 1, NW.out.c 2, NW.out.c 3, NW.out.c 4, NW.out.c 5, NW.out.c 6, NW.out.c 7, NW.out.c 8, NW.out.c 9, NW.out.c 10, NW.out.c 11, NW.out.c 12⟩
    clear hK K
    try simp only [Act.put, List.setIfInBounds_toArray, List.set_cons_zero, List.set_cons_succ, List.getElem_toArray, List.getElem_cons_zero, List.getElem_cons_succ]
    refine wpAnyH_pures' (fun d => ([1000, 1000, 1000, 1000, 41, 1000, 1000, 1000, 1000, 1000, 1000, 1000, 1000, 0, 1, 2, 3, 4, 5, 6, 7, 8, 9, 10, 11, 12, 13, 14, 15, 16, 17, 18, 19, 20, 21, 22, 23, 24, 25, 26, 27, 28, 29, 30, 31, 32, 33, 34, 35, 36, 37, 38, 39, 40] : List Nat).getD d 1000) [39, 40] 1 (by kernel_rfl) (by kernel_rfl) (by kernel_rfl) (fun _ _ _ _ _ h => h) (by assumption) (fun K hK => ?_)
    iterate 2 (refine Ys_cons (v := ?_) rfl (Or.inl ⟨by rfl, ?_⟩) ?_; rotate_left; (focus (intro w hSw; go_simp; (try with_reducible rfl))); try simp only [Act.put, List.setIfInBounds_toArray, List.set_cons_zero, List.set_cons_succ, List.getElem_toArray, List.getElem_cons_zero, List.getElem_cons_succ])
    refine hK _ ?_
    clear hK K
    change wpAnyH _ _ _ _ _ _ #[true, true, true, true, true, true, true, true, true, true, true, true, true, true, true, true, true, true, true, true, true, true, true, true, true, true, true, true, true, true, true, true, true, true, true, true, true, true, true, true, true, true, false] _ _
    refine wpAnyH_ready (rs := [42]) (by kernel_rfl) (by simp) ?_
    refine AllReadyH.cons rfl (fun K hK => ?_) AllReadyH.nil
    first
      | (change if Region.wanted _ _ = true then Oper.wp _ _ _ ((w1.drew.alloc (.cells #[.bool true, .bool false, .bool false, .bool false] 4)).alloc (.cells (Array.replicate 10 (.int .u64 0)) 169)) _ _ else _
         have HZ3 : Keep (Bk ((w1.drew.alloc (.cells #[.bool true, .bool false, .bool false, .bool false] 4)).alloc (.cells (Array.replicate 10 (.int .u64 0)) 169)) (w1.heap.size + 1) (Array.replicate 10 (.int .u64 0)) 169) := ⟨(show (w1.drew.alloc (.cells #[.bool true, .bool false, .bool false, .bool false] 4)).heap.size = w1.heap.size + 1 by simp) ▸ HZ.out⟩
         refine step_store_row rfl 169 (.tmp 4) (.tmp 53) rfl (w1.heap.size + 1) #[.int .u64 (IntKind.u64.wrap 0), .int .u64 (IntKind.u64.wrap 1), .int .u64 p1, .int .u64 p2, .int .u64 s2, .int .u64 (IntKind.u64.wrap 0), .int .u64 x6, .int .u64 (IntKind.u64.wrap 32), .int .u64 (IntKind.u64.wrap 1), .int .u64 (IntKind.u64.wrap 0)] rfl rfl 169 (Array.replicate 10 (.int .u64 0)) HZ3.out.eq (by kernel_rfl) rfl (by simp [Value.oneCell']) ?_
         obtain ⟨hb, hhb⟩ : ∃ hb, w1.heap.size + 1 = hb := ⟨_, rfl⟩
         obtain ⟨CW, hCW⟩ : ∃ CW, ((w1.drew.alloc (.cells #[.bool true, .bool false, .bool false, .bool false] 4)).alloc (.cells (Array.replicate 10 (.int .u64 0)) 169)) = CW := ⟨_, rfl⟩
         have LB : Keep (w.heap.size < hb) := ⟨by have := N1.out.lt; omega⟩
         rw [hhb, hCW] at HZ3; rw [hCW] at XZB NZB; rw [hhb, hCW]; clear hhb hCW)
      | (change if Region.wanted _ _ = true then Oper.wp _ _ _ ((w1.drew.alloc (.cells (Array.replicate 10 (.int .u64 0)) 169)).alloc (.cells #[.bool true, .bool false, .bool false, .bool false] 4)) _ _ else _
         have HZ3 : Keep (Bk ((w1.drew.alloc (.cells (Array.replicate 10 (.int .u64 0)) 169)).alloc (.cells #[.bool true, .bool false, .bool false, .bool false] 4)) w1.heap.size (Array.replicate 10 (.int .u64 0)) 169) := ⟨HZ.out⟩
         refine step_store_row rfl 169 (.tmp 4) (.tmp 53) rfl w1.heap.size #[.int .u64 (IntKind.u64.wrap 0), .int .u64 (IntKind.u64.wrap 1), .int .u64 p1, .int .u64 p2, .int .u64 s2, .int .u64 (IntKind.u64.wrap 0), .int .u64 x6, .int .u64 (IntKind.u64.wrap 32), .int .u64 (IntKind.u64.wrap 1), .int .u64 (IntKind.u64.wrap 0)] rfl rfl 169 (Array.replicate 10 (.int .u64 0)) HZ3.out.eq (by kernel_rfl) rfl (by simp [Value.oneCell']) ?_
         obtain ⟨hb, hhb⟩ : ∃ hb, w1.heap.size = hb := ⟨_, rfl⟩
         obtain ⟨CW, hCW⟩ : ∃ CW, ((w1.drew.alloc (.cells (Array.replicate 10 (.int .u64 0)) 169)).alloc (.cells #[.bool true, .bool false, .bool false, .bool false] 4)) = CW := ⟨_, rfl⟩
         have LB : Keep (w.heap.size < hb) := ⟨by have := N1.out.lt; omega⟩
         rw [hCW] at XZB NZB HZ3; rw [hCW]; rw [hhb] at HZ3; rw [hhb]; clear hCW hhb)
    obtain ⟨W, hW⟩ : ∃ W, CW.setRow hb #[.int .u64 (IntKind.u64.wrap 0), .int .u64 (IntKind.u64.wrap 1), .int .u64 p1, .int .u64 p2, .int .u64 s2, .int .u64 (IntKind.u64.wrap 0), .int .u64 x6, .int .u64 (IntKind.u64.wrap 32), .int .u64 (IntKind.u64.wrap 1), .int .u64 (IntKind.u64.wrap 0)] = W := ⟨_, rfl⟩
    have FR : Fz CW W [hb] := hW ▸ Fz.row CW hb _
    have HB : Keep (Bk W hb #[.int .u64 (IntKind.u64.wrap 0), .int .u64 (IntKind.u64.wrap 1), .int .u64 p1, .int .u64 p2, .int .u64 s2, .int .u64 (IntKind.u64.wrap 0), .int .u64 x6, .int .u64 (IntKind.u64.wrap 32), .int .u64 (IntKind.u64.wrap 1), .int .u64 (IntKind.u64.wrap 0)] 169) := ⟨hW ▸ ⟨setRow_heap _ _ _ _ _ _ HZ3.out.eq⟩⟩
    have FW : Keep (Fz w W []) := ⟨(XZB.out.trans FR).mono (by simp; have := LB.out; omega)⟩
    have NW := Keep.mk (NZB.out.fz FR (by simp; have := LB.out; omega))
    rw [hW]
    clear hW FR
    refine hK.out _ _ ?_ (fun hHeld => ?_)
    · first | exact ⟨NX.out.c 0, NX.out.c 1, NX.out.c 2, NX.out.c 3, NX.out.c 4, NX.out.c 5, NX.out.c 6, NX.out.c 7, NX.out.c 8, NX.out.c 9, NX.out.c 10, NX.out.c 11, NX.out.c 12⟩ | exact ⟨NB.out.c 0, NB.out.c 1, NB.out.c 2, NB.out.c 3, NB.out.c 4, NB.out.c 5, NB.out.c 6, NB.out.c 7, NB.out.c 8, NB.out.c 9, NB.out.c 10, NB.out.c 11, NB.out.c 12⟩ | exact ⟨NZ.out.c 0, NZ.out.c 1, NZ.out.c 2, NZ.out.c 3, NZ.out.c 4, NZ.out.c 5, NZ.out.c 6, NZ.out.c 7, NZ.out.c 8, NZ.out.c 9, NZ.out.c 10, NZ.out.c 11, NZ.out.c 12⟩ | exact ⟨NZB.out.c 0, NZB.out.c 1, NZB.out.c 2, NZB.out.c 3, NZB.out.c 4, NZB.out.c 5, NZB.out.c 6, NZB.out.c 7, NZB.out.c 8, NZB.out.c 9, NZB.out.c 10, NZB.out.c 11, NZB.out.c 12⟩ | exact ⟨NW.out.c 0, NW.out.c 1, NW.out.c 2, NW.out.c 3, NW.out.c 4, NW.out.c 5, NW.out.c 6, NW.out.c 7, NW.out.c 8, NW.out.c 9, NW.out.c 10, NW.out.c 11, NW.out.c 12⟩
    clear hK K
    try simp only [Act.put, List.setIfInBounds_toArray, List.set_cons_zero, List.set_cons_succ, List.getElem_toArray, List.getElem_cons_zero, List.getElem_cons_succ]
    refine wpAnyH_done (by kernel_rfl) ?_ _
    refine NoPanic.normal ?_
    have KGW := KG.out.fz FW.out (by simp)
    have g0 := KGW.2 0 _ rfl
    have g1 := KGW.2 1 _ rfl
    have g2 := KGW.2 2 _ rfl
    have g3 := KGW.2 3 _ rfl
    have g4 := KGW.2 4 _ rfl
    have g5 := KGW.2 5 _ rfl
    have g6 := KGW.2 6 _ rfl
    have g7 := KGW.2 7 _ rfl
    have g8 := KGW.2 8 _ rfl
    have g9 := KGW.2 9 _ rfl
    clear KGW
    go_wp2_with fail
    go_loopw [5, 55] (fun b i wr => ∃ (j n c : Nat) (A : Option Addr) (l : List Int), j ≤ 10 ∧ i = .int .i64 j ∧ b = .slice A n c ∧ Keep (Arg wr 1 encB A n c l ∧ (∀ z ∈ l, 0 ≤ z ∧ z ≤ 255) ∧ n ≤ 8 * j ∧ Fz W wr [])) (fun _ i _ => 10 - (intOf i).toNat)
    case atStart => exact ⟨0, 0, 0, none, [], by omega, rfl, rfl, ⟨Arg.nil _ _ _, by simp, by omega, Fz.refl _⟩⟩
    case round =>
      obtain ⟨j, n, c, A, l, hj, rfl, rfl, HQ⟩ := hrel
      rcases Nat.lt_or_ge j 10 with hlt | hge
      · have hlti : ((j : Nat) : Int) < 10 := by omega
        obtain ⟨wd, hwd, hw1, hw8⟩ := wid_at hlt
        obtain ⟨v, hv, hv0, hv1⟩ := head_at (p1 := p1) (p2 := p2) (s2 := s2) (x6 := x6) HP.out HS.out HX6.out hlt
        have ix1 := index_wid hwd hlt
        have ix2 := index_head hb hlt
        have r0 : wr.cell? ⟨hb, j, none⟩ = some (.int .u64 v) := ((HB.out.fz HQ.out.2.2.2 (by simp)).c j).trans hv
        have PB := Keep.mk (put8_any A n c wd v l wr HQ.out.1 (by have := HQ.out.2.2.1; omega) hw1 hw8 hv0 hv1)
        have LN : Keep (l.length = n ∧ wd ≤ 8) := ⟨HQ.out.1.hlen, hw8⟩
        clear hwd hv hv0 hv1 hw1 hw8
        go_wp2_with (first
          | (go_at_call 170
             go_loud (refine PB.out.mono ?_; rintro e w4 ⟨rfl, h4, b4⟩)
             have K4 : Keep (Arg w4 1 encB (some ⟨wr.heap.size, 0, none⟩) (n + wd) (n + wd) (l ++ beB v wd) ∧ (∀ z ∈ l ++ beB v wd, 0 ≤ z ∧ z ≤ 255) ∧ n + wd ≤ 8 * (j + 1) ∧ Fz W w4 []) := ⟨by
               have hle : (l ++ beB v wd).length = n + wd := by rw [List.length_append, beB_length, LN.out.1]
               have := bArg h4 (by rw [hle]; unfold maxLen; have := HQ.out.2.2.1; have := LN.out.2; omega)
               rw [hle] at this
               exact this, fun z hz => by
               rcases List.mem_append.1 hz with h | h
               · exact HQ.out.2.1 z h
               · exact beB_byte _ _ z h, by have := HQ.out.2.2.1; have := LN.out.2; omega, (HQ.out.2.2.2.trans (Fz.below b4 (Nat.le_refl _))).mono (by simp)⟩
             clear h4 b4 PB)
          | fail)
        go_roundw
        case rel => exact ⟨j + 1, n + wd, n + wd, _, _, by omega, by go_num, rfl, K4⟩
        case measure => simp [intOf] <;> omega
      · obtain rfl : j = 10 := by omega
        have OP := Keep.mk (optput_cap go k wr (KB0.out.fz (FW.out.trans HQ.out.2.2.2) (by simp)) KK.out.1 KK.out.2)
        have NWR := Keep.mk (NW.out.fz HQ.out.2.2.2 (by simp))
        have e11 : wr.cell? ⟨w.heap.size, 11, none⟩ = some (.slice (some ⟨go, 0, none⟩) 1 1) := NWR.out.c 11
        go_wp2_with (first
          | (go_at_call 171
             go_loud (refine OP.out.mono ?_; rintro e w5 ⟨g5, rfl, h5, b5⟩)
             have F5 := Fz.below b5 (Nat.le_refl _)
             have e12 : w5.cell? ⟨w.heap.size, 12, none⟩ = some (.slice none 0 0) := (NWR.out.fz F5 (by simp)).c 12
             have X5 : Keep (Fz w w5 []) := ⟨((FW.out.trans HQ.out.2.2.2).trans F5).mono (by simp)⟩
             have A5 := Keep.mk (HQ.out.1.below b5)
             have e9 : (1 :: beB k 8).length = 9 := by rw [List.length_cons, beB_length]
             have A6 := bArg h5 (by rw [e9]; decide)
             rw [e9] at A6
             have A6 := Keep.mk A6
             have JN := Keep.mk (join_three w5 A n c l (some ⟨g5, 0, none⟩) 9 9 (1 :: beB k 8) A5.out A6.out (by have := HQ.out.2.2.1; omega) (by omega))
             clear h5 b5 F5 e9)
          | (go_at_call 173
             go_loud (refine JN.out.mono ?_; rintro e w6 ⟨A7, n7, c7, rfl, a7, hn7, b7⟩)
             have X6 : Keep (Fz w w6 []) := ⟨((X5.out.trans (Fz.alloc w5 _)).trans (Fz.below b7 (Nat.le_refl _))).mono (by simp)⟩
             have SP := Keep.mk (sput_any A7 n7 c7 _ w6 a7 (fun z hz => by
               rcases List.mem_append.1 hz with h | h
               · exact HQ.out.2.1 z h
               · rcases List.mem_cons.1 h with rfl | h
                 · omega
                 · exact beB_byte _ _ z h) (by have := HQ.out.2.2.1; omega))
             have HN7 : Keep (n7 = n + 9) := ⟨hn7⟩
             clear a7 b7 hn7)
          | (go_at_call 172
             go_loud (refine SP.out.mono ?_; rintro e w8 ⟨g8, m8, rfl, hm8, hg8, h8, b8⟩)
             have K8 : Keep (w.heap.size ≤ g8 ∧ 0 < m8 ∧ (∃ arr, Bk w8 g8 arr 5) ∧ Below w.heap.size w w8) := ⟨Nat.le_trans X6.out.size hg8, by rw [hm8]; unfold sumB; rw [List.length_append, beB_length]; omega, ⟨_, ⟨h8⟩⟩, (X6.out.toBelow (Nat.le_refl _) (by simp)).trans (b8.mono X6.out.size)⟩
             clear hm8 hg8 h8 b8)
          | fail)
        refine bodyPost_ret (results_tmp2 rfl _ _ _) rfl ⟨g8, m8, rfl, K8.out⟩
  -- end reg
end Go.Proofs.YtjpokeakemlffaaGreatDoor
