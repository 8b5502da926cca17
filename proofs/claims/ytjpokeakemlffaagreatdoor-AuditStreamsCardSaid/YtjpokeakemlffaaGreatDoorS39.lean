/-
  Walks and laws, one behind the other (part 39).
-/
import Derived.Test.YtjpokeakemlffaaGreatDoorS8
import Derived.Test.YtjpokeakemlffaaGreatDoorS14
import Derived.Test.YtjpokeakemlffaaGreatDoorS36
import Derived.Test.YtjpokeakemlffaaGreatDoorS38
set_option linter.unusedSimpArgs false
set_option linter.unusedVariables false
/-
  audit.Streams of a log of one call that dials.
-/
namespace Go.Proofs.YtjpokeakemlffaaGreatDoor
open Go.RowKit Go.Maps
abbrev dialT : Array Value := #[.int .i64 0, .int .i64 0, .int .i64 5, .int .i64 1, .int .i64 0, .slice none 0 0, .int .i64 0]
set_option maxRecDepth 100000 in
set_option maxHeartbeats 1600000 in
theorem hears_none (sb : Nat) (w : World) : Calls Tryz.prog 14 #[.pointer (some ⟨sb, 0, none⟩), .agg dialT] w fun e w' => e = .returned (.tuple #[]) ∧ Below w.heap.size w w' := by
  have NB := Bk.new w dialT 27
  have s2 : (w.alloc (.cells dialT 27)).cell? ⟨w.heap.size, 2, none⟩ = some (.int .i64 5) := NB.c 2
  have s6 : (w.alloc (.cells dialT 27)).cell? ⟨w.heap.size, 6, none⟩ = some (.int .i64 0) := NB.c 6
  have HB : Keep (Below w.heap.size w (w.alloc (.cells dialT 27))) := ⟨(Below.refl _ w).alloc (Nat.le_refl _) _⟩
  clear NB
  go_enter Tryz.func14, Tryz.ntmps14
  go_wp2_with fail
  first
    | go_end0
    | (try simp only [Exit.inBlock, Exit.then]
       refine bodyPost_ret (results_none rfl _ _ _) rfl ?_)
  exact ⟨rfl, HB.out⟩
theorem infoStr : (Tryz.prog.info? 31).map (fun i => (i.zero, i.size, i.bytes)) = some (some (.agg #[.int .i64 0, .int .i64 0, .slice none 0 0, .slice none 0 0, .bool false, .bool false, .bool false, .int .i64 0]), 8, 80) := by kernel_rfl
abbrev newS : Array Value := #[.int .i64 0, .int .i64 1, .slice none 0 0, .slice none 0 0, .bool false, .bool false, .bool false, .int .i64 0]
def noR : Int × Int → StR := fun _ => ⟨none, 0, 0, none, 0, 0, false, false, false, 0⟩
theorem sort_one : sortN [((0 : Int), (1 : Int))] = [(0, 1)] := by unfold sortN; simp
theorem Ms.turned {w w' : World} {m b : Nat} (ht : w.mapTurned w' m) (hb : b < w.heap.size) (hn : b ≠ m) : w'.heap[b]? = w.heap[b]? := ht.grown.block b hb (fun e => hn (by cases e; rfl))
structure Sone (w wr : World) (m sb : Nat) : Prop where
  ms : Ms wr m 1 (setN (fun _ _ => none) 0 1 sb) 1
  bk : Bk wr sb newS 31
  ne : sb ≠ m
  lo : w.heap.size ≤ sb
  lm : w.heap.size ≤ m
  below : Below w.heap.size w wr
set_option maxRecDepth 100000 in
set_option maxHeartbeats 6400000 in
theorem streams_one {w : World} {g c : Nat} {arr : Array Value} (hb : Bk w g arr 27) (ha : ∀ (j : Nat) (u : Value), dialT.toList[j]? = some u → arr[j]? = some u) :
    Calls Tryz.prog 5 #[.slice (some ⟨g, 0, none⟩) 1 c] w fun e w' => ∃ g2 c2, e = .returned (.slice (some ⟨g2, 0, none⟩) 1 c2) ∧ w'.cell? ⟨g2, 0, none⟩ = some (.int .i64 0) ∧ w'.cell? ⟨g2, 1, none⟩ = some (.int .i64 1) ∧ Below w.heap.size w w' := by
  have hmk : (Instr.makeMap 52 none).run Tryz.prog w = .ok (.map (some w.heap.size)) (w.alloc (.map #[] 0)) := rfl
  have HM0 := Keep.mk (Ms.made w)
  have HBB := Keep.mk hb
  have HAA := Lib.hid ha
  clear hb ha
  go_enter Tryz.func5, Tryz.ntmps5
  go_wp2_with fail
  obtain ⟨W0, hW0⟩ : ∃ W0, w.alloc (.map #[] 0) = W0 := ⟨_, rfl⟩
  have M0 : Keep (Ms W0 w.heap.size 0 (fun _ _ => none) 0 ∧ Below w.heap.size w W0 ∧ Bk W0 g arr 27 ∧ W0.heap.size = w.heap.size + 1) :=
    ⟨hW0 ▸ HM0.out, hW0 ▸ (Below.refl _ w).alloc (Nat.le_refl _) _, hW0 ▸ HBB.out.fz (Fz.alloc w _) (by simp), by rw [← hW0]; simp⟩
  rw [hW0]
  clear hmk hW0
  go_loopw [14] (fun i wr => (i = .int .i64 0 ∧ wr = W0) ∨ (i = .int .i64 1 ∧ ∃ sb, Keep (Sone w wr w.heap.size sb))) (fun i _ => 1 - (intOf i).toNat)
  case atStart => exact .inl ⟨rfl, rfl⟩
  case round =>
    rcases hrel with ⟨rfl, rfl⟩ | ⟨rfl, sb, HQ⟩
    · have cc : ∀ (j : Nat) (u : Value), dialT.toList[j]? = some u → wr.cell? ⟨g, j, none⟩ = some u := fun j u hu => (M0.out.2.2.1.c j).trans (HAA.out j u hu)
      have c0 := cc 0 _ rfl
      have c1 := cc 1 _ rfl
      have c2 := cc 2 _ rfl
      have c3 := cc 3 _ rfl
      have c4 := cc 4 _ rfl
      have c5 := cc 5 _ rfl
      have c6 := cc 6 _ rfl
      have T1 : Bk (wr.alloc (.cells dialT 27)) wr.heap.size dialT 27 := Bk.new wr _ _
      have z1 : (wr.alloc (.cells dialT 27)).heap.size = wr.heap.size + 1 := by simp
      have F1 : Fz wr (wr.alloc (.cells dialT 27)) [] := Fz.alloc wr _
      have t0 : (wr.alloc (.cells dialT 27)).cell? ⟨wr.heap.size, 0, none⟩ = some (.int .i64 0) := T1.c 0
      have t3 : (wr.alloc (.cells dialT 27)).cell? ⟨wr.heap.size, 3, none⟩ = some (.int .i64 1) := T1.c 3
      obtain ⟨W2, hW2⟩ : ∃ W2, (wr.alloc (.cells dialT 27)).alloc (.cells #[.int .i64 0, .int .i64 1] 54) = W2 := ⟨_, rfl⟩
      have N2 : Bk W2 (wr.heap.size + 1) #[.int .i64 0, .int .i64 1] 54 := hW2 ▸ z1 ▸ Bk.new (wr.alloc (.cells dialT 27)) _ _
      have F2 : Fz (wr.alloc (.cells dialT 27)) W2 [] := hW2 ▸ Fz.alloc (wr.alloc (.cells dialT 27)) _
      have z2 : W2.heap.size = wr.heap.size + 1 + 1 := by rw [← hW2]; simp
      have T2 := T1.fz F2 (by simp)
      have u0 : W2.cell? ⟨wr.heap.size, 0, none⟩ = some (.int .i64 0) := T2.c 0
      have u2 : W2.cell? ⟨wr.heap.size, 2, none⟩ = some (.int .i64 5) := T2.c 2
      have u3 : W2.cell? ⟨wr.heap.size, 3, none⟩ = some (.int .i64 1) := T2.c 3
      have u6 : W2.cell? ⟨wr.heap.size, 6, none⟩ = some (.int .i64 0) := T2.c 6
      have n0 : W2.cell? ⟨wr.heap.size + 1, 0, none⟩ = some (.int .i64 0) := N2.c 0
      have n1 : W2.cell? ⟨wr.heap.size + 1, 1, none⟩ = some (.int .i64 1) := N2.c 1
      have hm := M0.out.1
      have hml := hm.lt
      have M2 := hm.same (w' := W2) ((F2.block _ (by omega) (by simp)).trans (F1.block _ hml (by simp)))
      have LK : (Instr.lookup 52 (.map (some w.heap.size)) (.agg #[.int .i64 0, .int .i64 1]) false).run Tryz.prog W2 = .ok (.pointer none) W2 := M2.look1 (wfI_of (by omega) (by omega)) (wfI_of (by omega) (by omega))
      obtain ⟨W3, hW3⟩ : ∃ W3, W2.alloc (.cells newS 31) = W3 := ⟨_, rfl⟩
      have S3 : Bk W3 W2.heap.size newS 31 := hW3 ▸ Bk.new W2 _ _
      have F3 : Fz W2 W3 [] := hW3 ▸ Fz.alloc W2 _
      have z3 : W3.heap.size = W2.heap.size + 1 := by rw [← hW3]; simp
      have M3 := M2.same (w' := W3) (F3.block _ (by omega) (by simp))
      obtain ⟨W4, hput0, M4, ht4⟩ := M3.put (by decide) W2.heap.size (wfI_of (h := 0) (by omega) (by omega)) (wfI_of (h := 1) (by omega) (by omega))
      have hput : (Instr.mapUpdate 52 (.map (some w.heap.size)) (.agg #[.int .i64 0, .int .i64 1]) (.pointer (some ⟨W2.heap.size, 0, none⟩))).run Tryz.prog W3 = .ok () W4 := hput0
      have F4 := Fz.grown ht4.grown
      have hne : ∀ b, w.heap.size < b → b ∉ (some w.heap.size).toList := fun b hb => by simp; omega
      have T4 := (T2.fz F3 (by simp)).fz F4 (hne _ (by omega))
      have N4 := (N2.fz F3 (by simp)).fz F4 (hne _ (by omega))
      have S4 := S3.fz F4 (hne _ (by omega))
      have v0 : W4.cell? ⟨wr.heap.size, 0, none⟩ = some (.int .i64 0) := T4.c 0
      have v1 : W4.cell? ⟨wr.heap.size, 1, none⟩ = some (.int .i64 0) := T4.c 1
      have v2 : W4.cell? ⟨wr.heap.size, 2, none⟩ = some (.int .i64 5) := T4.c 2
      have v3 : W4.cell? ⟨wr.heap.size, 3, none⟩ = some (.int .i64 1) := T4.c 3
      have v4 : W4.cell? ⟨wr.heap.size, 4, none⟩ = some (.int .i64 0) := T4.c 4
      have v5 : W4.cell? ⟨wr.heap.size, 5, none⟩ = some (.slice none 0 0) := T4.c 5
      have v6 : W4.cell? ⟨wr.heap.size, 6, none⟩ = some (.int .i64 0) := T4.c 6
      have m0 : W4.cell? ⟨wr.heap.size + 1, 0, none⟩ = some (.int .i64 0) := N4.c 0
      have m1 : W4.cell? ⟨wr.heap.size + 1, 1, none⟩ = some (.int .i64 1) := N4.c 1
      have LK4 : (Instr.lookup 52 (.map (some w.heap.size)) (.agg #[.int .i64 0, .int .i64 1]) false).run Tryz.prog W4 = .ok (.pointer (some ⟨W2.heap.size, 0, none⟩)) W4 := M4.look1 (wfI_of (by omega) (by omega)) (wfI_of (by omega) (by omega))
      have B4 : Below w.heap.size w W4 := M0.out.2.1.trans ((((F1.trans F2).trans F3).trans F4).toBelow (by omega) (by simp))
      have Q4 : Keep (Sone w W4 w.heap.size W2.heap.size) := ⟨M4, S4, by omega, by omega, Nat.le_refl _, B4⟩
      have HR := Keep.mk (hears_none W2.heap.size W4)
      clear cc T1 F1 N2 F2 T2 hm hml M2 S3 F3 M3 hput0 M4 ht4 F4 hne T4 N4 S4 B4 z1 z2 z3
      go_wp2_with (first
        | (go_at_call 14
           go_loud (refine HR.out.mono ?_; rintro e w5 ⟨rfl, b5⟩)
           have Q5 : Keep (Sone w w5 w.heap.size W2.heap.size) := ⟨Q4.out.ms.same (b5.block _ Q4.out.ms.lt), ⟨(b5.block _ Q4.out.bk.lt).trans Q4.out.bk.eq⟩, Q4.out.ne, Q4.out.lo, Q4.out.lm, Q4.out.below.trans (b5.mono Q4.out.below.size)⟩
           clear b5 HR)
        | fail)
      go_roundw
      case rel => exact .inr ⟨rfl, _, Q5⟩
      case measure => simp [intOf]
    · clear M0
      obtain ⟨D, hown, r1, r2, r3, r4⟩ := HQ.out.ms
      have hsz := HQ.out.ms.lt
      have R1 := Lib.hid r1
      have R2 := Lib.hid r2
      have R3 := Lib.hid r3
      have R4 := Keep.mk r4
      clear r1 r2 r3 r4
      obtain ⟨wo, hwo⟩ : ∃ wo : World, wo = wr := ⟨_, rfl⟩
      subst hwo
      go_wp2_with (first
        | (at_range; refine wpList_range_own _ rfl _ 52 rfl 54 55 nmKeyed Tryz.underlying52 ptR w.heap.size 1 _ rfl hown ?_; intro w0 hrg0 hg0 hs0)
        | fail)
      try go_frame
      have F0 := Fz.grown hg0
      have H0 : Keep (w0.ranges Tryz.prog 54 ptR w.heap.size wo.heap.size 1 D (Maps.has D) 1) := ⟨R4.out ▸ hrg0⟩
      have S0 : Keep (Below w.heap.size w w0 ∧ Bk w0 sb newS 31) := ⟨HQ.out.below.trans (F0.toBelow HQ.out.below.size (by simp)), HQ.out.bk.fz F0 (by simp)⟩
      have HLT : Keep (sb < wo.heap.size ∧ w.heap.size ≤ wo.heap.size) := ⟨HQ.out.bk.lt, HQ.out.below.size⟩
      clear hrg0 hg0 hs0 hown F0 hsz
      go_loopw [8] (fun out wr => ∃ (left : Lit → Bool) (cnt : Nat), Keep (wr.ranges Tryz.prog 54 ptR w.heap.size wo.heap.size 1 D left cnt) ∧
          ((out = .slice none 0 0 ∧ cnt = 1 ∧ Keep ((∀ kl, left kl = true → Maps.has D kl = true) ∧ Below w.heap.size w wr ∧ Bk wr sb newS 31)) ∨
           (∃ g2 c2, out = .slice (some ⟨g2, 0, none⟩) 1 c2 ∧ cnt = 0 ∧ Keep (Below w.heap.size w wr ∧ wr.ownsRow w.heap.size 31 8 (.slice (some ⟨g2, 0, none⟩) 1 c2) 1 newS.toList))))
        (fun _ wr => wr.rangeLeft w.heap.size wo.heap.size)
      case atStart => exact ⟨_, _, H0, .inl ⟨rfl, rfl, ⟨fun _ h => h, S0.out⟩⟩⟩
      case round =>
        obtain ⟨left, cnt, HRG, hor⟩ := hrel
        have hrg := HRG.out
        go_wp2_with (first
          | (at_next; refine wpList_next_ranges _ rfl _ rfl 54 nmKeyed ptR id id (fun key _ _ => ⟨key, rfl⟩) (fun v _ _ => ⟨v, rfl⟩) w.heap.size wo.heap.size 1 _ _ _ rfl hrg ?_ ?_)
          | fail)
        · intro hc0 _
          rcases hor with ⟨_, h1, _⟩ | ⟨g2, c2, rfl, _, HF⟩
          · omega
          · have HS := Keep.mk (sort_str noR w.heap.size (some ⟨g2, 0, none⟩) c2 [(0, 1)] wr HF.out.2 (by simp))
            clear hrg hc0
            go_wp2_with (first
              | (go_at_call 15
                 go_loud (refine HS.out.mono ?_; rintro e w2 ⟨rfl, ho2, hg2⟩)
                 have HO2 := Lib.hid ho2
                 have HG2 := Lib.hid hg2
                 clear ho2 hg2)
              | fail)
            go_ret
            have ho := HO2.out
            rw [sort_one] at ho
            obtain ⟨g3, c3, e, one⟩ := one_of (w := w) (cs := newS.toList) ho rfl
            injection e with e1 _ _
            injection e1 with e1
            injection e1 with e1 _ _
            subst e1
            exact ⟨g2, c2, rfl, one.cell 0 _ rfl, one.cell 1 _ rfl, HF.out.1.trans ((Fz.grown HG2.out).toBelow HF.out.1.size (by intro y hy; simp [Value.ownBlock] at hy; subst hy; exact one.low))⟩
        · intro key val kl yd yp w1 cnt1 hkey hlx hv hat hrg1 hlt hg1 hs1 hen
          rcases hor with ⟨rfl, rfl, HF⟩ | ⟨_, _, _, h1, _⟩
          · have hk := HF.out.1 kl hlx
            obtain ⟨s, y, ws, wy, rfl⟩ := R3.out kl hk
            have hM := R1.out s y ws wy
            rw [hk] at hM
            have hsy : s = 0 ∧ y = 1 := by
              by_cases e : s = 0 ∧ y = 1
              · exact e
              · rw [setN, if_neg e] at hM
                cases hM
            obtain ⟨rfl, rfl⟩ := hsy
            obtain rfl : key = nmV 0 1 := nmKeyed.inj hkey (nm_key ws wy)
            have ha := R2.out 0 1 sb ws wy (by rw [setN, if_pos ⟨rfl, rfl⟩]) .nil
            rw [hat] at ha
            subst ha
            obtain rfl : val = ptV sb := ptR_inv hv
            have F1 := Fz.grown hg1
            have B1 := HF.out.2.2.fz F1 (by have := HLT.out.1; simp; omega)
            have q0 : w1.cell? ⟨sb, 0, none⟩ = some (.int .i64 0) := B1.c 0
            have q1 : w1.cell? ⟨sb, 1, none⟩ = some (.int .i64 1) := B1.c 1
            have q2 : w1.cell? ⟨sb, 2, none⟩ = some (.slice none 0 0) := B1.c 2
            have q3 : w1.cell? ⟨sb, 3, none⟩ = some (.slice none 0 0) := B1.c 3
            have q4 : w1.cell? ⟨sb, 4, none⟩ = some (.bool false) := B1.c 4
            have q5 : w1.cell? ⟨sb, 5, none⟩ = some (.bool false) := B1.c 5
            have q6 : w1.cell? ⟨sb, 6, none⟩ = some (.bool false) := B1.c 6
            have q7 : w1.cell? ⟨sb, 7, none⟩ = some (.int .i64 0) := B1.c 7
            have BB1 : Keep (Below w.heap.size w (w1.alloc (.cells newS 31))) := ⟨(HF.out.2.1.trans (F1.toBelow HF.out.2.1.size (by have := HLT.out.2; simp; omega))).alloc (Nat.le_trans HF.out.2.1.size F1.size) _⟩
            have HR1 := Keep.mk (hrg1.alloc (.cells newS 31))
            have hen2 : (Instr.entry (.pointer (some ⟨wo.heap.size, 0, none⟩))).run Tryz.prog w1 = .ok (.tuple #[.agg #[.int .i64 0, .int .i64 1], .pointer (some ⟨sb, 0, none⟩)]) w1 := hen
            have HLC := Keep.mk hlt
            clear hkey hlx hv hat hrg1 hlt hg1 hs1 hen hM hk ws wy F1 B1 hrg
            go_wp2_with (first
              | (refine append_one rfl (.tmp 65) (.tmp 69) 28 31 rfl Tryz.underlying28 infoStr rfl (by omega) (by omega) rfl w1.heap.size [.int .i64 0, .int .i64 1, .slice none 0 0, .slice none 0 0, .bool false, .bool false, .bool false, .int .i64 0] rfl rfl (fun j u hu => ((Bk.new w1 newS 31).c j).trans (by simpa using hu)) (by simp) (by simp [Value.oneCell']) ?_
                 intro g' c' w4 one4 b4
                 have K4 := Keep.mk one4
                 have HB4 := Keep.mk b4
                 clear one4 b4)
              | fail)
            go_roundw
            case rel =>
              exact ⟨_, cnt1, ⟨HR1.out.kept (grown_of_below HB4.out none) (by simp) (by simp)⟩, .inr ⟨g', c', rfl, by have := HLC.out; omega, ⟨BB1.out.trans (HB4.out.mono BB1.out.size), own_low K4.out.own BB1.out.size⟩⟩⟩
            case measure =>
              rw [(HR1.out.kept (grown_of_below HB4.out none) (by simp) (by simp)).left_eq, HRG.out.left_eq]
              exact HLC.out
          · omega
end Go.Proofs.YtjpokeakemlffaaGreatDoor
