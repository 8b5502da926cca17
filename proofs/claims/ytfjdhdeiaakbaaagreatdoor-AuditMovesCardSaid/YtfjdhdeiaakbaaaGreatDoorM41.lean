/-
  Walks and laws, one behind the other (part 41).
-/
import Derived.Test.YtfjdhdeiaakbaaaGreatDoorM7
import Derived.Test.YtfjdhdeiaakbaaaGreatDoorM29
import Derived.Test.YtfjdhdeiaakbaaaGreatDoorM33
import Derived.Test.YtfjdhdeiaakbaaaGreatDoorM39
import Derived.Test.YtfjdhdeiaakbaaaGreatDoorM40
set_option linter.unusedSimpArgs false
set_option linter.unusedVariables false
/-
  audit.from: the states that some moves lead to.
-/
namespace Go.Proofs.YtfjdhdeiaakbaaaGreatDoor
open Go.RowKit Go.Shelf

theorem evs_pre {L : List Int} {x : Int} {i : Nat} {v : Int} (h : L[i]? = some v) : ∀ e, (evs L x e)[i]? = some v
  | 0 => h
  | e + 1 => by
    have ih := evs_pre (x := x) h e
    rw [evs, addE]
    cases stp x e with
    | none => exact ih
    | some t =>
      simp only
      split
      · exact ih
      · rw [List.getElem?_append_left (List.getElem?_eq_some_iff.1 ih).1]
        exact ih
theorem evs_none {L : List Int} {x : Int} {e : Nat} (h : stp x e = none) : evs L x (e + 1) = evs L x e := by rw [evs, addE, h]
theorem evs_in {L : List Int} {x t : Int} {e : Nat} (h : stp x e = some t) (ht : t ∈ evs L x e) : evs L x (e + 1) = evs L x e := by rw [evs, addE, h]; exact if_pos ht
theorem evs_new {L : List Int} {x t : Int} {e : Nat} (h : stp x e = some t) (ht : ¬ t ∈ evs L x e) : evs L x (e + 1) = evs L x e ++ [t] := by rw [evs, addE, h]; exact if_neg ht
/-- A row of whole numbers is asked whether it holds one. -/
theorem contains_row {w : World} {base : Nat} {A : Option Addr} {c : Nat} {L : List Int} (t : Int) (h : w.ownsRow base 3 1 (.slice A L.length c) L.length (L.flatMap encZ)) (hL : L.length ≤ 1000) :
    Calls Tryz.prog 17 #[.slice A L.length c, .int .i64 t] w fun e w' => e = .returned (.bool (decide (t ∈ L))) ∧ w' = w := by
  by_cases hl : L = []
  · subst hl
    refine (Any.slices_Contains_int_empty layCt A c t w).mono ?_
    rintro e w' ⟨rfl, rfl⟩
    exact ⟨by simp, rfl⟩
  · obtain ⟨g, off, rfl, -, hc⟩ := (Rd.of_own encZ_length (by decide) h).numZ hl
    refine (Any.slices_Contains_int layCt g off L.length c L t w (Nat.le_refl _) (by omega) (fun j hj => by
      rw [hc j hj]
      simp [List.getD, List.getElem?_eq_getElem hj])).mono ?_
    rintro e w' ⟨rfl, rfl⟩
    refine ⟨?_, rfl⟩
    rw [List.take_length, List.contains_eq_mem]
/-- The row of states under way. -/
structure Frm (w wr : World) (out : Value) (L : List Int) : Prop where
  own : wr.ownsRow w.heap.size 3 1 out L.length (L.flatMap encZ)
  below : Below w.heap.size w wr
theorem Frm.quiet {w wr w' : World} {out : Value} {L : List Int} (h : Frm w wr out L) (hB : Below wr.heap.size wr w') : Frm w w' out L := ⟨own_below h.own hB, h.below.trans (hB.mono h.below.size)⟩
set_option maxRecDepth 100000 in
set_option maxHeartbeats 12800000 in
theorem from_any (a : Int) (w : World) (hG : Gm w) :
    Calls Tryz.prog 18 #[.int .i64 a] w fun e w' => ∃ v, e = .returned v ∧ Frm w w' v (fromL a) := by
  have HG := Keep.mk hG
  clear hG
  have F0 : Keep (Frm w (w.alloc (.cells #[.int .i64 a] 3)) (.slice (some ⟨w.heap.size, 0, none⟩) 1 1) (outAt a 0)) := ⟨⟨rfl, .inr ⟨w.heap.size, 1, #[.int .i64 a], rfl, Nat.le_refl _, heap_alloc_new _ _, Nat.le_refl _, by decide, rfl, rfl⟩⟩, (Below.refl _ w).alloc (Nat.le_refl _) _⟩
  go_enter Tryz.func18, Tryz.ntmps18
  go_wp2_with fail
  go_loopw [3, 4] (fun out I wr => ∃ i : Nat, i ≤ 9 ∧ i ≤ (outAt a i).length ∧ I = .int .i64 i ∧ Keep (Frm w wr out (outAt a i))) (fun _ I _ => 10 - (intOf I).toNat)
  case atStart => exact ⟨0, by omega, by simp [outAt], rfl, F0⟩
  case round =>
    obtain ⟨i, hi, hil, rfl, HF⟩ := hrel
    obtain ⟨L, hL⟩ : ∃ L, outAt a i = L := ⟨_, rfl⟩
    rw [hL] at HF hil
    have HLE := Keep.mk hL
    have hlen : L.length ≤ 9 := hL ▸ (outAt_len a i hi).1
    obtain ⟨A, c, rfl, -⟩ := own_slice HF.out.own
    rcases Nat.lt_or_ge i L.length with hlt | hge
    · obtain ⟨x, hx⟩ : ∃ x, L[i]? = some x := ⟨_, List.getElem?_eq_getElem hlt⟩
      have HX := Keep.mk hx
      have HLT : Keep (i < L.length ∧ L.length ≤ 9) := ⟨hlt, hlen⟩
      have hlti : ((i : Nat) : Int) < (L.length : Int) := by omega
      have HEL : Keep (∀ e, e ≤ 6 → (evs L x e).length ≤ 9) := ⟨fun e he => by
        have := (outAt_len a i hi).2 e he x (by rw [HLE.out]; exact hx)
        rwa [HLE.out] at this⟩
      clear hx hL hlen hil
      obtain ⟨wo, hwo⟩ : ∃ wo : World, wo = wr := ⟨_, rfl⟩
      subst hwo
      go_wp2_with fail
      go_loopw [3, 16] (fun out E wr => ∃ e : Nat, e ≤ 6 ∧ E = .int .i64 e ∧ Keep (Frm w wr out (evs L x e))) (fun _ E _ => 6 - (intOf E).toNat)
      case atStart => exact ⟨0, by omega, rfl, HF⟩
      case round =>
        obtain ⟨e, he, rfl, HE⟩ := hrel
        obtain ⟨M, hM⟩ : ∃ M, evs L x e = M := ⟨_, rfl⟩
        have HM := Keep.mk hM
        rw [hM] at HE
        have hMl : M.length ≤ 9 := hM ▸ HEL.out e he
        have hxi : M[i]? = some x := hM ▸ evs_pre HX.out e
        obtain ⟨A2, c2, rfl, -⟩ := own_slice HE.out.own
        rcases Nat.lt_or_ge e 6 with hlt6 | hge6
        · have hiM : i < M.length := (List.getElem?_eq_some_iff.1 hxi).1
          obtain ⟨g, off, rfl, hg, hcs⟩ := (Rd.of_own encZ_length (by decide) HE.out.own).numZ (List.ne_nil_of_length_pos (by omega))
          have r0 : wr.cell? ⟨g, off + i, none⟩ = some (.int .i64 x) := by
            rw [hcs i hiM]
            rw [List.getElem?_eq_getElem hiM] at hxi
            rw [Option.some.inj hxi]
          have hiMi : ((i : Nat) : Int) < (M.length : Int) := by omega
          have he6 : decide ((e : Int) < 6) = true := by simp <;> omega
          have ST := Keep.mk (cstep_any x e wr (HG.out.below HE.out.below))
          obtain ⟨o, ho⟩ : ∃ o, stp x e = o := ⟨_, rfl⟩
          rw [ho] at ST
          have HO := Keep.mk ho
          have HML : Keep (M.length ≤ 9) := ⟨hMl⟩
          clear hcs hxi ho hM hg hMl
          cases o with
          | none =>
            have SN : Keep (Calls Tryz.prog 49 #[.int .i64 x, .int .i64 e] wr fun r w' => r = .returned (.tuple #[.int .i64 x, .bool false]) ∧ Below wr.heap.size wr w') := ⟨ST.out⟩
            clear ST
            go_wp2_with (first
              | (go_at_call 49
                 go_loud (refine SN.out.mono ?_; rintro r w1 ⟨rfl, b1⟩)
                 have H1 := Keep.mk (HE.out.quiet b1)
                 clear b1 SN)
              | fail)
            go_roundw
            case rel => exact ⟨e + 1, by omega, by go_num, ⟨by rw [evs_none HO.out, HM.out]; exact H1.out⟩⟩
            case measure => simp [intOf] <;> omega
          | some t =>
            have SN : Keep (Calls Tryz.prog 49 #[.int .i64 x, .int .i64 e] wr fun r w' => r = .returned (.tuple #[.int .i64 t, .bool true]) ∧ Below wr.heap.size wr w') := ⟨ST.out⟩
            clear ST
            by_cases ht : t ∈ M
            · have HT := Keep.mk ht
              have hd : decide (t ∈ M) = true := by simp [ht]
              clear ht
              go_wp2_with (first
                | (go_at_call 49
                   go_loud (refine SN.out.mono ?_; rintro r w1 ⟨rfl, b1⟩)
                   have H1 := Keep.mk (HE.out.quiet b1)
                   have CT := Keep.mk (contains_row t H1.out.own (by have := HML.out; omega))
                   rw [hd] at CT
                   clear b1 SN)
                | (go_at_call 17
                   go_loud (refine CT.out.mono ?_; rintro r X ⟨rfl, hX⟩)
                   rw [hX]
                   clear hX)
                | fail)
              go_roundw
              case rel => exact ⟨e + 1, by omega, by go_num, ⟨by rw [evs_in HO.out (HM.out ▸ HT.out), HM.out]; exact H1.out⟩⟩
              case measure => simp [intOf] <;> omega
            · have HT := Keep.mk ht
              have hd : decide (t ∈ M) = false := by simp [ht]
              clear ht
              go_wp2_with (first
                | (go_at_call 49
                   go_loud (refine SN.out.mono ?_; rintro r w1 ⟨rfl, b1⟩)
                   have H1 := Keep.mk (HE.out.quiet b1)
                   have CT := Keep.mk (contains_row t H1.out.own (by have := HML.out; omega))
                   rw [hd] at CT
                   have H2 := Keep.mk (H1.out.quiet ((Below.refl _ w1).alloc (Nat.le_refl _) (.cells #[.int .i64 t] 3)))
                   clear b1 SN)
                | (go_at_call 17
                   go_loud (refine CT.out.mono ?_; rintro r X ⟨rfl, hX⟩)
                   rw [hX]
                   clear hX)
                | (refine append_more rfl (.tmp 35) (.tmp 37) 28 3 rfl Tryz.underlying28 infoInt rfl (by omega) (by omega) (.slice (some ⟨g, off, none⟩) M.length c2) rfl w1.heap.size [.int .i64 t] rfl rfl (fun j u hu => ((Bk.new w1 #[.int .i64 t] 3).c j).trans (by simpa using hu)) (by simp) (by simp [Value.oneCell']) w.heap.size M.length _ H2.out.own H2.out.below.size (by have := HML.out; omega) ?_
                   intro v3 w3 ho3 hg3 hv3
                   obtain ⟨A3, n3, c3, rfl⟩ : ∃ A n c, v3 = .slice A n c := let ⟨A, c, h, _⟩ := own_slice ho3; ⟨A, _, c, h⟩
                   have H3 : Keep (Frm w w3 (.slice A3 n3 c3) (M ++ [t])) := ⟨by
                     rw [List.length_append, List.flatMap_append]
                     exact ho3, H2.out.below.trans ((Fz.grown hg3).toBelow H2.out.below.size (fun y hy => (own_ty H2.out.own (by simpa using hy)).1))⟩
                   clear ho3 hg3 hv3)
                | fail)
              go_roundw
              case rel => exact ⟨e + 1, by omega, by go_num, ⟨by rw [evs_new HO.out (HM.out ▸ HT.out), HM.out]; exact H3.out⟩⟩
              case measure => simp [intOf] <;> omega
        · obtain rfl : e = 6 := by omega
          have HN : Keep (outAt a (i + 1) = M) := ⟨by rw [outAt, HLE.out, HX.out]; exact HM.out⟩
          have HNL : Keep (i + 1 ≤ M.length) := ⟨by
            have : i < M.length := (List.getElem?_eq_some_iff.1 hxi).1
            omega⟩
          clear hM hxi hMl
          go_wp2_with fail
          go_roundw
          case rel => exact ⟨i + 1, by have := HLT.out; omega, by rw [HN.out]; exact HNL.out, by go_num, ⟨by rw [HN.out]; exact HE.out⟩⟩
          case measure => have := HLT.out; simp [intOf] <;> omega
    · have hf : L = fromL a := by
        rw [← HLE.out]
        exact outAt_done a i hi (by rw [HLE.out]; exact hge)
      have HFL := Keep.mk hf
      have hnl : decide (((i : Nat) : Int) < (L.length : Int)) = false := by simp <;> omega
      clear hf hL
      go_wp2_with fail
      go_ret
      exact ⟨_, rfl, HFL.out ▸ HF.out⟩
end Go.Proofs.YtfjdhdeiaakbaaaGreatDoor
