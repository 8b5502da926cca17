/-
  Walks and laws, one behind the other (part 51).
-/
import Derived.Test.YtfjdhdeiaakbaaaGreatDoorM24
import Derived.Test.YtfjdhdeiaakbaaaGreatDoorM37
import Derived.Test.YtfjdhdeiaakbaaaGreatDoorM41
import Derived.Test.YtfjdhdeiaakbaaaGreatDoorM50
set_option linter.unusedSimpArgs false
set_option linter.unusedVariables false
/-
  audit.Moves; AuditMoves holds.
-/
namespace Go.Proofs.YtfjdhdeiaakbaaaGreatDoor
open Go.RowKit

/-- Does the k-th lead to the next one? -/
def okM (l : List Int) (k : Nat) : Bool := decide ((l[k + 1]?).getD 0 ∈ fromL ((l[k]?).getD 0))
def mvN (l : List Int) : Nat → Bool
  | 0 => true
  | k + 1 => mvN l k && okM l k
theorem mvN_false {l : List Int} {k : Nat} (h : okM l k = false) : ∀ n, k < n → mvN l n = false
  | 0, hk => by omega
  | n + 1, hk => by
    rw [mvN]
    rcases Nat.lt_or_ge k n with h1 | h1
    · rw [mvN_false h n h1]; rfl
    · obtain rfl : k = n := by omega
      rw [h, Bool.and_false]
theorem okM_eq {l : List Int} {k : Nat} {a b : Int} (ha : l[k]? = some a) (hb : l[k + 1]? = some b) : okM l k = decide (b ∈ fromL a) := by
  unfold okM
  rw [ha, hb]
  rfl
theorem okM_leads {l : List Int} {k : Nat} {a b : Int} (ha : l[k]? = some a) (hb : l[k + 1]? = some b) : okM l k = leadsR 8 a b := by
  rw [okM_eq ha hb, moves_law]
theorem fromL_len (a : Int) : (fromL a).length ≤ 9 := (outAt_len a 9 (by omega)).1
set_option maxRecDepth 100000 in
set_option maxHeartbeats 6400000 in
theorem moves_any (A : Option Addr) (n c : Nat) (l : List Int) (w : World) (hG : Gm w) (ha : Arg w 1 encZ A n c l) (hn : n ≤ 1000) :
    Calls Tryz.prog 9 #[.slice A n c] w fun e w' => e = .returned (.bool (mvN l (n - 1))) ∧ Below w.heap.size w w' := by
  have HG := Keep.mk hG
  have HA := Keep.mk ha
  have HL := Keep.mk ha.hlen
  have HNN : Keep (n ≤ 1000) := ⟨hn⟩
  clear hG ha
  go_enter Tryz.func9, Tryz.ntmps9
  go_wp2_with fail
  go_loopw [3] (fun I wr => ∃ k : Nat, (k + 1 ≤ n ∨ k = 0) ∧ I = .int .i64 (k + 1 : Nat) ∧ Keep (Below w.heap.size w wr) ∧ Keep (mvN l k = true)) (fun I _ => n - (intOf I).toNat)
  case atStart => exact ⟨0, .inr rfl, rfl, ⟨Below.refl _ _⟩, ⟨rfl⟩⟩
  case round =>
    obtain ⟨k, hk, rfl, HB, HM⟩ := hrel
    rcases Nat.lt_or_ge (k + 1) n with hlt | hge
    · obtain ⟨a, hla⟩ : ∃ a, l[k]? = some a := ⟨_, List.getElem?_eq_getElem (by rw [HL.out]; omega)⟩
      obtain ⟨b, hlb⟩ : ∃ b, l[k + 1]? = some b := ⟨_, List.getElem?_eq_getElem (by rw [HL.out]; omega)⟩
      obtain ⟨g, off, rfl, hg, hcs⟩ := HA.out.rd.numZ (List.ne_nil_of_length_pos (by rw [HL.out]; omega))
      have r0 : wr.cell? ⟨g, off + k, none⟩ = some (.int .i64 a) := by
        refine (HB.out.cell (p := ⟨g, off + k, none⟩) hg).trans ?_
        rw [hcs k (by rw [HL.out]; omega)]
        rw [List.getElem?_eq_getElem (by rw [HL.out]; omega)] at hla
        rw [Option.some.inj hla]
      have r1 : wr.cell? ⟨g, off + (k + 1), none⟩ = some (.int .i64 b) := by
        refine (HB.out.cell (p := ⟨g, off + (k + 1), none⟩) hg).trans ?_
        rw [hcs (k + 1) (by rw [HL.out]; omega)]
        rw [List.getElem?_eq_getElem (by rw [HL.out]; omega)] at hlb
        rw [Option.some.inj hlb]
      have HGL : Keep (g < wr.heap.size) := ⟨Nat.lt_of_lt_of_le hg HB.out.size⟩
      have OK : Keep (okM l k = decide (b ∈ fromL a)) := ⟨okM_eq hla hlb⟩
      have hlti : ((k + 1 : Nat) : Int) < (n : Int) := by omega
      have hlt0 : ((k : Nat) : Int) < (n : Int) := by omega
      have q1 : IntKind.i64.wrap ((k : Int) + 1 - 1) = (k : Int) := by rw [IntWalk.i64_in _ (by omega)]; omega
      have q2 : IntKind.i64.wrap (k : Int) = (k : Int) := IntWalk.i64_in _ (by omega)
      have q3 : (0 : Int) ≤ (k : Int) + 1 := by omega
      have HLT := Keep.mk hlt
      have FR : Keep (∀ q, Calls Tryz.prog 18 #[.int .i64 a] (wr.drewN q) fun e w' => ∃ v, e = .returned v ∧ Frm (wr.drewN q) w' v (fromL a)) := ⟨fun q => from_any a (wr.drewN q) (HG.out.below (below_drewN HB.out q))⟩
      obtain ⟨r, hr⟩ : ∃ r, decide (b ∈ fromL a) = r := ⟨_, rfl⟩
      have HR := Keep.mk hr
      clear hla hlb hcs hg hr
      go_wp2_with fail
      -- reg moves
      refine wp_region_noPanic ?_
      refine wp_region_held_drew (S := fun X => X.cell? ⟨g, off + k, none⟩ = some (.int .i64 a) ∧ X.cell? ⟨g, off + (k + 1), none⟩ = some (.int .i64 b)) (by kernel_rfl) ⟨r0, r1⟩ (fun hHeld => ?_)
      refine wpAnyH_pures' (fun d => ([1000, 1000, 1000, 1000, 1000, 1000, 1000, 1000, 1000, 1000, 0, 1, 2, 3, 4, 5, 6, 7, 8, 9, 10, 11] : List Nat).getD d 1000) [0, 1, 2, 3, 4, 6, 7, 8, 9] 3 (by kernel_rfl) (by kernel_rfl) (by kernel_rfl) (fun _ _ _ _ _ h => h) (by assumption) (fun K hK => ?_)
      refine Ys_cons (v := ?_) rfl (Or.inl ⟨by rfl, ?_⟩) ?_
      rotate_left
      · intro w hSw; go_simp; (try with_reducible rfl)
      try simp only [Act.put, List.setIfInBounds_toArray, List.set_cons_zero, List.set_cons_succ, List.getElem_toArray, List.getElem_cons_zero, List.getElem_cons_succ]
      refine Ys_cons (v := ?_) rfl (Or.inl ⟨by rfl, ?_⟩) ?_
      rotate_left
      · intro w hSw; go_simp; (try with_reducible rfl)
      try simp only [Act.put, List.setIfInBounds_toArray, List.set_cons_zero, List.set_cons_succ, List.getElem_toArray, List.getElem_cons_zero, List.getElem_cons_succ]
      refine Ys_cons (v := ?_) rfl (Or.inl ⟨by rfl, ?_⟩) ?_
      rotate_left
      · intro w hSw; go_simp; (try with_reducible rfl)
      try simp only [Act.put, List.setIfInBounds_toArray, List.set_cons_zero, List.set_cons_succ, List.getElem_toArray, List.getElem_cons_zero, List.getElem_cons_succ]
      refine Ys_cons (v := ?_) rfl (Or.inl ⟨by rfl, ?_⟩) ?_
      rotate_left
      · intro w hSw; go_simp; (try with_reducible rfl)
      try simp only [Act.put, List.setIfInBounds_toArray, List.set_cons_zero, List.set_cons_succ, List.getElem_toArray, List.getElem_cons_zero, List.getElem_cons_succ]
      refine Ys_cons (v := ?_) rfl (Or.inl ⟨by rfl, ?_⟩) ?_
      rotate_left
      · intro w hSw; go_simp; (try with_reducible rfl)
      try simp only [Act.put, List.setIfInBounds_toArray, List.set_cons_zero, List.set_cons_succ, List.getElem_toArray, List.getElem_cons_zero, List.getElem_cons_succ]
      refine Ys_cons (v := ?_) rfl (Or.inl ⟨by rfl, ?_⟩) ?_
      rotate_left
      · intro w hSw; go_simp; (try with_reducible rfl)
      try simp only [Act.put, List.setIfInBounds_toArray, List.set_cons_zero, List.set_cons_succ, List.getElem_toArray, List.getElem_cons_zero, List.getElem_cons_succ]
      refine Ys_cons (v := ?_) rfl (Or.inl ⟨by rfl, ?_⟩) ?_
      rotate_left
      · intro w hSw; go_simp; (try with_reducible rfl)
      try simp only [Act.put, List.setIfInBounds_toArray, List.set_cons_zero, List.set_cons_succ, List.getElem_toArray, List.getElem_cons_zero, List.getElem_cons_succ]
      refine Ys_cons (v := ?_) rfl (Or.inl ⟨by rfl, ?_⟩) ?_
      rotate_left
      · intro w hSw; go_simp; (try with_reducible rfl)
      try simp only [Act.put, List.setIfInBounds_toArray, List.set_cons_zero, List.set_cons_succ, List.getElem_toArray, List.getElem_cons_zero, List.getElem_cons_succ]
      refine Ys_cons (v := ?_) rfl (Or.inl ⟨by rfl, ?_⟩) ?_
      rotate_left
      · intro w hSw; go_simp; (try with_reducible rfl)
      try simp only [Act.put, List.setIfInBounds_toArray, List.set_cons_zero, List.set_cons_succ, List.getElem_toArray, List.getElem_cons_zero, List.getElem_cons_succ]
      refine hK _ ?_
      clear hK K
      change wpAnyH _ _ _ _ _ _ #[true, true, true, true, true, false, true, true, true, true, false, false] _ _
      refine wpAnyH_ready (rs := [5]) (by kernel_rfl) (by simp) ?_
      refine AllReadyH.cons rfl (fun K hK => ?_) AllReadyH.nil
      go_simp
      refine (FR.out 1).mono ?_
      rintro e w1 ⟨v, rfl, hf⟩
      obtain ⟨Av, cv, rfl, -⟩ := own_slice hf.own
      have s0 : w1.cell? ⟨g, off + k, none⟩ = some (.int .i64 a) := (hf.below.cell (p := ⟨g, off + k, none⟩) HGL.out).trans r0
      have s1 : w1.cell? ⟨g, off + (k + 1), none⟩ = some (.int .i64 b) := (hf.below.cell (p := ⟨g, off + (k + 1), none⟩) HGL.out).trans r1
      have CT := Keep.mk (contains_row b hf.own (by have := fromL_len a; omega))
      rw [HR.out] at CT
      have B1 : Keep (Below w.heap.size w w1) := ⟨(below_drewN HB.out 1).trans (hf.below.mono HB.out.size)⟩
      clear hf
      refine hK.out _ _ ?_ (fun hHeld => ?_)
      · first | exact ⟨r0, r1⟩ | exact ⟨s0, s1⟩
      clear hK K
      try simp only [Act.put, List.setIfInBounds_toArray, List.set_cons_zero, List.set_cons_succ, List.getElem_toArray, List.getElem_cons_zero, List.getElem_cons_succ]
      refine wpAnyH_ready (rs := [10]) (by kernel_rfl) (by simp) ?_
      refine AllReadyH.cons rfl (fun K hK => ?_) AllReadyH.nil
      go_simp
      refine CT.out.mono ?_
      rintro e X ⟨rfl, hX⟩
      rw [hX]
      clear hX
      refine hK.out _ _ ?_ (fun hHeld => ?_)
      · first | exact ⟨r0, r1⟩ | exact ⟨s0, s1⟩
      clear hK K
      try simp only [Act.put, List.setIfInBounds_toArray, List.set_cons_zero, List.set_cons_succ, List.getElem_toArray, List.getElem_cons_zero, List.getElem_cons_succ]
      refine wpAnyH_take (i := 11) (v := ?_) rfl (by kernel_rfl) (by kernel_rfl) (by kernel_rfl) (fun _ _ _ h => h) (Or.inl ⟨by rfl, ?_⟩) (by assumption) ?_
      rotate_left
      · intro w hSw; go_simp; (try with_reducible rfl)
      try simp only [Act.put, List.setIfInBounds_toArray, List.set_cons_zero, List.set_cons_succ, List.getElem_toArray, List.getElem_cons_zero, List.getElem_cons_succ]
      refine wpAnyH_done (by kernel_rfl) ?_ _
      refine NoPanic.normal ?_
      cases r
      · go_wp2_with fail
        go_ret
        exact ⟨by rw [mvN_false (OK.out.trans HR.out) (n - 1) (by have := HLT.out; omega)]; rfl, B1.out⟩
      · go_wp2_with fail
        go_roundw
        case rel => exact ⟨k + 1, .inl HLT.out, by go_num, B1, ⟨by rw [mvN, HM.out, OK.out, HR.out]; rfl⟩⟩
        case measure => simp [intOf] <;> omega
      -- end reg
    · have hnl : ¬ ((k + 1 : Nat) : Int) < (n : Int) := by omega
      have hkn : Keep (n - 1 = k) := ⟨by omega⟩
      go_wp2_with fail
      go_ret
      exact ⟨by rw [hkn.out, HM.out]; rfl, HB.out⟩
set_option maxRecDepth 100000 in
set_option maxHeartbeats 6400000 in
theorem auditMoves_walk (A : Option Addr) (n c : Nat) (l : List Int) (w : World) (hGm : Gm w) (hG : Gw w) (ha : Arg w 1 encZ A n c l) (_hall : ∀ z ∈ l, (Lit.int .i64 z).wf = true) :
    Calls Tryz.prog 4 #[.slice A n c] w fun e w' => e = .returned (.bool true) ∧ Below w.heap.size w w' := by
  clear _hall
  have WK := Keep.mk (awakes_any w hG)
  have HG := Keep.mk hGm
  have HA := Keep.mk ha
  have HL := Keep.mk ha.hlen
  clear ha hG hGm
  by_cases h3 : 30 < n
  · have h3' : (30 : Int) < (n : Int) := by omega
    clear h3
    go_enter Tryz.func4, Tryz.ntmps4
    go_wp2_with (first
      | (go_at_call 6
         go_loud (refine WK.out.mono ?_; rintro e w1 ⟨rfl, hb1⟩)
         have B1 := Keep.mk hb1
         clear hb1)
      | fail)
    go_ret
    exact ⟨rfl, B1.out⟩
  have h3' : ¬ (30 : Int) < (n : Int) := by omega
  have HN : Keep (n ≤ 30) := ⟨by omega⟩
  clear h3
  go_enter Tryz.func4, Tryz.ntmps4
  go_wp2_with (first
    | (go_at_call 6
       go_loud (refine WK.out.mono ?_; rintro e w1 ⟨rfl, hb1⟩)
       have B1 := Keep.mk hb1
       clear hb1)
    | fail)
  clear h3'
  go_loopw [3, 4] (fun WANT I wr => ∃ (k : Nat) (t : Bool), (k + 1 ≤ n ∨ k = 0) ∧ I = .int .i64 (k + 1 : Nat) ∧ WANT = .bool t ∧ Keep (Below w.heap.size w wr) ∧ Keep (t = mvN l k)) (fun _ I _ => n - (intOf I).toNat)
  case atStart => exact ⟨0, true, .inr rfl, rfl, rfl, B1, ⟨rfl⟩⟩
  case round =>
    obtain ⟨k, t, hk, rfl, rfl, HB, HM⟩ := hrel
    rcases Nat.lt_or_ge (k + 1) n with hlt | hge
    · obtain ⟨a, hla⟩ : ∃ a, l[k]? = some a := ⟨_, List.getElem?_eq_getElem (by rw [HL.out]; omega)⟩
      obtain ⟨b, hlb⟩ : ∃ b, l[k + 1]? = some b := ⟨_, List.getElem?_eq_getElem (by rw [HL.out]; omega)⟩
      obtain ⟨g, off, rfl, hg, hcs⟩ := HA.out.rd.numZ (List.ne_nil_of_length_pos (by rw [HL.out]; omega))
      have r0 : wr.cell? ⟨g, off + k, none⟩ = some (.int .i64 a) := by
        refine (HB.out.cell (p := ⟨g, off + k, none⟩) hg).trans ?_
        rw [hcs k (by rw [HL.out]; omega)]
        rw [List.getElem?_eq_getElem (by rw [HL.out]; omega)] at hla
        rw [Option.some.inj hla]
      have r1 : wr.cell? ⟨g, off + (k + 1), none⟩ = some (.int .i64 b) := by
        refine (HB.out.cell (p := ⟨g, off + (k + 1), none⟩) hg).trans ?_
        rw [hcs (k + 1) (by rw [HL.out]; omega)]
        rw [List.getElem?_eq_getElem (by rw [HL.out]; omega)] at hlb
        rw [Option.some.inj hlb]
      have hlti : ((k + 1 : Nat) : Int) < (n : Int) := by omega
      have hlt0 : ((k : Nat) : Int) < (n : Int) := by omega
      have hn30 : n ≤ 30 := HN.out
      have q1 : IntKind.i64.wrap ((k : Int) + 1 - 1) = (k : Int) := by rw [IntWalk.i64_in _ (by omega)]; omega
      have q2 : IntKind.i64.wrap (k : Int) = (k : Int) := IntWalk.i64_in _ (by omega)
      have q3 : (0 : Int) ≤ (k : Int) + 1 := by omega
      cases t
      · have NX : Keep (false = mvN l (k + 1)) := ⟨by rw [mvN, ← HM.out]; rfl⟩
        have HLT := Keep.mk hlt
        clear hla hlb hcs hg
        go_wp2_with fail
        go_quiet (fail)
        go_wp2_with fail
        go_roundw
        case rel => exact ⟨k + 1, false, .inl HLT.out, by go_num, by first | rfl | simp, ⟨below_drewN HB.out _⟩, NX⟩
        case measure => simp [intOf] <;> omega
      · obtain ⟨r, hr⟩ : ∃ r, leadsR 8 a b = r := ⟨_, rfl⟩
        have NX : Keep (r = mvN l (k + 1)) := ⟨by rw [mvN, ← HM.out, okM_leads hla hlb, hr]; rfl⟩
        have LE : Keep (∀ W, Calls Tryz.prog 8 #[.int .i64 a, .int .i64 b, .int .i64 8] W fun e w' => e = .returned (.bool r) ∧ w' = W) := ⟨fun W => by
          have := leads_any 8 (by omega) a b W
          rw [hr] at this
          exact this⟩
        have HLT := Keep.mk hlt
        clear hla hlb hcs hg hr
        go_wp2_with fail
        -- reg lawm
        refine wp_region_noPanic ?_
        refine wp_region_held_drew (S := fun X => X.cell? ⟨g, off + k, none⟩ = some (.int .i64 a) ∧ X.cell? ⟨g, off + (k + 1), none⟩ = some (.int .i64 b)) (by kernel_rfl) ⟨r0, r1⟩ (fun hHeld => ?_)
        refine wpAnyH_take (i := 0) (v := ?_) rfl (by kernel_rfl) (by kernel_rfl) (by kernel_rfl) (fun _ _ _ h => h) (Or.inl ⟨by rfl, ?_⟩) (by assumption) ?_
        rotate_left
        · intro w hSw; go_simp; (try with_reducible rfl)
        try simp only [Act.put, List.setIfInBounds_toArray, List.set_cons_zero, List.set_cons_succ, List.getElem_toArray, List.getElem_cons_zero, List.getElem_cons_succ]
        refine wpAnyH_take (i := 1) (v := ?_) rfl (by kernel_rfl) (by kernel_rfl) (by kernel_rfl) (fun _ _ _ h => h) (Or.inl ⟨by rfl, ?_⟩) (by assumption) ?_
        rotate_left
        · intro w hSw; go_simp; (try with_reducible rfl)
        try simp only [Act.put, List.setIfInBounds_toArray, List.set_cons_zero, List.set_cons_succ, List.getElem_toArray, List.getElem_cons_zero, List.getElem_cons_succ]
        refine wpAnyH_take (i := 2) (v := ?_) rfl (by kernel_rfl) (by kernel_rfl) (by kernel_rfl) (fun _ _ _ h => h) (Or.inl ⟨by rfl, ?_⟩) (by assumption) ?_
        rotate_left
        · intro w hSw; go_simp; (try with_reducible rfl)
        try simp only [Act.put, List.setIfInBounds_toArray, List.set_cons_zero, List.set_cons_succ, List.getElem_toArray, List.getElem_cons_zero, List.getElem_cons_succ]
        refine wpAnyH_take (i := 3) (v := ?_) rfl (by kernel_rfl) (by kernel_rfl) (by kernel_rfl) (fun _ _ _ h => h) (Or.inl ⟨by rfl, ?_⟩) (by assumption) ?_
        rotate_left
        · intro w hSw; go_simp; (try with_reducible rfl)
        try simp only [Act.put, List.setIfInBounds_toArray, List.set_cons_zero, List.set_cons_succ, List.getElem_toArray, List.getElem_cons_zero, List.getElem_cons_succ]
        refine wpAnyH_take (i := 4) (v := ?_) rfl (by kernel_rfl) (by kernel_rfl) (by kernel_rfl) (fun _ _ _ h => h) (Or.inl ⟨by rfl, ?_⟩) (by assumption) ?_
        rotate_left
        · intro w hSw; go_simp; (try with_reducible rfl)
        try simp only [Act.put, List.setIfInBounds_toArray, List.set_cons_zero, List.set_cons_succ, List.getElem_toArray, List.getElem_cons_zero, List.getElem_cons_succ]
        refine wpAnyH_take (i := 5) (v := ?_) rfl (by kernel_rfl) (by kernel_rfl) (by kernel_rfl) (fun _ _ _ h => h) (Or.inl ⟨by rfl, ?_⟩) (by assumption) ?_
        rotate_left
        · intro w hSw; go_simp; (try with_reducible rfl)
        try simp only [Act.put, List.setIfInBounds_toArray, List.set_cons_zero, List.set_cons_succ, List.getElem_toArray, List.getElem_cons_zero, List.getElem_cons_succ]
        refine wpAnyH_take (i := 6) (v := ?_) rfl (by kernel_rfl) (by kernel_rfl) (by kernel_rfl) (fun _ _ _ h => h) (Or.inl ⟨by rfl, ?_⟩) (by assumption) ?_
        rotate_left
        · intro w hSw; go_simp; (try with_reducible rfl)
        try simp only [Act.put, List.setIfInBounds_toArray, List.set_cons_zero, List.set_cons_succ, List.getElem_toArray, List.getElem_cons_zero, List.getElem_cons_succ]
        refine wpAnyH_take (i := 7) (v := ?_) rfl (by kernel_rfl) (by kernel_rfl) (by kernel_rfl) (fun _ _ _ h => h) (Or.inl ⟨by rfl, ?_⟩) (by assumption) ?_
        rotate_left
        · intro w hSw; go_simp; (try with_reducible rfl)
        try simp only [Act.put, List.setIfInBounds_toArray, List.set_cons_zero, List.set_cons_succ, List.getElem_toArray, List.getElem_cons_zero, List.getElem_cons_succ]
        refine wpAnyH_take (i := 8) (v := ?_) rfl (by kernel_rfl) (by kernel_rfl) (by kernel_rfl) (fun _ _ _ h => h) (Or.inl ⟨by rfl, ?_⟩) (by assumption) ?_
        rotate_left
        · intro w hSw; go_simp; (try with_reducible rfl)
        try simp only [Act.put, List.setIfInBounds_toArray, List.set_cons_zero, List.set_cons_succ, List.getElem_toArray, List.getElem_cons_zero, List.getElem_cons_succ]
        refine wpAnyH_take (i := 9) (v := ?_) rfl (by kernel_rfl) (by kernel_rfl) (by kernel_rfl) (fun _ _ _ h => h) (Or.inl ⟨by rfl, ?_⟩) (by assumption) ?_
        rotate_left
        · intro w hSw; go_simp; (try with_reducible rfl)
        try simp only [Act.put, List.setIfInBounds_toArray, List.set_cons_zero, List.set_cons_succ, List.getElem_toArray, List.getElem_cons_zero, List.getElem_cons_succ]
        refine wpAnyH_take (i := 10) (v := ?_) rfl (by kernel_rfl) (by kernel_rfl) (by kernel_rfl) (fun _ _ _ h => h) (Or.inl ⟨by rfl, ?_⟩) (by assumption) ?_
        rotate_left
        · intro w hSw; go_simp; (try with_reducible rfl)
        try simp only [Act.put, List.setIfInBounds_toArray, List.set_cons_zero, List.set_cons_succ, List.getElem_toArray, List.getElem_cons_zero, List.getElem_cons_succ]
        refine wpAnyH_ready (rs := [11]) (by kernel_rfl) (by simp) ?_
        refine AllReadyH.cons rfl (fun K hK => ?_) AllReadyH.nil
        go_simp
        refine (LE.out _).mono ?_
        rintro e X ⟨rfl, hX⟩
        rw [hX]
        clear hX
        refine hK.out _ _ ?_ (fun hHeld => ?_)
        · exact ⟨r0, r1⟩
        clear hK K
        try simp only [Act.put, List.setIfInBounds_toArray, List.set_cons_zero, List.set_cons_succ, List.getElem_toArray, List.getElem_cons_zero, List.getElem_cons_succ]
        refine wpAnyH_take (i := 12) (v := ?_) rfl (by kernel_rfl) (by kernel_rfl) (by kernel_rfl) (fun _ _ _ h => h) (Or.inl ⟨by rfl, ?_⟩) (by assumption) ?_
        rotate_left
        · intro w hSw; go_simp; (try with_reducible rfl)
        try simp only [Act.put, List.setIfInBounds_toArray, List.set_cons_zero, List.set_cons_succ, List.getElem_toArray, List.getElem_cons_zero, List.getElem_cons_succ]
        refine wpAnyH_take (i := 13) (v := ?_) rfl (by kernel_rfl) (by kernel_rfl) (by kernel_rfl) (fun _ _ _ h => h) (Or.inl ⟨by rfl, ?_⟩) (by assumption) ?_
        rotate_left
        · intro w hSw; go_simp; (try with_reducible rfl)
        try simp only [Act.put, List.setIfInBounds_toArray, List.set_cons_zero, List.set_cons_succ, List.getElem_toArray, List.getElem_cons_zero, List.getElem_cons_succ]
        refine wpAnyH_done (by kernel_rfl) ?_ _
        refine NoPanic.normal ?_
        go_wp2_with fail
        go_roundw
        case rel => exact ⟨k + 1, r, .inl HLT.out, by go_num, by first | rfl | simp, ⟨below_drewN HB.out 1⟩, NX⟩
        case measure => simp [intOf] <;> omega
        -- end reg
    · have hnl : ¬ ((k + 1 : Nat) : Int) < (n : Int) := by omega
      have hkn : n - 1 = k := by omega
      have MV := Keep.mk (moves_any A n c l wr (HG.out.below HB.out) (HA.out.below HB.out) (by have := HN.out; omega))
      rw [hkn, ← HM.out] at MV
      go_wp2_with (first
        | (go_at_call 9
           go_loud (refine MV.out.mono ?_; rintro e w7 ⟨rfl, b7⟩)
           have B7 := Keep.mk (HB.out.trans (b7.mono HB.out.size))
           clear b7 MV)
        | fail)
      go_ret
      exact ⟨by cases t <;> first | rfl | simp, B7.out⟩
end Go.Proofs.YtfjdhdeiaakbaaaGreatDoor
