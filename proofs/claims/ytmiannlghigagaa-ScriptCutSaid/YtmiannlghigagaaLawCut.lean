/-
  A beginning of a script's bytes has the first ones of its entries; two scripts' bytes have both ones' entries: the walk of the law ScriptCut.
-/
import Derived.Deep.RegionWith
import Derived.Deep.RegionHeld3
import Derived.Deep.Cut
import Derived.Test.YtmiannlghigagaaCutS
namespace Go.Proofs.Ytmiannlghigagaa
open Go.RowKit

theorem entOne (x : Ent) : ∀ u ∈ x.cells, u.oneCell' = true := by simp [Ent.cells, Value.oneCell']
theorem putS_append (l m : List Ent) : putS (l ++ m) = putS l ++ putS m := by simp [putS]
theorem getS_take_bytes : ∀ (l : List Ent) (k : Nat), (∀ e ∈ l, rightB e = true) → getS ((putS l).take k) = l.take (k / 4)
  | [], k, _ => by simp [putS, getS]
  | e :: r, k, h => by
    by_cases hk : k < 4
    · rw [show k / 4 = 0 by omega, List.take_zero, putS_cons]
      match k, hk with
      | 0, _ => rfl
      | 1, _ => simp [getS]
      | 2, _ => simp [getS]
      | 3, _ => simp [getS]
    · obtain ⟨j, rfl⟩ : ∃ j, k = j + 4 := ⟨k - 4, by omega⟩
      rw [putS_cons, show (j + 4) / 4 = j / 4 + 1 by omega, List.take_succ_cons]
      simp only [List.take_succ_cons]
      rw [getS, getS_take_bytes r j fun x hx => h x (by simp [hx])]
      obtain ⟨⟨k0, k1⟩, ⟨s0, s1⟩, _⟩ := right_bd (h e (by simp))
      obtain ⟨k', s, a, b, c⟩ := e
      dsimp only at k0 k1 s0 s1 ⊢
      rw [show (2 * k' + s) / 2 % 16 = k' by omega, show (2 * k' + s) % 2 = s by omega]

structure Keep (p : Prop) : Prop where
  out : p

set_option maxHeartbeats 6400000 in
set_option maxRecDepth 100000 in
theorem scriptCut_walk (A1 A2 : Option Addr) (len1 len2 ca1 ca2 : Nat) (l m : List Ent) (n : Int) (w : World) (ha : Arg w 5 Ent.cells A1 len1 ca1 l) (hb : Arg w 5 Ent.cells A2 len2 ca2 m) (n0 : 0 ≤ n) (n1 : n ≤ 65535) :
    Calls Try.prog 5 #[.slice A1 len1 ca1, .slice A2 len2 ca2, .int .u16 n] w fun e w' => e = .returned (.bool true) ∧ Below w.heap.size w w' := by
  obtain ⟨rfl, hcap1, hmax1, hnil1, hl1⟩ := ha
  obtain ⟨rfl, hcap2, hmax2, hnil2, hl2⟩ := hb
  unfold maxLen at hmax1 hmax2
  have hl1H := Lib.hid hl1
  have hl2H := Lib.hid hl2
  have hnil1H := Lib.hid hnil1
  have hnil2H := Lib.hid hnil2
  clear hl1 hnil1 hl2 hnil2
  by_cases h1 : 100 < l.length
  · go_enter Try.func5, Try.ntmps5
    go_wp2_with (go_at_call 7; refine (wakes_any _).mono ?_; rintro e w1 ⟨rfl, hb1⟩)
    go_ret
    exact ⟨rfl, hb1⟩
  · by_cases h2 : 100 < m.length
    · go_enter Try.func5, Try.ntmps5
      go_wp2_with (go_at_call 7; refine (wakes_any _).mono ?_; rintro e w1 ⟨rfl, hb1⟩)
      go_ret
      exact ⟨rfl, hb1⟩
    · by_cases hall1 : ∀ e ∈ l, rightB e = true
      · by_cases hall2 : ∀ e ∈ m, rightB e = true
        · have hgp := getS_take_bytes l
          have hpb1 := putS_bytes hall1
          have hpb2 := putS_bytes hall2
          have hpe1 : l.length * 4 = (putS l).length := by rw [putS_length]
          have hpe2 : m.length * 4 = (putS m).length := by rw [putS_length]
          have hpl1 : (putS l).length ≤ 400 := by omega
          have hpl2 : (putS m).length ≤ 400 := by omega
          have h64 : n % ((putS l).length + 1) = n.tmod ((putS l).length + 1) := (Int.tmod_eq_emod_of_nonneg n0).symm
          obtain ⟨k, hk⟩ : ∃ k : Nat, (k : Int) = n % ((putS l).length + 1) := ⟨(n % ((putS l).length + 1)).toNat, Int.toNat_of_nonneg (Int.emod_nonneg _ (by omega))⟩
          have hkl : k ≤ (putS l).length := by have := Int.emod_lt_of_pos n (show (0 : Int) < (putS l).length + 1 by omega); omega
          have hk4 : k / 4 ≤ l.length := by omega
          have hall1H := Lib.hid hall1
          have hall2H := Lib.hid hall2
          have hpe1H := Lib.hid hpe1
          have hpe2H := Lib.hid hpe2
          have hkH := Lib.hid hk
          have hpb1H := Lib.hid hpb1
          have hpb2H := Lib.hid hpb2
          clear hall1 hall2 hpe1 hpe2 h64 hk hpb1 hpb2 hgp
          go_enter Try.func5, Try.ntmps5
          go_wp2_with (first
            | (go_at_call 7; refine (wakes_any _).mono ?_; rintro e w1 ⟨rfl, hb1⟩)
            | (go_at_call 12; refine (put_any A2 m ca2 _ ((hl2H.out.below hb13).more hb13.size) (by omega) hall2H.out).mono ?_; rintro e w4 ⟨v4, rfl, hown4, hb4⟩; rw [hpe2H.out] at hown4; obtain ⟨A4, c4, rfl, hc4⟩ := own_slice hown4; have HO4 := Lib.hid hown4; clear hown4)
            | (go_at_call 12; refine (put_any A1 l ca1 _ ((hl1H.out.below hb1).more hb1.size) (by omega) hall1H.out).mono ?_; rintro e w3 ⟨v3, rfl, hown3, hb3⟩; have hb13 : Below w.heap.size w w3 := hb1.trans (hb3.mono hb1.size); rw [hpe1H.out] at hown3; obtain ⟨A3, c3, rfl, hc3⟩ := own_slice hown3; have HO3 := Lib.hid hown3; clear hown3))
          have hr3 : Rd w4 w4.heap.size 1 encB A3 (putS l) := ((Rd.of_own encB_length (by decide) HO3.out).below hb4).more hb4.size
          have hr4 : Rd w4 w4.heap.size 1 encB A4 (putS m) := Rd.of_own encB_length (by decide) HO4.out
          have hb14 : Below w.heap.size w w4 := hb13.trans (hb4.mono hb13.size)
          have hrl : Rd w4 w4.heap.size 5 Ent.cells A1 l := (hl1H.out.below hb14).more hb14.size
          have hrm : Rd w4 w4.heap.size 5 Ent.cells A2 m := (hl2H.out.below hb14).more hb14.size
          have hgk : getS ((putS l).take k) = l.take (k / 4) := getS_take_bytes l k hall1H.out
          have hgf : getS (putS l ++ putS m) = l ++ m := by rw [← putS_append]; exact getS_putS (fun e he => by rcases List.mem_append.1 he with h | h; exact hall1H.out e h; exact hall2H.out e h)
          have hbk : ∀ z ∈ (putS l).take k, 0 ≤ z ∧ z ≤ 255 := fun z hz => hpb1H.out z (List.mem_of_mem_take hz)
          have hbf : ∀ z ∈ putS l ++ putS m, 0 ≤ z ∧ z ≤ 255 := fun z hz => by rcases List.mem_append.1 hz with h | h; exact hpb1H.out z h; exact hpb2H.out z h
          rw [← hkH.out]
          have k4c : k / 4 ≤ ca1 := by omega
          have kc : k ≤ c3 := by omega
          obtain ⟨q, hq⟩ : ∃ q, q = k / 4 := ⟨_, rfl⟩
          rw [← hq] at hgk k4c
          have qlen : (l.take q).length = q := by rw [List.length_take]; omega
          have klen : ((putS l).take k).length = k := by rw [List.length_take]; omega
          have g9 := Lib.hid qlen
          have g10 := Lib.hid klen
          have d0 : (k : Int) / 4 = (q : Int) := by omega
          have d1 : (k : Int).tdiv 4 = (q : Int) := by rw [Int.tdiv_eq_ediv_of_nonneg (by omega)]; omega
          have d2 : IntKind.i64.wrap (q : Int) = (q : Int) := by rw [IntKind.wrap_i64]; omega
          have e1 : (0 : Int) ≤ (k : Int) := by omega
          have e2 : (k : Int) ≤ (c3 : Int) := by omega
          have e3 : (0 : Int) ≤ (q : Int) := by omega
          have e4 : (q : Int) ≤ (ca1 : Int) := by omega
          clear hq qlen klen
          have g1 := Lib.hid hr3
          have g2 := Lib.hid hr4
          have g3 := Lib.hid hrl
          have g4 := Lib.hid hrm
          have g5 := Lib.hid hgk
          have g6 := Lib.hid hgf
          have g7 := Lib.hid hbk
          have g8 := Lib.hid hbf
          clear hr3 hr4 hrl hrm hgk hgf hbk hbf
          have HA34 : Keep ((A3 = none → c3 = 0) ∧ (A4 = none → c4 = 0)) := ⟨own_nilcapC HO3.out, own_nilcapC HO4.out⟩
          clear HO3 HO4 hpe1H hpe2H hkH hpb1H hpb2H
          generalize putS l = pl at *
          generalize putS m = pm at *
          obtain ⟨pf, hpf⟩ : ∃ pf, pl ++ pm = pf := ⟨_, rfl⟩
          obtain ⟨ef, hef⟩ : ∃ ef, l ++ m = ef := ⟨_, rfl⟩
          have HPF : Keep (pl.length + pm.length = pf.length ∧ pl ++ pm = pf) := ⟨by rw [← hpf, List.length_append], hpf⟩
          have HEF : Keep (l.length + m.length = ef.length ∧ l ++ m = ef ∧ getS pf = ef) := ⟨by rw [← hef, List.length_append], hef, by rw [← hpf, ← hef]; exact g6.out⟩
          have HPB : Keep (∀ z ∈ pf, 0 ≤ z ∧ z ≤ 255) := ⟨by rw [← hpf]; exact g8.out⟩
          have HB6 : Keep (pl.length ≤ 400 ∧ pm.length ≤ 400 ∧ pf.length ≤ 800 ∧ l.length ≤ 100 ∧ m.length ≤ 100 ∧ ef.length ≤ 200) := by
            have x1 := HPF.out.1
            have x2 := HEF.out.1
            exact ⟨by omega, by omega, by omega, by omega, by omega, by omega⟩
          have hA3 := HA34.out.1
          have hA4 := HA34.out.2
          clear hpf hef g6 g8
          obtain ⟨i0, hi, hz0, hz1, hz2⟩ := info_parts info5
          obtain ⟨j0, hj, hy0, hy1, hy2⟩ := info_parts infoEnt
          go_upto_region 10 with fail
          refine wp_region_noPanic ?_
          refine wp_region_held_drew (S := fun _ => True) (by kernel_rfl) trivial (fun hHeld => ?_)
          refine wpAnyH_take (i := 0) (v := ?_) rfl (by kernel_rfl) (by kernel_rfl) (by kernel_rfl) (fun _ _ _ h => h) (Or.inl ⟨by rfl, ?_⟩) (by assumption) ?_
          rotate_left
          · intro w hSw; go_simp; (try with_reducible rfl)
          try simp only [Act.put, List.setIfInBounds_toArray, List.set_cons_zero, List.set_cons_succ, List.getElem_toArray, List.getElem_cons_zero]
          refine wpAnyH_take (i := 1) (v := ?_) rfl (by kernel_rfl) (by kernel_rfl) (by kernel_rfl) (fun _ _ _ h => h) (Or.inl ⟨by rfl, ?_⟩) (by assumption) ?_
          rotate_left
          · intro w hSw; go_simp; (try with_reducible rfl)
          try simp only [Act.put, List.setIfInBounds_toArray, List.set_cons_zero, List.set_cons_succ, List.getElem_toArray, List.getElem_cons_zero, List.getElem_cons_succ]
          refine wpAnyH_take (i := 2) (v := ?_) rfl (by kernel_rfl) (by kernel_rfl) (by kernel_rfl) (fun _ _ _ h => h) (Or.inl ⟨by rfl, ?_⟩) (by assumption) ?_
          rotate_left
          · intro w hSw; go_simp; (try with_reducible rfl)
          try simp only [Act.put, List.setIfInBounds_toArray, List.set_cons_zero, List.set_cons_succ, List.getElem_toArray, List.getElem_cons_zero, List.getElem_cons_succ]
          refine wpAnyH_take (i := 4) (v := ?_) rfl (by kernel_rfl) (by kernel_rfl) (by kernel_rfl) (fun _ _ _ h => h) (Or.inl ⟨by rfl, ?_⟩) (by assumption) ?_
          rotate_left
          · intro w hSw; go_simp; (try with_reducible rfl)
          try simp only [Act.put, List.setIfInBounds_toArray, List.set_cons_zero, List.set_cons_succ, List.getElem_toArray, List.getElem_cons_zero, List.getElem_cons_succ]
          refine wpAnyH_take (i := 5) (v := ?_) rfl (by kernel_rfl) (by kernel_rfl) (by kernel_rfl) (fun _ _ _ h => h) (Or.inl ⟨by rfl, ?_⟩) (by assumption) ?_
          rotate_left
          · intro w hSw; go_simp; (try with_reducible rfl)
          try simp only [Act.put, List.setIfInBounds_toArray, List.set_cons_zero, List.set_cons_succ, List.getElem_toArray, List.getElem_cons_zero, List.getElem_cons_succ]
          refine wpAnyH_take (i := 6) (v := ?_) rfl (by kernel_rfl) (by kernel_rfl) (by kernel_rfl) (fun _ _ _ h => h) (Or.inl ⟨by rfl, ?_⟩) (by assumption) ?_
          rotate_left
          · intro w hSw; go_simp; (try with_reducible rfl)
          try simp only [Act.put, List.setIfInBounds_toArray, List.set_cons_zero, List.set_cons_succ, List.getElem_toArray, List.getElem_cons_zero, List.getElem_cons_succ]
          refine wpAnyH_take (i := 7) (v := ?_) rfl (by kernel_rfl) (by kernel_rfl) (by kernel_rfl) (fun _ _ _ h => h) (Or.inl ⟨by rfl, ?_⟩) (by assumption) ?_
          rotate_left
          · intro w hSw; go_simp; (try with_reducible rfl)
          try simp only [Act.put, List.setIfInBounds_toArray, List.set_cons_zero, List.set_cons_succ, List.getElem_toArray, List.getElem_cons_zero, List.getElem_cons_succ]
          refine wpAnyH_ready (rs := [3]) (by kernel_rfl) (by simp) ?_
          refine AllReadyH.cons rfl (fun K hK => ?_) AllReadyH.nil
          go_simp
          refine (get_len A3 (pl.take k) (l.take q) k q c3 _ g10.out g5.out g9.out ((g1.out).take k).drew (by omega) kc g7.out).mono ?_
          rintro e w5 ⟨A5, c5, rfl, hc5, hr5, hb5⟩
          refine hK.out _ _ trivial (fun hHeld => ?_)
          clear hK K
          try simp only [Act.put, List.setIfInBounds_toArray, List.set_cons_zero, List.set_cons_succ, List.getElem_toArray, List.getElem_cons_zero, List.getElem_cons_succ]
          refine wpAnyH_ready (rs := [8]) (by kernel_rfl) (by simp) ?_
          refine AllReadyH.cons rfl (fun K hK => ?_) AllReadyH.nil
          go_simp
          refine (sameEnts_len A5 A1 (l.take q) q q c5 ca1 _ g9.out g9.out hr5 (((g3.out.drew.below hb5).more hb5.size).take q) (by omega)).mono ?_
          rintro e w6 ⟨rfl, n6, hw6⟩
          have hb6 : Below w5.heap.size w5 w6 := (by rw [hw6]; exact below_drewN (Below.refl _ _) _)
          have hb46 : Below w4.heap.size w4 w6 := ((Below.refl _ w4).drew.trans hb5).trans (hb6.mono hb5.size)
          clear hw6
          refine hK.out _ _ trivial (fun hHeld => ?_)
          clear hK K
          have R1 := Keep.mk ((g1.out.below hb46).more hb46.size)
          have R2 := Keep.mk ((g2.out.below hb46).more hb46.size)
          have E1 := Keep.mk ((g3.out.below hb46).more hb46.size)
          have E2 := Keep.mk ((g4.out.below hb46).more hb46.size)
          have HB06 : Keep (Below w.heap.size w w6) := ⟨hb14.trans (hb46.mono hb14.size)⟩
          have CS0 := Keep.mk (Cs.start w6)
          clear hb6 hb46 hb5 hr5
          try simp only [Act.put, List.setIfInBounds_toArray, List.set_cons_zero, List.set_cons_succ, List.getElem_toArray, List.getElem_cons_zero, List.getElem_cons_succ]
          refine wpAnyH_take (i := 9) (v := ?_) rfl (by kernel_rfl) (by kernel_rfl) (by kernel_rfl) (fun _ _ _ h => h) (Or.inl ⟨by rfl, ?_⟩) (by assumption) ?_
          rotate_left
          · intro w hSw; go_simp; (try with_reducible rfl)
          try simp only [Act.put, List.setIfInBounds_toArray, List.set_cons_zero, List.set_cons_succ, List.getElem_toArray, List.getElem_cons_zero, List.getElem_cons_succ]
          refine wpAnyH_take (i := 11) (v := ?_) rfl (by kernel_rfl) (by kernel_rfl) (by kernel_rfl) (fun _ _ _ h => h) (Or.inl ⟨by rfl, ?_⟩) (by assumption) ?_
          rotate_left
          · intro w hSw; go_simp; (try with_reducible rfl)
          try simp only [Act.put, List.setIfInBounds_toArray, List.set_cons_zero, List.set_cons_succ, List.getElem_toArray, List.getElem_cons_zero, List.getElem_cons_succ]
          refine wpAnyH_take (i := 13) (v := ?_) rfl (by kernel_rfl) (by kernel_rfl) (by kernel_rfl) (fun _ _ _ h => h) (Or.inl ⟨by rfl, ?_⟩) (by assumption) ?_
          rotate_left
          · intro w hSw; go_simp; (try with_reducible rfl)
          try simp only [Act.put, List.setIfInBounds_toArray, List.set_cons_zero, List.set_cons_succ, List.getElem_toArray, List.getElem_cons_zero, List.getElem_cons_succ]
          refine wpAnyH_take (i := 17) (v := ?_) rfl (by kernel_rfl) (by kernel_rfl) (by kernel_rfl) (fun _ _ _ h => h) (Or.inl ⟨by rfl, ?_⟩) (by assumption) ?_
          rotate_left
          · intro w hSw; go_simp; (try with_reducible rfl)
          try simp only [Act.put, List.setIfInBounds_toArray, List.set_cons_zero, List.set_cons_succ, List.getElem_toArray, List.getElem_cons_zero, List.getElem_cons_succ]
          refine wpAnyH_take (i := 19) (v := ?_) rfl (by kernel_rfl) (by kernel_rfl) (by kernel_rfl) (fun _ _ _ h => h) (Or.inl ⟨by rfl, ?_⟩) (by assumption) ?_
          rotate_left
          · intro w hSw; go_simp; (try with_reducible rfl)
          try simp only [Act.put, List.setIfInBounds_toArray, List.set_cons_zero, List.set_cons_succ, List.getElem_toArray, List.getElem_cons_zero, List.getElem_cons_succ]
          refine wpAnyH_ready (rs := [10, 16]) (by kernel_rfl) (by simp) ?_
          refine AllReadyH.cons rfl (fun K hK => ?_) (AllReadyH.cons rfl (fun K hK => ?_) AllReadyH.nil)
          · go_simp
            have CS1 := CS0.out.madeB
            try rw [World.size_alloc] at CS1
            have CS1 := Keep.mk CS1
            refine hK.out _ _ trivial (fun hHeld => ?_)
            clear hK K
            try simp only [Act.put, List.setIfInBounds_toArray, List.set_cons_zero, List.set_cons_succ, List.getElem_toArray, List.getElem_cons_zero, List.getElem_cons_succ]
            refine wpAnyH_ready (rs := [12, 16]) (by kernel_rfl) (by simp) ?_
            refine AllReadyH.cons rfl (fun K hK => ?_) (AllReadyH.cons rfl (fun K hK => ?_) AllReadyH.nil)
            · refine step_append_rd rfl (.tmp 54) (.tmp 55) 22 rfl w6.heap.size 5 i0 _ 1 1 Try.underlying22 hi hz0 hz1 hz2 rfl (by decide) _ 0 [] rfl CS1.out.b A3 pl.length c3 w6.heap.size encB pl rfl hA3 rfl encB_length (R1.out.below CS1.out.bl) encBOne (by have := HB6.out; simp only [maxLen]; omega) (by have := HB6.out; omega) CS1.out.bl.size ?_
              intro v7 w7 ho7 hg7 ha7
              have CS2 := CS1.out.appB (v' := v7) (n' := pl.length) (xs' := pl.flatMap encB) (by rw [Nat.zero_add, List.nil_append] at ho7; exact ho7) hg7 ha7
              obtain ⟨A7, c7, rfl, -⟩ := own_slice CS2.b
              have CS2 := Keep.mk CS2
              clear ho7 hg7 ha7
              refine hK.out _ _ trivial (fun hHeld => ?_)
              clear hK K
              try simp only [Act.put, List.setIfInBounds_toArray, List.set_cons_zero, List.set_cons_succ, List.getElem_toArray, List.getElem_cons_zero, List.getElem_cons_succ]
              refine wpAnyH_ready (rs := [14, 16]) (by kernel_rfl) (by simp) ?_
              refine AllReadyH.cons rfl (fun K hK => ?_) (AllReadyH.cons rfl (fun K hK => ?_) AllReadyH.nil)
              · refine step_append_rd rfl (.tmp 56) (.tmp 57) 22 rfl w6.heap.size 5 i0 _ 1 1 Try.underlying22 hi hz0 hz1 hz2 rfl (by decide) _ pl.length (pl.flatMap encB) rfl CS2.out.b A4 pm.length c4 w6.heap.size encB pm rfl hA4 rfl encB_length (R2.out.below CS2.out.bl) encBOne (by have := HB6.out; simp only [maxLen]; omega) (by have := HB6.out; omega) CS2.out.bl.size ?_
                intro v8 w8 ho8 hg8 ha8
                have CS3 := CS2.out.appB (v' := v8) (n' := pf.length) (xs' := pf.flatMap encB) (by rw [HPF.out.1, ← List.flatMap_append, HPF.out.2] at ho8; exact ho8) hg8 ha8
                obtain ⟨A8, c8, rfl, hc8⟩ := own_slice CS3.b
                have HC8 := Keep.mk hc8
                have CS3 := Keep.mk CS3
                clear ho8 hg8 ha8 hc8
                refine hK.out _ _ trivial (fun hHeld => ?_)
                clear hK K
                try simp only [Act.put, List.setIfInBounds_toArray, List.set_cons_zero, List.set_cons_succ, List.getElem_toArray, List.getElem_cons_zero, List.getElem_cons_succ]
                refine wpAnyH_ready (rs := [15, 16]) (by kernel_rfl) (by simp) ?_
                refine AllReadyH.cons rfl (fun K hK => ?_) (AllReadyH.cons rfl (fun K hK => ?_) AllReadyH.nil)
                · go_simp
                  refine (get_any A8 pf c8 _ (Rd.of_own encB_length (by decide) CS3.out.b) (by have := HB6.out; omega) HC8.out HPB.out).mono ?_
                  rintro e w9 ⟨v9, rfl, ho9, hb9⟩
                  rw [HEF.out.2.2] at ho9
                  have CS4 := CS3.out.got ho9 hb9
                  obtain ⟨A9, c9, rfl, -⟩ := own_slice CS4.b
                  have CS4 := Keep.mk CS4
                  clear ho9 hb9
                  refine hK.out _ _ trivial (fun hHeld => ?_)
                  clear hK K
                  try simp only [Act.put, List.setIfInBounds_toArray, List.set_cons_zero, List.set_cons_succ, List.getElem_toArray, List.getElem_cons_zero, List.getElem_cons_succ]
                  refine wpAnyH_ready (rs := [16]) (by kernel_rfl) (by simp) ?_
                  refine AllReadyH.cons rfl (fun K hK => ?_) AllReadyH.nil
                  go_simp
                  have CS5 := CS4.out.madeE
                  try rw [World.size_alloc] at CS5
                  have CS5 := Keep.mk CS5
                  refine hK.out _ _ trivial (fun hHeld => ?_)
                  clear hK K
                  try simp only [Act.put, List.setIfInBounds_toArray, List.set_cons_zero, List.set_cons_succ, List.getElem_toArray, List.getElem_cons_zero, List.getElem_cons_succ]
                  refine wpAnyH_ready (rs := [18]) (by kernel_rfl) (by simp) ?_
                  refine AllReadyH.cons rfl (fun K hK => ?_) AllReadyH.nil
                  refine step_append_rd rfl (.tmp 60) (.tmp 61) 24 rfl w6.heap.size 27 j0 _ 5 40 Try.underlying24 hj hy0 hy1 hy2 rfl (by decide) _ 0 [] rfl CS5.out.e A1 l.length ca1 w6.heap.size Ent.cells l rfl hnil1H.out rfl Ent.cells_length (E1.out.below CS5.out.bl) entOne (by have := HB6.out; simp only [maxLen]; omega) (by have := HB6.out; omega) CS5.out.bl.size ?_
                  intro v10 w10 ho10 hg10 ha10
                  have CS6 := CS5.out.appE (u' := v10) (k' := l.length) (ys' := l.flatMap Ent.cells) (by rw [Nat.zero_add, List.nil_append] at ho10; exact ho10) hg10 ha10
                  obtain ⟨A10, c10, rfl, -⟩ := own_slice CS6.e
                  have CS6 := Keep.mk CS6
                  clear ho10 hg10 ha10
                  refine hK.out _ _ trivial (fun hHeld => ?_)
                  clear hK K
                  try simp only [Act.put, List.setIfInBounds_toArray, List.set_cons_zero, List.set_cons_succ, List.getElem_toArray, List.getElem_cons_zero, List.getElem_cons_succ]
                  refine wpAnyH_ready (rs := [20]) (by kernel_rfl) (by simp) ?_
                  refine AllReadyH.cons rfl (fun K hK => ?_) AllReadyH.nil
                  refine step_append_rd rfl (.tmp 62) (.tmp 63) 24 rfl w6.heap.size 27 j0 _ 5 40 Try.underlying24 hj hy0 hy1 hy2 rfl (by decide) _ l.length (l.flatMap Ent.cells) rfl CS6.out.e A2 m.length ca2 w6.heap.size Ent.cells m rfl hnil2H.out rfl Ent.cells_length (E2.out.below CS6.out.bl) entOne (by have := HB6.out; simp only [maxLen]; omega) (by have := HB6.out; omega) CS6.out.bl.size ?_
                  intro v11 w11 ho11 hg11 ha11
                  have CS7 := CS6.out.appE (u' := v11) (k' := ef.length) (ys' := ef.flatMap Ent.cells) (by rw [HEF.out.1, ← List.flatMap_append, HEF.out.2.1] at ho11; exact ho11) hg11 ha11
                  obtain ⟨A11, c11, rfl, -⟩ := own_slice CS7.e
                  have CS7 := Keep.mk CS7
                  clear ho11 hg11 ha11
                  refine hK.out _ _ trivial (fun hHeld => ?_)
                  clear hK K
                  try simp only [Act.put, List.setIfInBounds_toArray, List.set_cons_zero, List.set_cons_succ, List.getElem_toArray, List.getElem_cons_zero, List.getElem_cons_succ]
                  refine wpAnyH_ready (rs := [21]) (by kernel_rfl) (by simp) ?_
                  refine AllReadyH.cons rfl (fun K hK => ?_) AllReadyH.nil
                  go_simp
                  refine (sameEnts_len A9 A11 ef ef.length ef.length c9 c11 _ rfl rfl (Rd.of_own Ent.cells_length (by decide) CS7.out.b) (Rd.of_own Ent.cells_length (by decide) CS7.out.e) (by have := HB6.out; omega)).mono ?_
                  rintro e w12 ⟨rfl, n12, hw12⟩
                  have CS8 : Keep (Below w6.heap.size w6 w12) := ⟨by rw [hw12]; exact below_drewN CS7.out.bl _⟩
                  clear hw12
                  refine hK.out _ _ trivial (fun hHeld => ?_)
                  clear hK K
                  try simp only [Act.put, List.setIfInBounds_toArray, List.set_cons_zero, List.set_cons_succ, List.getElem_toArray, List.getElem_cons_zero, List.getElem_cons_succ]
                  refine wpAnyH_take (i := 22) (v := ?_) rfl (by kernel_rfl) (by kernel_rfl) (by kernel_rfl) (fun _ _ _ h => h) (Or.inl ⟨by rfl, ?_⟩) (by assumption) ?_
                  rotate_left
                  · intro w hSw; go_simp; (try with_reducible rfl)
                  try simp only [Act.put, List.setIfInBounds_toArray, List.set_cons_zero, List.set_cons_succ, List.getElem_toArray, List.getElem_cons_zero, List.getElem_cons_succ]
                  refine wpAnyH_take (i := 23) (v := ?_) rfl (by kernel_rfl) (by kernel_rfl) (by kernel_rfl) (fun _ _ _ h => h) (Or.inl ⟨by rfl, ?_⟩) (by assumption) ?_
                  rotate_left
                  · intro w hSw; go_simp; (try with_reducible rfl)
                  try simp only [Act.put, List.setIfInBounds_toArray, List.set_cons_zero, List.set_cons_succ, List.getElem_toArray, List.getElem_cons_zero, List.getElem_cons_succ]
                  refine wpAnyH_done (by kernel_rfl) ?_ _
                  refine NoPanic.normal ?_
                  go_wp2_with fail
                  go_ret
                  exact ⟨rfl, HB06.out.trans (CS8.out.mono HB06.out.size)⟩
                · go_simp
                  have CS4 := CS3.out.madeE
                  try rw [World.size_alloc] at CS4
                  have CS4 := Keep.mk CS4
                  refine hK.out _ _ trivial (fun hHeld => ?_)
                  clear hK K
                  try simp only [Act.put, List.setIfInBounds_toArray, List.set_cons_zero, List.set_cons_succ, List.getElem_toArray, List.getElem_cons_zero, List.getElem_cons_succ]
                  refine wpAnyH_ready (rs := [15]) (by kernel_rfl) (by simp) ?_
                  refine AllReadyH.cons rfl (fun K hK => ?_) AllReadyH.nil
                  go_simp
                  refine (get_any A8 pf c8 _ (Rd.of_own encB_length (by decide) CS4.out.b) (by have := HB6.out; omega) HC8.out HPB.out).mono ?_
                  rintro e w9 ⟨v9, rfl, ho9, hb9⟩
                  rw [HEF.out.2.2] at ho9
                  have CS5 := CS4.out.got ho9 hb9
                  obtain ⟨A9, c9, rfl, -⟩ := own_slice CS5.b
                  have CS5 := Keep.mk CS5
                  clear ho9 hb9
                  refine hK.out _ _ trivial (fun hHeld => ?_)
                  clear hK K
                  try simp only [Act.put, List.setIfInBounds_toArray, List.set_cons_zero, List.set_cons_succ, List.getElem_toArray, List.getElem_cons_zero, List.getElem_cons_succ]
                  refine wpAnyH_ready (rs := [18]) (by kernel_rfl) (by simp) ?_
                  refine AllReadyH.cons rfl (fun K hK => ?_) AllReadyH.nil
                  refine step_append_rd rfl (.tmp 60) (.tmp 61) 24 rfl w6.heap.size 27 j0 _ 5 40 Try.underlying24 hj hy0 hy1 hy2 rfl (by decide) _ 0 [] rfl CS5.out.e A1 l.length ca1 w6.heap.size Ent.cells l rfl hnil1H.out rfl Ent.cells_length (E1.out.below CS5.out.bl) entOne (by have := HB6.out; simp only [maxLen]; omega) (by have := HB6.out; omega) CS5.out.bl.size ?_
                  intro v10 w10 ho10 hg10 ha10
                  have CS6 := CS5.out.appE (u' := v10) (k' := l.length) (ys' := l.flatMap Ent.cells) (by rw [Nat.zero_add, List.nil_append] at ho10; exact ho10) hg10 ha10
                  obtain ⟨A10, c10, rfl, -⟩ := own_slice CS6.e
                  have CS6 := Keep.mk CS6
                  clear ho10 hg10 ha10
                  refine hK.out _ _ trivial (fun hHeld => ?_)
                  clear hK K
                  try simp only [Act.put, List.setIfInBounds_toArray, List.set_cons_zero, List.set_cons_succ, List.getElem_toArray, List.getElem_cons_zero, List.getElem_cons_succ]
                  refine wpAnyH_ready (rs := [20]) (by kernel_rfl) (by simp) ?_
                  refine AllReadyH.cons rfl (fun K hK => ?_) AllReadyH.nil
                  refine step_append_rd rfl (.tmp 62) (.tmp 63) 24 rfl w6.heap.size 27 j0 _ 5 40 Try.underlying24 hj hy0 hy1 hy2 rfl (by decide) _ l.length (l.flatMap Ent.cells) rfl CS6.out.e A2 m.length ca2 w6.heap.size Ent.cells m rfl hnil2H.out rfl Ent.cells_length (E2.out.below CS6.out.bl) entOne (by have := HB6.out; simp only [maxLen]; omega) (by have := HB6.out; omega) CS6.out.bl.size ?_
                  intro v11 w11 ho11 hg11 ha11
                  have CS7 := CS6.out.appE (u' := v11) (k' := ef.length) (ys' := ef.flatMap Ent.cells) (by rw [HEF.out.1, ← List.flatMap_append, HEF.out.2.1] at ho11; exact ho11) hg11 ha11
                  obtain ⟨A11, c11, rfl, -⟩ := own_slice CS7.e
                  have CS7 := Keep.mk CS7
                  clear ho11 hg11 ha11
                  refine hK.out _ _ trivial (fun hHeld => ?_)
                  clear hK K
                  try simp only [Act.put, List.setIfInBounds_toArray, List.set_cons_zero, List.set_cons_succ, List.getElem_toArray, List.getElem_cons_zero, List.getElem_cons_succ]
                  refine wpAnyH_ready (rs := [21]) (by kernel_rfl) (by simp) ?_
                  refine AllReadyH.cons rfl (fun K hK => ?_) AllReadyH.nil
                  go_simp
                  refine (sameEnts_len A9 A11 ef ef.length ef.length c9 c11 _ rfl rfl (Rd.of_own Ent.cells_length (by decide) CS7.out.b) (Rd.of_own Ent.cells_length (by decide) CS7.out.e) (by have := HB6.out; omega)).mono ?_
                  rintro e w12 ⟨rfl, n12, hw12⟩
                  have CS8 : Keep (Below w6.heap.size w6 w12) := ⟨by rw [hw12]; exact below_drewN CS7.out.bl _⟩
                  clear hw12
                  refine hK.out _ _ trivial (fun hHeld => ?_)
                  clear hK K
                  try simp only [Act.put, List.setIfInBounds_toArray, List.set_cons_zero, List.set_cons_succ, List.getElem_toArray, List.getElem_cons_zero, List.getElem_cons_succ]
                  refine wpAnyH_take (i := 22) (v := ?_) rfl (by kernel_rfl) (by kernel_rfl) (by kernel_rfl) (fun _ _ _ h => h) (Or.inl ⟨by rfl, ?_⟩) (by assumption) ?_
                  rotate_left
                  · intro w hSw; go_simp; (try with_reducible rfl)
                  try simp only [Act.put, List.setIfInBounds_toArray, List.set_cons_zero, List.set_cons_succ, List.getElem_toArray, List.getElem_cons_zero, List.getElem_cons_succ]
                  refine wpAnyH_take (i := 23) (v := ?_) rfl (by kernel_rfl) (by kernel_rfl) (by kernel_rfl) (fun _ _ _ h => h) (Or.inl ⟨by rfl, ?_⟩) (by assumption) ?_
                  rotate_left
                  · intro w hSw; go_simp; (try with_reducible rfl)
                  try simp only [Act.put, List.setIfInBounds_toArray, List.set_cons_zero, List.set_cons_succ, List.getElem_toArray, List.getElem_cons_zero, List.getElem_cons_succ]
                  refine wpAnyH_done (by kernel_rfl) ?_ _
                  refine NoPanic.normal ?_
                  go_wp2_with fail
                  go_ret
                  exact ⟨rfl, HB06.out.trans (CS8.out.mono HB06.out.size)⟩
              · go_simp
                have CS3 := CS2.out.madeE
                try rw [World.size_alloc] at CS3
                have CS3 := Keep.mk CS3
                refine hK.out _ _ trivial (fun hHeld => ?_)
                clear hK K
                try simp only [Act.put, List.setIfInBounds_toArray, List.set_cons_zero, List.set_cons_succ, List.getElem_toArray, List.getElem_cons_zero, List.getElem_cons_succ]
                refine wpAnyH_ready (rs := [14]) (by kernel_rfl) (by simp) ?_
                refine AllReadyH.cons rfl (fun K hK => ?_) AllReadyH.nil
                refine step_append_rd rfl (.tmp 56) (.tmp 57) 22 rfl w6.heap.size 5 i0 _ 1 1 Try.underlying22 hi hz0 hz1 hz2 rfl (by decide) _ pl.length (pl.flatMap encB) rfl CS3.out.b A4 pm.length c4 w6.heap.size encB pm rfl hA4 rfl encB_length (R2.out.below CS3.out.bl) encBOne (by have := HB6.out; simp only [maxLen]; omega) (by have := HB6.out; omega) CS3.out.bl.size ?_
                intro v8 w8 ho8 hg8 ha8
                have CS4 := CS3.out.appB (v' := v8) (n' := pf.length) (xs' := pf.flatMap encB) (by rw [HPF.out.1, ← List.flatMap_append, HPF.out.2] at ho8; exact ho8) hg8 ha8
                obtain ⟨A8, c8, rfl, hc8⟩ := own_slice CS4.b
                have HC8 := Keep.mk hc8
                have CS4 := Keep.mk CS4
                clear ho8 hg8 ha8 hc8
                refine hK.out _ _ trivial (fun hHeld => ?_)
                clear hK K
                try simp only [Act.put, List.setIfInBounds_toArray, List.set_cons_zero, List.set_cons_succ, List.getElem_toArray, List.getElem_cons_zero, List.getElem_cons_succ]
                refine wpAnyH_ready (rs := [15]) (by kernel_rfl) (by simp) ?_
                refine AllReadyH.cons rfl (fun K hK => ?_) AllReadyH.nil
                go_simp
                refine (get_any A8 pf c8 _ (Rd.of_own encB_length (by decide) CS4.out.b) (by have := HB6.out; omega) HC8.out HPB.out).mono ?_
                rintro e w9 ⟨v9, rfl, ho9, hb9⟩
                rw [HEF.out.2.2] at ho9
                have CS5 := CS4.out.got ho9 hb9
                obtain ⟨A9, c9, rfl, -⟩ := own_slice CS5.b
                have CS5 := Keep.mk CS5
                clear ho9 hb9
                refine hK.out _ _ trivial (fun hHeld => ?_)
                clear hK K
                try simp only [Act.put, List.setIfInBounds_toArray, List.set_cons_zero, List.set_cons_succ, List.getElem_toArray, List.getElem_cons_zero, List.getElem_cons_succ]
                refine wpAnyH_ready (rs := [18]) (by kernel_rfl) (by simp) ?_
                refine AllReadyH.cons rfl (fun K hK => ?_) AllReadyH.nil
                refine step_append_rd rfl (.tmp 60) (.tmp 61) 24 rfl w6.heap.size 27 j0 _ 5 40 Try.underlying24 hj hy0 hy1 hy2 rfl (by decide) _ 0 [] rfl CS5.out.e A1 l.length ca1 w6.heap.size Ent.cells l rfl hnil1H.out rfl Ent.cells_length (E1.out.below CS5.out.bl) entOne (by have := HB6.out; simp only [maxLen]; omega) (by have := HB6.out; omega) CS5.out.bl.size ?_
                intro v10 w10 ho10 hg10 ha10
                have CS6 := CS5.out.appE (u' := v10) (k' := l.length) (ys' := l.flatMap Ent.cells) (by rw [Nat.zero_add, List.nil_append] at ho10; exact ho10) hg10 ha10
                obtain ⟨A10, c10, rfl, -⟩ := own_slice CS6.e
                have CS6 := Keep.mk CS6
                clear ho10 hg10 ha10
                refine hK.out _ _ trivial (fun hHeld => ?_)
                clear hK K
                try simp only [Act.put, List.setIfInBounds_toArray, List.set_cons_zero, List.set_cons_succ, List.getElem_toArray, List.getElem_cons_zero, List.getElem_cons_succ]
                refine wpAnyH_ready (rs := [20]) (by kernel_rfl) (by simp) ?_
                refine AllReadyH.cons rfl (fun K hK => ?_) AllReadyH.nil
                refine step_append_rd rfl (.tmp 62) (.tmp 63) 24 rfl w6.heap.size 27 j0 _ 5 40 Try.underlying24 hj hy0 hy1 hy2 rfl (by decide) _ l.length (l.flatMap Ent.cells) rfl CS6.out.e A2 m.length ca2 w6.heap.size Ent.cells m rfl hnil2H.out rfl Ent.cells_length (E2.out.below CS6.out.bl) entOne (by have := HB6.out; simp only [maxLen]; omega) (by have := HB6.out; omega) CS6.out.bl.size ?_
                intro v11 w11 ho11 hg11 ha11
                have CS7 := CS6.out.appE (u' := v11) (k' := ef.length) (ys' := ef.flatMap Ent.cells) (by rw [HEF.out.1, ← List.flatMap_append, HEF.out.2.1] at ho11; exact ho11) hg11 ha11
                obtain ⟨A11, c11, rfl, -⟩ := own_slice CS7.e
                have CS7 := Keep.mk CS7
                clear ho11 hg11 ha11
                refine hK.out _ _ trivial (fun hHeld => ?_)
                clear hK K
                try simp only [Act.put, List.setIfInBounds_toArray, List.set_cons_zero, List.set_cons_succ, List.getElem_toArray, List.getElem_cons_zero, List.getElem_cons_succ]
                refine wpAnyH_ready (rs := [21]) (by kernel_rfl) (by simp) ?_
                refine AllReadyH.cons rfl (fun K hK => ?_) AllReadyH.nil
                go_simp
                refine (sameEnts_len A9 A11 ef ef.length ef.length c9 c11 _ rfl rfl (Rd.of_own Ent.cells_length (by decide) CS7.out.b) (Rd.of_own Ent.cells_length (by decide) CS7.out.e) (by have := HB6.out; omega)).mono ?_
                rintro e w12 ⟨rfl, n12, hw12⟩
                have CS8 : Keep (Below w6.heap.size w6 w12) := ⟨by rw [hw12]; exact below_drewN CS7.out.bl _⟩
                clear hw12
                refine hK.out _ _ trivial (fun hHeld => ?_)
                clear hK K
                try simp only [Act.put, List.setIfInBounds_toArray, List.set_cons_zero, List.set_cons_succ, List.getElem_toArray, List.getElem_cons_zero, List.getElem_cons_succ]
                refine wpAnyH_take (i := 22) (v := ?_) rfl (by kernel_rfl) (by kernel_rfl) (by kernel_rfl) (fun _ _ _ h => h) (Or.inl ⟨by rfl, ?_⟩) (by assumption) ?_
                rotate_left
                · intro w hSw; go_simp; (try with_reducible rfl)
                try simp only [Act.put, List.setIfInBounds_toArray, List.set_cons_zero, List.set_cons_succ, List.getElem_toArray, List.getElem_cons_zero, List.getElem_cons_succ]
                refine wpAnyH_take (i := 23) (v := ?_) rfl (by kernel_rfl) (by kernel_rfl) (by kernel_rfl) (fun _ _ _ h => h) (Or.inl ⟨by rfl, ?_⟩) (by assumption) ?_
                rotate_left
                · intro w hSw; go_simp; (try with_reducible rfl)
                try simp only [Act.put, List.setIfInBounds_toArray, List.set_cons_zero, List.set_cons_succ, List.getElem_toArray, List.getElem_cons_zero, List.getElem_cons_succ]
                refine wpAnyH_done (by kernel_rfl) ?_ _
                refine NoPanic.normal ?_
                go_wp2_with fail
                go_ret
                exact ⟨rfl, HB06.out.trans (CS8.out.mono HB06.out.size)⟩
            · go_simp
              have CS2 := CS1.out.madeE
              try rw [World.size_alloc] at CS2
              have CS2 := Keep.mk CS2
              refine hK.out _ _ trivial (fun hHeld => ?_)
              clear hK K
              try simp only [Act.put, List.setIfInBounds_toArray, List.set_cons_zero, List.set_cons_succ, List.getElem_toArray, List.getElem_cons_zero, List.getElem_cons_succ]
              refine wpAnyH_ready (rs := [12]) (by kernel_rfl) (by simp) ?_
              refine AllReadyH.cons rfl (fun K hK => ?_) AllReadyH.nil
              refine step_append_rd rfl (.tmp 54) (.tmp 55) 22 rfl w6.heap.size 5 i0 _ 1 1 Try.underlying22 hi hz0 hz1 hz2 rfl (by decide) _ 0 [] rfl CS2.out.b A3 pl.length c3 w6.heap.size encB pl rfl hA3 rfl encB_length (R1.out.below CS2.out.bl) encBOne (by have := HB6.out; simp only [maxLen]; omega) (by have := HB6.out; omega) CS2.out.bl.size ?_
              intro v7 w7 ho7 hg7 ha7
              have CS3 := CS2.out.appB (v' := v7) (n' := pl.length) (xs' := pl.flatMap encB) (by rw [Nat.zero_add, List.nil_append] at ho7; exact ho7) hg7 ha7
              obtain ⟨A7, c7, rfl, -⟩ := own_slice CS3.b
              have CS3 := Keep.mk CS3
              clear ho7 hg7 ha7
              refine hK.out _ _ trivial (fun hHeld => ?_)
              clear hK K
              try simp only [Act.put, List.setIfInBounds_toArray, List.set_cons_zero, List.set_cons_succ, List.getElem_toArray, List.getElem_cons_zero, List.getElem_cons_succ]
              refine wpAnyH_ready (rs := [14]) (by kernel_rfl) (by simp) ?_
              refine AllReadyH.cons rfl (fun K hK => ?_) AllReadyH.nil
              refine step_append_rd rfl (.tmp 56) (.tmp 57) 22 rfl w6.heap.size 5 i0 _ 1 1 Try.underlying22 hi hz0 hz1 hz2 rfl (by decide) _ pl.length (pl.flatMap encB) rfl CS3.out.b A4 pm.length c4 w6.heap.size encB pm rfl hA4 rfl encB_length (R2.out.below CS3.out.bl) encBOne (by have := HB6.out; simp only [maxLen]; omega) (by have := HB6.out; omega) CS3.out.bl.size ?_
              intro v8 w8 ho8 hg8 ha8
              have CS4 := CS3.out.appB (v' := v8) (n' := pf.length) (xs' := pf.flatMap encB) (by rw [HPF.out.1, ← List.flatMap_append, HPF.out.2] at ho8; exact ho8) hg8 ha8
              obtain ⟨A8, c8, rfl, hc8⟩ := own_slice CS4.b
              have HC8 := Keep.mk hc8
              have CS4 := Keep.mk CS4
              clear ho8 hg8 ha8 hc8
              refine hK.out _ _ trivial (fun hHeld => ?_)
              clear hK K
              try simp only [Act.put, List.setIfInBounds_toArray, List.set_cons_zero, List.set_cons_succ, List.getElem_toArray, List.getElem_cons_zero, List.getElem_cons_succ]
              refine wpAnyH_ready (rs := [15]) (by kernel_rfl) (by simp) ?_
              refine AllReadyH.cons rfl (fun K hK => ?_) AllReadyH.nil
              go_simp
              refine (get_any A8 pf c8 _ (Rd.of_own encB_length (by decide) CS4.out.b) (by have := HB6.out; omega) HC8.out HPB.out).mono ?_
              rintro e w9 ⟨v9, rfl, ho9, hb9⟩
              rw [HEF.out.2.2] at ho9
              have CS5 := CS4.out.got ho9 hb9
              obtain ⟨A9, c9, rfl, -⟩ := own_slice CS5.b
              have CS5 := Keep.mk CS5
              clear ho9 hb9
              refine hK.out _ _ trivial (fun hHeld => ?_)
              clear hK K
              try simp only [Act.put, List.setIfInBounds_toArray, List.set_cons_zero, List.set_cons_succ, List.getElem_toArray, List.getElem_cons_zero, List.getElem_cons_succ]
              refine wpAnyH_ready (rs := [18]) (by kernel_rfl) (by simp) ?_
              refine AllReadyH.cons rfl (fun K hK => ?_) AllReadyH.nil
              refine step_append_rd rfl (.tmp 60) (.tmp 61) 24 rfl w6.heap.size 27 j0 _ 5 40 Try.underlying24 hj hy0 hy1 hy2 rfl (by decide) _ 0 [] rfl CS5.out.e A1 l.length ca1 w6.heap.size Ent.cells l rfl hnil1H.out rfl Ent.cells_length (E1.out.below CS5.out.bl) entOne (by have := HB6.out; simp only [maxLen]; omega) (by have := HB6.out; omega) CS5.out.bl.size ?_
              intro v10 w10 ho10 hg10 ha10
              have CS6 := CS5.out.appE (u' := v10) (k' := l.length) (ys' := l.flatMap Ent.cells) (by rw [Nat.zero_add, List.nil_append] at ho10; exact ho10) hg10 ha10
              obtain ⟨A10, c10, rfl, -⟩ := own_slice CS6.e
              have CS6 := Keep.mk CS6
              clear ho10 hg10 ha10
              refine hK.out _ _ trivial (fun hHeld => ?_)
              clear hK K
              try simp only [Act.put, List.setIfInBounds_toArray, List.set_cons_zero, List.set_cons_succ, List.getElem_toArray, List.getElem_cons_zero, List.getElem_cons_succ]
              refine wpAnyH_ready (rs := [20]) (by kernel_rfl) (by simp) ?_
              refine AllReadyH.cons rfl (fun K hK => ?_) AllReadyH.nil
              refine step_append_rd rfl (.tmp 62) (.tmp 63) 24 rfl w6.heap.size 27 j0 _ 5 40 Try.underlying24 hj hy0 hy1 hy2 rfl (by decide) _ l.length (l.flatMap Ent.cells) rfl CS6.out.e A2 m.length ca2 w6.heap.size Ent.cells m rfl hnil2H.out rfl Ent.cells_length (E2.out.below CS6.out.bl) entOne (by have := HB6.out; simp only [maxLen]; omega) (by have := HB6.out; omega) CS6.out.bl.size ?_
              intro v11 w11 ho11 hg11 ha11
              have CS7 := CS6.out.appE (u' := v11) (k' := ef.length) (ys' := ef.flatMap Ent.cells) (by rw [HEF.out.1, ← List.flatMap_append, HEF.out.2.1] at ho11; exact ho11) hg11 ha11
              obtain ⟨A11, c11, rfl, -⟩ := own_slice CS7.e
              have CS7 := Keep.mk CS7
              clear ho11 hg11 ha11
              refine hK.out _ _ trivial (fun hHeld => ?_)
              clear hK K
              try simp only [Act.put, List.setIfInBounds_toArray, List.set_cons_zero, List.set_cons_succ, List.getElem_toArray, List.getElem_cons_zero, List.getElem_cons_succ]
              refine wpAnyH_ready (rs := [21]) (by kernel_rfl) (by simp) ?_
              refine AllReadyH.cons rfl (fun K hK => ?_) AllReadyH.nil
              go_simp
              refine (sameEnts_len A9 A11 ef ef.length ef.length c9 c11 _ rfl rfl (Rd.of_own Ent.cells_length (by decide) CS7.out.b) (Rd.of_own Ent.cells_length (by decide) CS7.out.e) (by have := HB6.out; omega)).mono ?_
              rintro e w12 ⟨rfl, n12, hw12⟩
              have CS8 : Keep (Below w6.heap.size w6 w12) := ⟨by rw [hw12]; exact below_drewN CS7.out.bl _⟩
              clear hw12
              refine hK.out _ _ trivial (fun hHeld => ?_)
              clear hK K
              try simp only [Act.put, List.setIfInBounds_toArray, List.set_cons_zero, List.set_cons_succ, List.getElem_toArray, List.getElem_cons_zero, List.getElem_cons_succ]
              refine wpAnyH_take (i := 22) (v := ?_) rfl (by kernel_rfl) (by kernel_rfl) (by kernel_rfl) (fun _ _ _ h => h) (Or.inl ⟨by rfl, ?_⟩) (by assumption) ?_
              rotate_left
              · intro w hSw; go_simp; (try with_reducible rfl)
              try simp only [Act.put, List.setIfInBounds_toArray, List.set_cons_zero, List.set_cons_succ, List.getElem_toArray, List.getElem_cons_zero, List.getElem_cons_succ]
              refine wpAnyH_take (i := 23) (v := ?_) rfl (by kernel_rfl) (by kernel_rfl) (by kernel_rfl) (fun _ _ _ h => h) (Or.inl ⟨by rfl, ?_⟩) (by assumption) ?_
              rotate_left
              · intro w hSw; go_simp; (try with_reducible rfl)
              try simp only [Act.put, List.setIfInBounds_toArray, List.set_cons_zero, List.set_cons_succ, List.getElem_toArray, List.getElem_cons_zero, List.getElem_cons_succ]
              refine wpAnyH_done (by kernel_rfl) ?_ _
              refine NoPanic.normal ?_
              go_wp2_with fail
              go_ret
              exact ⟨rfl, HB06.out.trans (CS8.out.mono HB06.out.size)⟩
          · go_simp
            have CS1 := CS0.out.madeE
            try rw [World.size_alloc] at CS1
            have CS1 := Keep.mk CS1
            refine hK.out _ _ trivial (fun hHeld => ?_)
            clear hK K
            try simp only [Act.put, List.setIfInBounds_toArray, List.set_cons_zero, List.set_cons_succ, List.getElem_toArray, List.getElem_cons_zero, List.getElem_cons_succ]
            refine wpAnyH_ready (rs := [10]) (by kernel_rfl) (by simp) ?_
            refine AllReadyH.cons rfl (fun K hK => ?_) AllReadyH.nil
            go_simp
            have CS2 := CS1.out.madeB
            try rw [World.size_alloc] at CS2
            have CS2 := Keep.mk CS2
            refine hK.out _ _ trivial (fun hHeld => ?_)
            clear hK K
            try simp only [Act.put, List.setIfInBounds_toArray, List.set_cons_zero, List.set_cons_succ, List.getElem_toArray, List.getElem_cons_zero, List.getElem_cons_succ]
            refine wpAnyH_ready (rs := [12]) (by kernel_rfl) (by simp) ?_
            refine AllReadyH.cons rfl (fun K hK => ?_) AllReadyH.nil
            refine step_append_rd rfl (.tmp 54) (.tmp 55) 22 rfl w6.heap.size 5 i0 _ 1 1 Try.underlying22 hi hz0 hz1 hz2 rfl (by decide) _ 0 [] rfl CS2.out.b A3 pl.length c3 w6.heap.size encB pl rfl hA3 rfl encB_length (R1.out.below CS2.out.bl) encBOne (by have := HB6.out; simp only [maxLen]; omega) (by have := HB6.out; omega) CS2.out.bl.size ?_
            intro v7 w7 ho7 hg7 ha7
            have CS3 := CS2.out.appB (v' := v7) (n' := pl.length) (xs' := pl.flatMap encB) (by rw [Nat.zero_add, List.nil_append] at ho7; exact ho7) hg7 ha7
            obtain ⟨A7, c7, rfl, -⟩ := own_slice CS3.b
            have CS3 := Keep.mk CS3
            clear ho7 hg7 ha7
            refine hK.out _ _ trivial (fun hHeld => ?_)
            clear hK K
            try simp only [Act.put, List.setIfInBounds_toArray, List.set_cons_zero, List.set_cons_succ, List.getElem_toArray, List.getElem_cons_zero, List.getElem_cons_succ]
            refine wpAnyH_ready (rs := [14]) (by kernel_rfl) (by simp) ?_
            refine AllReadyH.cons rfl (fun K hK => ?_) AllReadyH.nil
            refine step_append_rd rfl (.tmp 56) (.tmp 57) 22 rfl w6.heap.size 5 i0 _ 1 1 Try.underlying22 hi hz0 hz1 hz2 rfl (by decide) _ pl.length (pl.flatMap encB) rfl CS3.out.b A4 pm.length c4 w6.heap.size encB pm rfl hA4 rfl encB_length (R2.out.below CS3.out.bl) encBOne (by have := HB6.out; simp only [maxLen]; omega) (by have := HB6.out; omega) CS3.out.bl.size ?_
            intro v8 w8 ho8 hg8 ha8
            have CS4 := CS3.out.appB (v' := v8) (n' := pf.length) (xs' := pf.flatMap encB) (by rw [HPF.out.1, ← List.flatMap_append, HPF.out.2] at ho8; exact ho8) hg8 ha8
            obtain ⟨A8, c8, rfl, hc8⟩ := own_slice CS4.b
            have HC8 := Keep.mk hc8
            have CS4 := Keep.mk CS4
            clear ho8 hg8 ha8 hc8
            refine hK.out _ _ trivial (fun hHeld => ?_)
            clear hK K
            try simp only [Act.put, List.setIfInBounds_toArray, List.set_cons_zero, List.set_cons_succ, List.getElem_toArray, List.getElem_cons_zero, List.getElem_cons_succ]
            refine wpAnyH_ready (rs := [15]) (by kernel_rfl) (by simp) ?_
            refine AllReadyH.cons rfl (fun K hK => ?_) AllReadyH.nil
            go_simp
            refine (get_any A8 pf c8 _ (Rd.of_own encB_length (by decide) CS4.out.b) (by have := HB6.out; omega) HC8.out HPB.out).mono ?_
            rintro e w9 ⟨v9, rfl, ho9, hb9⟩
            rw [HEF.out.2.2] at ho9
            have CS5 := CS4.out.got ho9 hb9
            obtain ⟨A9, c9, rfl, -⟩ := own_slice CS5.b
            have CS5 := Keep.mk CS5
            clear ho9 hb9
            refine hK.out _ _ trivial (fun hHeld => ?_)
            clear hK K
            try simp only [Act.put, List.setIfInBounds_toArray, List.set_cons_zero, List.set_cons_succ, List.getElem_toArray, List.getElem_cons_zero, List.getElem_cons_succ]
            refine wpAnyH_ready (rs := [18]) (by kernel_rfl) (by simp) ?_
            refine AllReadyH.cons rfl (fun K hK => ?_) AllReadyH.nil
            refine step_append_rd rfl (.tmp 60) (.tmp 61) 24 rfl w6.heap.size 27 j0 _ 5 40 Try.underlying24 hj hy0 hy1 hy2 rfl (by decide) _ 0 [] rfl CS5.out.e A1 l.length ca1 w6.heap.size Ent.cells l rfl hnil1H.out rfl Ent.cells_length (E1.out.below CS5.out.bl) entOne (by have := HB6.out; simp only [maxLen]; omega) (by have := HB6.out; omega) CS5.out.bl.size ?_
            intro v10 w10 ho10 hg10 ha10
            have CS6 := CS5.out.appE (u' := v10) (k' := l.length) (ys' := l.flatMap Ent.cells) (by rw [Nat.zero_add, List.nil_append] at ho10; exact ho10) hg10 ha10
            obtain ⟨A10, c10, rfl, -⟩ := own_slice CS6.e
            have CS6 := Keep.mk CS6
            clear ho10 hg10 ha10
            refine hK.out _ _ trivial (fun hHeld => ?_)
            clear hK K
            try simp only [Act.put, List.setIfInBounds_toArray, List.set_cons_zero, List.set_cons_succ, List.getElem_toArray, List.getElem_cons_zero, List.getElem_cons_succ]
            refine wpAnyH_ready (rs := [20]) (by kernel_rfl) (by simp) ?_
            refine AllReadyH.cons rfl (fun K hK => ?_) AllReadyH.nil
            refine step_append_rd rfl (.tmp 62) (.tmp 63) 24 rfl w6.heap.size 27 j0 _ 5 40 Try.underlying24 hj hy0 hy1 hy2 rfl (by decide) _ l.length (l.flatMap Ent.cells) rfl CS6.out.e A2 m.length ca2 w6.heap.size Ent.cells m rfl hnil2H.out rfl Ent.cells_length (E2.out.below CS6.out.bl) entOne (by have := HB6.out; simp only [maxLen]; omega) (by have := HB6.out; omega) CS6.out.bl.size ?_
            intro v11 w11 ho11 hg11 ha11
            have CS7 := CS6.out.appE (u' := v11) (k' := ef.length) (ys' := ef.flatMap Ent.cells) (by rw [HEF.out.1, ← List.flatMap_append, HEF.out.2.1] at ho11; exact ho11) hg11 ha11
            obtain ⟨A11, c11, rfl, -⟩ := own_slice CS7.e
            have CS7 := Keep.mk CS7
            clear ho11 hg11 ha11
            refine hK.out _ _ trivial (fun hHeld => ?_)
            clear hK K
            try simp only [Act.put, List.setIfInBounds_toArray, List.set_cons_zero, List.set_cons_succ, List.getElem_toArray, List.getElem_cons_zero, List.getElem_cons_succ]
            refine wpAnyH_ready (rs := [21]) (by kernel_rfl) (by simp) ?_
            refine AllReadyH.cons rfl (fun K hK => ?_) AllReadyH.nil
            go_simp
            refine (sameEnts_len A9 A11 ef ef.length ef.length c9 c11 _ rfl rfl (Rd.of_own Ent.cells_length (by decide) CS7.out.b) (Rd.of_own Ent.cells_length (by decide) CS7.out.e) (by have := HB6.out; omega)).mono ?_
            rintro e w12 ⟨rfl, n12, hw12⟩
            have CS8 : Keep (Below w6.heap.size w6 w12) := ⟨by rw [hw12]; exact below_drewN CS7.out.bl _⟩
            clear hw12
            refine hK.out _ _ trivial (fun hHeld => ?_)
            clear hK K
            try simp only [Act.put, List.setIfInBounds_toArray, List.set_cons_zero, List.set_cons_succ, List.getElem_toArray, List.getElem_cons_zero, List.getElem_cons_succ]
            refine wpAnyH_take (i := 22) (v := ?_) rfl (by kernel_rfl) (by kernel_rfl) (by kernel_rfl) (fun _ _ _ h => h) (Or.inl ⟨by rfl, ?_⟩) (by assumption) ?_
            rotate_left
            · intro w hSw; go_simp; (try with_reducible rfl)
            try simp only [Act.put, List.setIfInBounds_toArray, List.set_cons_zero, List.set_cons_succ, List.getElem_toArray, List.getElem_cons_zero, List.getElem_cons_succ]
            refine wpAnyH_take (i := 23) (v := ?_) rfl (by kernel_rfl) (by kernel_rfl) (by kernel_rfl) (fun _ _ _ h => h) (Or.inl ⟨by rfl, ?_⟩) (by assumption) ?_
            rotate_left
            · intro w hSw; go_simp; (try with_reducible rfl)
            try simp only [Act.put, List.setIfInBounds_toArray, List.set_cons_zero, List.set_cons_succ, List.getElem_toArray, List.getElem_cons_zero, List.getElem_cons_succ]
            refine wpAnyH_done (by kernel_rfl) ?_ _
            refine NoPanic.normal ?_
            go_wp2_with fail
            go_ret
            exact ⟨rfl, HB06.out.trans (CS8.out.mono HB06.out.size)⟩
        · have hno2H := Lib.hid hall2
          have hall1H := Lib.hid hall1
          clear hall2 hall1
          go_enter Try.func5, Try.ntmps5
          go_wp2_with (first
            | (go_at_call 7; refine (wakes_any _).mono ?_; rintro e w1 ⟨rfl, hb1⟩)
            | (go_at_call 12; refine (put_no A2 m ca2 _ ((hl2H.out.below hb13).more hb13.size) (by omega) hno2H.out).mono ?_; rintro e w4 ⟨rfl, hb4⟩)
            | (go_at_call 12; refine (put_any A1 l ca1 _ ((hl1H.out.below hb1).more hb1.size) (by omega) hall1H.out).mono ?_; rintro e w3 ⟨v3, rfl, hown3, hb3⟩; have hb13 : Below w.heap.size w w3 := hb1.trans (hb3.mono hb1.size); clear hown3))
          go_ret
          exact ⟨rfl, hb13.trans (hb4.mono hb13.size)⟩
      · have hno1H := Lib.hid hall1
        clear hall1
        by_cases hall2 : ∀ e ∈ m, rightB e = true
        · have hall2H := Lib.hid hall2
          clear hall2
          go_enter Try.func5, Try.ntmps5
          go_wp2_with (first
            | (go_at_call 7; refine (wakes_any _).mono ?_; rintro e w1 ⟨rfl, hb1⟩)
            | (go_at_call 12; refine (put_any A2 m ca2 _ ((hl2H.out.below hb13).more hb13.size) (by omega) hall2H.out).mono ?_; rintro e w4 ⟨v3, rfl, hown3, hb4⟩; clear hown3)
            | (go_at_call 12; refine (put_no A1 l ca1 _ ((hl1H.out.below hb1).more hb1.size) (by omega) hno1H.out).mono ?_; rintro e w3 ⟨rfl, hb3⟩; have hb13 : Below w.heap.size w w3 := hb1.trans (hb3.mono hb1.size)))
          go_ret
          exact ⟨rfl, hb13.trans (hb4.mono hb13.size)⟩
        · have hno2H := Lib.hid hall2
          clear hall2
          go_enter Try.func5, Try.ntmps5
          go_wp2_with (first
            | (go_at_call 7; refine (wakes_any _).mono ?_; rintro e w1 ⟨rfl, hb1⟩)
            | (go_at_call 12; refine (put_no A2 m ca2 _ ((hl2H.out.below hb13).more hb13.size) (by omega) hno2H.out).mono ?_; rintro e w4 ⟨rfl, hb4⟩)
            | (go_at_call 12; refine (put_no A1 l ca1 _ ((hl1H.out.below hb1).more hb1.size) (by omega) hno1H.out).mono ?_; rintro e w3 ⟨rfl, hb3⟩; have hb13 : Below w.heap.size w w3 := hb1.trans (hb3.mono hb1.size)))
          go_ret
          exact ⟨rfl, hb13.trans (hb4.mono hb13.size)⟩
end Go.Proofs.Ytmiannlghigagaa
