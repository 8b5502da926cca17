/-
  Layer 4: the law HmacJoins, walked.
-/
import Derived.Test.YtkcmemhoabadaaaDoorHmW
namespace Go.Proofs.YtkcmemhoabadaaaDoor
open Go.RowKit

/-- hmac.Of with a new row of pieces. -/
theorem hm_new (Ak : Option Addr) (nk ck : Nat) (K : List Int) (w : World) (g n : Nat) (ps : List Pc) (l : List Int) (hg : w.heap.size = g) (hn : ps.length = n) (hk : Arg w 1 encB Ak nk ck K) (hKb : ∀ z ∈ K, 0 ≤ z ∧ z ≤ 255) (hn2 : nk ≤ 50000) (hok : PcsOk w ps) (hl : glue ps = l) (hn1 : n ≤ 100000) (h1 : l.length ≤ 50000) (hb : ∀ z ∈ l, 0 ≤ z ∧ z ≤ 255) :
    Calls Tryd.prog 23 #[.slice Ak nk ck, .slice (some ⟨g, 0, none⟩) n n] (w.alloc (.cells (ps.flatMap encP).toArray 22)) fun r w' => r = .returned (.agg (bArr (hmB K l))) ∧ Below w.heap.size w w' := by
  subst hl
  refine (hmOf_any Ak nk ck K _ n n ps _ (hk.alloc _) hKb hn2 (Arg.new' w g hg 22 (0, 0) 1 encP encP_length ps n hn (by unfold maxLen; omega)) (hok.alloc _) hn1 h1 hb).mono ?_
  rintro e w' ⟨rfl, hb'⟩
  exact ⟨rfl, ((Below.refl _ w).alloc (Nat.le_refl _) _).trans (hb'.mono (by simp))⟩
theorem glue_one (A : Option Addr) (n c : Nat) (l : List Int) : glue [(⟨A, n, c, l⟩ : Pc)] = l := by simp [glue]

set_option maxRecDepth 100000 in
set_option maxHeartbeats 2000000 in
theorem hmacJoins_walk (Ak : Option Addr) (nk ck : Nat) (K : List Int) (A : Option Addr) (n ca : Nat) (ps : List Pc) (w : World) (hk : Arg w 1 encB Ak nk ck K) (hKb : ∀ z ∈ K, 0 ≤ z ∧ z ≤ 255) (ha : Arg w 1 encP A n ca ps) (hok : PcsOk w ps) (hby : ∀ z ∈ glue ps, 0 ≤ z ∧ z ≤ 255) :
    Calls Tryd.prog 10 #[.slice Ak nk ck, .slice A n ca] w fun e w' => e = .returned (.bool true) ∧ Below w.heap.size w w' := by
  obtain ⟨i0, hi, hz0, hz1, hz2⟩ := info_parts infoB
  have hokH := Lib.hid hok
  have haH := Lib.hid ha
  have hbyH := Lib.hid hby
  have hkH := Lib.hid hk
  have hKbH := Lib.hid hKb
  have hcap := ha.hcap
  have hmax := ha.hmax
  have hcapk := hk.hcap
  have hmaxk := hk.hmax
  unfold maxLen at hmax hmaxk
  clear hok ha hby hk hKb
  by_cases h300 : 300 < nk
  · go_enter Tryd.func10, Tryd.ntmps10
    go_wp2_with (go_at_call 22; refine (wakes04_any _).mono ?_; rintro e w1 ⟨rfl, hb1⟩)
    go_ret
    exact ⟨rfl, hb1⟩
  by_cases h20 : 20 < n
  · go_enter Tryd.func10, Tryd.ntmps10
    go_wp2_with (go_at_call 22; refine (wakes04_any _).mono ?_; rintro e w1 ⟨rfl, hb1⟩)
    go_ret
    exact ⟨rfl, hb1⟩
  go_enter Tryd.func10, Tryd.ntmps10
  go_wp2_with (go_at_call 22; refine (wakes04_any _).mono ?_; rintro e w1 ⟨rfl, hb1⟩)
  have HB1 := Lib.hid hb1
  clear hb1
  go_loopw [5, 6, 19] (fun v _ i wr => ∃ k m : Nat, k ≤ n ∧ m ≤ 100 * k ∧ Keep (m = (glue (ps.take k)).length) ∧ i = .int .i64 k ∧ wr.ownsRow w1.heap.size 5 1 v m ((glue (ps.take k)).flatMap encB) ∧ Below w1.heap.size w1 wr) (fun _ _ i _ => n - (intOf i).toNat)
  case atStart => exact ⟨0, 0, by omega, by omega, ⟨rfl⟩, rfl, World.ownsRow_nil _ _ _ _, Below.refl _ _⟩
  case round =>
    obtain ⟨k, m, hk, hm, hmg, rfl, hown, hb⟩ := hrel
    have haK : Arg wr 1 encP A n ca ps := (haH.out.below HB1.out).below (hb.mono (Nat.le_refl _))
    have hokK : PcsOk wr ps := (hokH.out.below HB1.out).below hb
    have HAK := Lib.hid haK
    have HOK := Lib.hid hokK
    have HKK := Lib.hid ((hkH.out.below HB1.out).below hb)
    have hlen := haK.hlen
    have HLen := Keep.mk hlen
    by_cases hlt : k < n
    · have hkl : k < ps.length := by omega
      obtain ⟨b, off, rfl, hbl, hc⟩ := haK.rd.pc (List.ne_nil_of_length_pos (by omega))
      have c0 := hc k hkl
      clear hc haK
      have hp := hokK ps[k] (List.getElem_mem hkl)
      have hpl := hp.hlen
      have hpc := hp.hcap
      have hpm := hp.hmax
      unfold maxLen at hpm
      have hsn := glue_snoc hkl
      have hsnH := Keep.mk hsn
      have hpH := Lib.hid hp
      have hpn := Lib.hid hp.hnil
      have hplH := Keep.mk hpl
      clear hsn hp hpl hokK hlen
      by_cases hbig : 100 < (ps[k]).n
      · go_wp2_with fail
        go_ret
        exact ⟨rfl, HB1.out.trans (hb.mono HB1.out.size)⟩
      · go_wp2_with (at_builtin; go_loud (refine wpList_append_rd rfl _ _ 22 rfl w1.heap.size 5 i0 (.int .u8 0) 1 1 Tryd.underlying22 hi hz0 hz1 hz2 rfl (by decide) u5 m _ rfl hown ps[k].A ps[k].n ps[k].c _ encB ps[k].l rfl hpn.out hplH.out encB_length hpH.out.rd encBOne (by simp only [maxLen]; omega) (by omega) hb.size ?_); intro v1 w2 hown1 hgrow1 hat1)
        have HO := Lib.hid hown1
        have HG := Lib.hid hgrow1
        clear hown1 hgrow1 hat1
        go_roundw
        case rel =>
          refine ⟨k + 1, m + ps[k].n, by omega, by omega, ⟨?_⟩, by go_num, ?_, hb.grown HG.out hb.size (fun j e => (hown.lt j e).1)⟩
          · rw [hsnH.out, List.length_append, ← hmg.out, hplH.out]
          · rw [hsnH.out, List.flatMap_append]
            exact HO.out
        case measure => simp [intOf]; omega
    · have hkk : k = n := by omega
      have hfull : ps.take k = ps := List.take_of_length_le (by omega)
      rw [hfull] at hmg hown
      obtain ⟨A', c', rfl, ha'⟩ := Arg.of_own (by decide) encB_length hown
      have HA' := Lib.hid ha'
      have hm3 : (glue ps).length ≤ 2000 := by have := hmg.out; omega
      have HO := Lib.hid hown
      have hB := Lib.hid hb
      clear ha' hown hb haK hokK hlen hfull hkk
      go_wp2_with fail
      refine (hmOf_any Ak nk ck K A n ca ps wr HKK.out hKbH.out (by omega) HAK.out HOK.out (by omega) (by omega) hbyH.out).mono ?_
      rintro e w2 ⟨rfl, hb2⟩
      obtain ⟨D, hD⟩ : ∃ D, hmB K (glue ps) = D := ⟨_, rfl⟩
      have HD := Keep.mk hD
      have hDl : D.length = 32 := by rw [← hD, hmB_length]
      have HDl := Keep.mk hDl
      rw [hD]
      clear hD hDl
      go_wp2_with fail
      refine (hm_new Ak nk ck K w2 _ 1 [⟨A', m, c', glue ps⟩] (glue ps) rfl rfl (HKK.out.below hb2) hKbH.out (by omega) (PcsOk.one (HA'.out.below hb2)) (glue_one _ _ _ _) (by omega) (by omega) hbyH.out).mono ?_
      rintro e w3 ⟨rfl, hb3⟩
      rw [HD.out]
      go_wp2_with (first
        | (refine wpList_eql_arr rfl 24 _ _ _ rfl 5 32 .u8 Tryd.underlying24 Tryd.underlying5 infoB1 eqGuard32 D HDl.out rfl rfl ?_)
        | fail)
      go_ret
      exact ⟨rfl, HB1.out.trans ((hB.out.trans ((hb2.trans (hb3.mono hb2.size)).mono hB.out.size)).mono HB1.out.size)⟩
end Go.Proofs.YtkcmemhoabadaaaDoor
