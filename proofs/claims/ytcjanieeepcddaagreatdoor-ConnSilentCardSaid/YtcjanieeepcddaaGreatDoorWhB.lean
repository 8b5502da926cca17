/-
  The contract of nested.step where a middle list is laid anew.
-/
import Derived.Test.YtcjanieeepcddaaGreatDoorWhE
namespace Go.Proofs.YtcjanieeepcddaaGreatDoor
open Go.RowKit

set_option maxHeartbeats 1600000 in
theorem step_B (base b m : Nat) (S : Nat → Value) (N : Nat → List Due) (now : Int) (w : World) (h : WSt w base b m S N now) (hbase : base ≤ w.heap.size)
    (hn : 0 ≤ now) (hn2 : now < 2305843009213693952) (Kb : Nat) (hK : ∀ i, (N i).length ≤ Kb) (hK2 : 2 * Kb ≤ 1000000) (hT : ∀ i, ∀ d ∈ N i, 0 ≤ d.2 ∧ d.2 < 4611686018427387904) (h16 : (now + 1) % 16 = 0) (k2 : (now + 1) % 256 ≠ 0) :
    Calls Tryz.prog 80 #[.pointer (some ⟨b, 0, none⟩)] w fun e w' => ∃ A n c S', e = .returned (.slice A n c) ∧ Stepped w w' base b m S N (now + 1) A n c S' := by
  have HH := Lib.hid h
  have HK := Lib.hid hK
  have HT := Lib.hid hT
  have c49 := h.tickC
  have f49 := h.free 49
  clear h hK hT
  obtain ⟨n, hne⟩ : ∃ n, now + 1 = n := ⟨_, rfl⟩
  have hw : wrap64 n = n := by unfold wrap64; omega
  have hw3 : IntKind.i64.wrap (n / 16) = n / 16 := IntWalk.i64_in _ (by omega)
  have t1 : n.tmod 4096 = n % 4096 := Int.tmod_eq_emod_of_nonneg (by omega)
  have t2 : n.tmod 256 = n % 256 := Int.tmod_eq_emod_of_nonneg (by omega)
  have t3 : n.tmod 16 = n % 16 := Int.tmod_eq_emod_of_nonneg (by omega)
  have t4 : n.tdiv 16 = n / 16 := Int.tdiv_eq_ediv_of_nonneg (by omega)
  have hn3 : 0 ≤ n := by omega
  have hn4 : n < 4611686018427387904 := by omega
  rw [hne] at h16 k2 ⊢
  have k1 : n % 4096 ≠ 0 := by omega
  go_enter Tryz.func80, Tryz.ntmps80
  go_wp2_with fail
  have hq : (n % 16).toNat < 49 := by omega
  have hi : (16 + (n / 16 % 16).toNat) < 49 := by omega
  have H1 := Lib.hid (HH.out.ticked n)
  generalize hW1 : w.setCell ⟨b, 49, none⟩ (.int .i64 n) = w1 at *
  have HW1 := Keep.mk hW1
  obtain ⟨A1, c1', hv1⟩ : ∃ A c, S (16 + (n / 16 % 16).toNat) = .slice A (N (16 + (n / 16 % 16).toNat)).length c := by obtain ⟨A, c, e, _⟩ := own_slice (H1.out.rows _ hi); exact ⟨A, c, e⟩
  have c1 := H1.out.tickC
  have hb1 : base ≤ w1.heap.size := by rw [← hW1]; simpa using hbase
  have hci := (H1.out.drew 1).cell _ hi
  rw [hv1] at hci
  have HCI := Keep.mk hci
  have HFI := Keep.mk ((H1.out.drew 1).free (16 + (n / 16 % 16).toNat))
  have HTK := Lib.hid ((H1.out.drew 1).taken hi)
  have HCK := Keep.mk HTK.out.tickC
  have HRD := Lib.hid (taken_rd (H1.out.drew 1) hi hv1)
  have hbT : base ≤ ((w1.drewN 1).setCell ⟨b, 16 + (n / 16 % 16).toNat, none⟩ (.slice none 0 0)).heap.size := by simpa using hb1
  have HBT := Keep.mk hbT
  have HV1 := Keep.mk hv1
  have htI := HT.out (16 + (n / 16 % 16).toNat)
  have HTI := Lib.hid htI
  have hp16 : 0 ≤ n / 16 := by omega
  have hKp : ∀ j, (put N (16 + (n / 16 % 16).toNat) [] j).length ≤ Kb := fun j => by
    by_cases e : j = (16 + (n / 16 % 16).toNat)
    · subst e; rw [put_same]; simp
    · rw [put_other _ _ e]; exact HK.out j
  have HKP := Lib.hid hKp
  have HKL : Keep (Kb + (N (16 + (n / 16 % 16).toNat)).length ≤ 1000000) := ⟨by have := HK.out (16 + (n / 16 % 16).toNat); omega⟩
  clear c49 f49 hW1 hv1 hci hbT htI hKp
  refine wp_region_noPanic ?_
  refine wp_region_held_drew (S := fun W => W.cell? ⟨b, 49, none⟩ = some (.int .i64 n)) (by kernel_rfl) c1 (fun hHeld => ?_)
  refine wpAnyH_take (i := 0) (v := ?_) rfl (by kernel_rfl) (by kernel_rfl) (by kernel_rfl) (fun _ _ _ h => h) (Or.inl ⟨by rfl, ?_⟩) (by assumption) ?_
  rotate_left
  · intro w hSw; go_simp; (try with_reducible rfl)
  try simp only [Act.put, List.setIfInBounds_toArray, List.set_cons_zero, List.set_cons_succ, List.getElem_toArray, List.getElem_cons_zero, List.getElem_cons_succ]
  refine wpAnyH_take (i := 1) (v := ?_) rfl (by kernel_rfl) (by kernel_rfl) (by kernel_rfl) (fun _ _ _ h => h) (Or.inl ⟨by rfl, ?_⟩) (by assumption) ?_
  rotate_left
  · intro w hSw; go_simp; (try with_reducible rfl)
  try simp only [Act.put, List.setIfInBounds_toArray, List.set_cons_zero, List.set_cons_succ, List.getElem_toArray, List.getElem_cons_zero, List.getElem_cons_succ]
  refine wpAnyH_take (i := 2) (v := ?_) rfl (by kernel_rfl) (by kernel_rfl) (by kernel_rfl) (fun _ _ _ h => h) (Or.inl ⟨by rfl, ?_⟩) (by assumption) ?_
  rotate_left
  · intro w hSw; go_simp; (try with_reducible rfl)
  try simp only [Act.put, List.setIfInBounds_toArray, List.set_cons_zero, List.set_cons_succ, List.getElem_toArray, List.getElem_cons_zero, List.getElem_cons_succ]
  refine wpAnyH_take (i := 3) (v := ?_) rfl (by kernel_rfl) (by kernel_rfl) (by kernel_rfl) (fun _ _ _ h => h) (Or.inl ⟨by rfl, ?_⟩) (by assumption) ?_
  rotate_left
  · intro w hSw; go_simp; (try with_reducible rfl)
  try simp only [Act.put, List.setIfInBounds_toArray, List.set_cons_zero, List.set_cons_succ, List.getElem_toArray, List.getElem_cons_zero, List.getElem_cons_succ]
  refine wpAnyH_take (i := 4) (v := ?_) rfl (by kernel_rfl) (by kernel_rfl) (by kernel_rfl) (fun _ _ _ h => h) (Or.inl ⟨by rfl, ?_⟩) (by assumption) ?_
  rotate_left
  · intro w hSw; go_simp; (try with_reducible rfl)
  try simp only [Act.put, List.setIfInBounds_toArray, List.set_cons_zero, List.set_cons_succ, List.getElem_toArray, List.getElem_cons_zero, List.getElem_cons_succ]
  refine wpAnyH_take (i := 5) (v := ?_) rfl (by kernel_rfl) (by kernel_rfl) (by kernel_rfl) (fun _ _ _ h => h) (Or.inl ⟨by rfl, ?_⟩) (by assumption) ?_
  rotate_left
  · intro w hSw; go_simp; (try with_reducible rfl)
  try simp only [Act.put, List.setIfInBounds_toArray, List.set_cons_zero, List.set_cons_succ, List.getElem_toArray, List.getElem_cons_zero, List.getElem_cons_succ]
  refine wpAnyH_take (i := 6) (v := ?_) rfl (by kernel_rfl) (by kernel_rfl) (by kernel_rfl) (fun _ _ _ h => h) (Or.inl ⟨by rfl, ?_⟩) (by assumption) ?_
  rotate_left
  · intro w hSw; go_simp; (try with_reducible rfl)
  try simp only [Act.put, List.setIfInBounds_toArray, List.set_cons_zero, List.set_cons_succ, List.getElem_toArray, List.getElem_cons_zero, List.getElem_cons_succ]
  refine wpAnyH_take (i := 7) (v := ?_) rfl (by kernel_rfl) (by kernel_rfl) (by kernel_rfl) (fun _ _ _ h => h) (Or.inl ⟨by rfl, ?_⟩) (by assumption) ?_
  rotate_left
  · intro w hSw; go_simp; (try with_reducible rfl)
  try simp only [Act.put, List.setIfInBounds_toArray, List.set_cons_zero, List.set_cons_succ, List.getElem_toArray, List.getElem_cons_zero, List.getElem_cons_succ]
  refine wpAnyH_take (i := 8) (v := ?_) rfl (by kernel_rfl) (by kernel_rfl) (by kernel_rfl) (fun _ _ _ h => h) (Or.inl ⟨by rfl, ?_⟩) (by assumption) ?_
  rotate_left
  · intro w hSw; go_simp; (try with_reducible rfl)
  try simp only [Act.put, List.setIfInBounds_toArray, List.set_cons_zero, List.set_cons_succ, List.getElem_toArray, List.getElem_cons_zero, List.getElem_cons_succ]
  refine wpAnyH_ready (rs := [9]) (by kernel_rfl) (by simp) ?_
  refine AllReadyH.cons rfl (fun K hK => ?_) AllReadyH.nil
  go_simp
  refine (empty_any b 16 (n / 16) A1 _ c1' _ hp16 HCI.out HFI.out).mono ?_
  rintro e w' ⟨rfl, rfl⟩
  refine hK.out _ _ ?_ (fun hHeld => ?_)
  · exact HCK.out
  clear hK K
  try simp only [Act.put, List.setIfInBounds_toArray, List.set_cons_zero, List.set_cons_succ, List.getElem_toArray, List.getElem_cons_zero, List.getElem_cons_succ]
  refine wpAnyH_ready (rs := [10]) (by kernel_rfl) (by simp) ?_
  refine AllReadyH.cons rfl (fun K hK => ?_) AllReadyH.nil
  go_simp
  refine (lay_any base b m _ _ n A1 c1' (N (16 + (n / 16 % 16).toNat)) _ HTK.out HBT.out hn3 hn4 HTI.out Kb HKP.out HKL.out HRD.out).mono ?_
  rintro e w5 ⟨⟨u, rfl⟩, S5, h5, f5⟩
  have c5 := h5.tickC
  have H5 := Lib.hid h5
  have F5 := Lib.hid f5
  clear h5 f5
  refine hK.out _ _ ?_ (fun hHeld => ?_)
  · exact c5
  clear hHeld
  clear hK K
  try simp only [Act.put, List.setIfInBounds_toArray, List.set_cons_zero, List.set_cons_succ, List.getElem_toArray, List.getElem_cons_zero, List.getElem_cons_succ]
  refine wpAnyH_done (by kernel_rfl) ?_ _
  refine NoPanic.normal ?_
  clear HCI HFI HTK HCK HRD HBT HTI HKP HKL c1
  go_wp2_with fail
  have H16 := Keep.mk h16
  clear h16
  obtain ⟨Aq, nq, cq, hqv⟩ : ∃ A k c, S5 (n % 16).toNat = .slice A k c := by obtain ⟨A, c, e, _⟩ := own_slice (H5.out.rows _ hq); exact ⟨A, _, c, e⟩
  have HV := Keep.mk hqv
  clear hqv
  go_region_held3 (fun W => W.cell? ⟨b, 49, none⟩ = some (.int .i64 n))
    (first | go_keep | exact ((H5.out.drew 1).taken hq).tickC | assumption)
    (first | (go_at_call 135; refine (empty_any b 0 n Aq nq cq _ (by omega) (by rw [Nat.zero_add]; exact HV.out ▸ (H5.out.drew 1).cell _ hq) ((H5.out.drew 1).free _)).mono ?_; rintro e w' ⟨rfl, rfl⟩) | fail)
  go_wp2_with fail
  go_ret
  have hp : prep n N = layN n (put N (16 + (n / 16 % 16).toNat) []) (N (16 + (n / 16 % 16).toNat)) := by unfold prep again; rw [if_pos H16.out, if_neg k2, if_neg k1]
  exact ⟨Aq, nq, cq, _, rfl, stepped_of (by rw [hp]; exact H5.out.drew 1) (((HW1.out ▸ Fr.ticked w b S 49 _ : Fr w w1 b S S).trans (Fr.drew w1 b S 1)).trans ((Fr.appended (H1.out.drew 1) hi ⟨rfl, rfl, rfl, Nat.le_refl _, fun _ _ _ => rfl⟩ (.inl rfl)).trans (F5.out.trans (Fr.drew w5 b S5 1)))) HV.out⟩
end Go.Proofs.YtcjanieeepcddaaGreatDoor
