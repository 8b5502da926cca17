/-
  The contract of nested.step where what is far is laid anew; and of every step.
-/
import Derived.Test.YtcjanieeepcddaaGreatDoorWhC
namespace Go.Proofs.YtcjanieeepcddaaGreatDoor
open Go.RowKit

set_option maxHeartbeats 1600000 in
theorem step_D (base b m : Nat) (S : Nat → Value) (N : Nat → List Due) (now : Int) (w : World) (h : WSt w base b m S N now) (hbase : base ≤ w.heap.size)
    (hn : 0 ≤ now) (hn2 : now < 2305843009213693952) (Kb : Nat) (hK : ∀ i, (N i).length ≤ Kb) (hK2 : 8 * Kb ≤ 1000000) (hT : ∀ i, ∀ d ∈ N i, 0 ≤ d.2 ∧ d.2 < 4611686018427387904) (h4096 : (now + 1) % 4096 = 0) :
    Calls Tryz.prog 80 #[.pointer (some ⟨b, 0, none⟩)] w fun e w' => ∃ A n c S', e = .returned (.slice A n c) ∧ Stepped w w' base b m S N (now + 1) A n c S' := by
  have HH := Lib.hid h
  have HK1 := Lib.hid hK
  have HT1 := Lib.hid hT
  have c49 := h.tickC
  have f49 := h.free 49
  clear h hK hT
  obtain ⟨n, hne⟩ : ∃ n, now + 1 = n := ⟨_, rfl⟩
  have hw : wrap64 n = n := by unfold wrap64; omega
  have hw3 : IntKind.i64.wrap (n / 16) = n / 16 := IntWalk.i64_in _ (by omega)
  have hw4 : IntKind.i64.wrap (n / 16 / 16) = n / 16 / 16 := IntWalk.i64_in _ (by omega)
  have t1 : n.tmod 4096 = n % 4096 := Int.tmod_eq_emod_of_nonneg (by omega)
  have t2 : n.tmod 256 = n % 256 := Int.tmod_eq_emod_of_nonneg (by omega)
  have t3 : n.tmod 16 = n % 16 := Int.tmod_eq_emod_of_nonneg (by omega)
  have t4 : n.tdiv 16 = n / 16 := Int.tdiv_eq_ediv_of_nonneg (by omega)
  have t5 : (n / 16).tdiv 16 = n / 16 / 16 := Int.tdiv_eq_ediv_of_nonneg (by omega)
  have hn3 : 0 ≤ n := by omega
  have hn4 : n < 4611686018427387904 := by omega
  rw [hne] at h4096 ⊢
  have h16 : n % 16 = 0 := by omega
  have h256 : n % 256 = 0 := by omega
  go_enter Tryz.func80, Tryz.ntmps80
  have H1 := Lib.hid (HH.out.ticked n)
  have HB1 : Keep (base ≤ (w.setCell ⟨b, 49, none⟩ (.int .i64 n)).heap.size) := ⟨by simpa using hbase⟩
  have F1 := Lib.hid (Fr.ticked w b S 49 (.int .i64 n))
  obtain ⟨A8, b8, hv8⟩ : ∃ A c, S 48 = .slice A (N 48).length c := by obtain ⟨A, c, e, _⟩ := own_slice (HH.out.rows 48 (by omega)); exact ⟨A, c, e⟩
  have c48 := H1.out.cell 48 (by omega)
  rw [hv8] at c48
  have f48 := H1.out.free 48
  have HLT8 := Keep.mk (lay_taken base b m _ _ n _ A8 b8 _ H1.out (by omega) hv8 HB1.out hn3 hn4 HT1.out Kb HK1.out (by omega))
  have H4096 := Keep.mk h4096
  go_wp2_with (first
    | (go_at_call 118; refine HLT8.out.mono ?_; rintro e w9 ⟨⟨u, rfl⟩, S9, h9, f9⟩; have c9' := h9.tickC; have H9 := Lib.hid h9; have F9 := Lib.hid (F1.out.trans f9); have HB9 : Keep (base ≤ w9.heap.size) := ⟨Nat.le_trans HB1.out f9.size⟩; clear h9 f9)
    | fail)
  have HK9 := Lib.hid (relay_len HK1.out n 48)
  have HT9 := Lib.hid (relay_all HT1.out n 48)
  obtain ⟨N9, hN9⟩ : ∃ N9, relay n 48 N = N9 := ⟨_, rfl⟩
  rw [hN9] at H9 HK9 HT9
  have HN9 := Keep.mk hN9
  clear hN9 c49 f49 c48 f48 hv8 HLT8 c9' H1 HB1 F1 HK1 HT1 h4096
  have hi2 : (32 + (n / 16 / 16 % 16).toNat) < 49 := by omega
  obtain ⟨A2, b2, hv2⟩ : ∃ A c, S9 (32 + (n / 16 / 16 % 16).toNat) = .slice A (N9 (32 + (n / 16 / 16 % 16).toNat)).length c := by obtain ⟨A, c, e, _⟩ := own_slice (H9.out.rows _ hi2); exact ⟨A, c, e⟩
  have c2 := H9.out.tickC
  have hci2 := (H9.out.drew 1).cell _ hi2
  rw [hv2] at hci2
  have HCI2 := Keep.mk hci2
  have HFI2 := Keep.mk ((H9.out.drew 1).free (32 + (n / 16 / 16 % 16).toNat))
  have HCK2 := Keep.mk (((H9.out.drew 1).taken hi2).tickC)
  have HLT2 := Keep.mk (lay_taken base b m _ _ n _ A2 b2 _ (H9.out.drew 1) hi2 hv2 HB9.out hn3 hn4 HT9.out (2 * Kb) HK9.out (by omega))
  have hp2 : 0 ≤ n / 16 / 16 := by omega
  clear hv2 hci2
  refine wp_region_noPanic ?_
  refine wp_region_held_drew (S := fun W => W.cell? ⟨b, 49, none⟩ = some (.int .i64 n)) (by kernel_rfl) c2 (fun hHeld => ?_)
  refine wpAnyH_take (i := 0) (v := ?_) rfl (by kernel_rfl) (by kernel_rfl) (by kernel_rfl) (fun _ _ _ h => h) (Or.inl ⟨by rfl, ?_⟩) (by assumption) ?_
  rotate_left
  · intro w hSw; go_simp; (try with_reducible rfl)
  try simp only [Act.put, List.setIfInBounds_toArray, List.set_cons_zero, List.set_cons_succ, List.getElem_toArray, List.getElem_cons_zero, List.getElem_cons_succ]
  refine wpAnyH_take (i := 1) (v := ?_) rfl (by kernel_rfl) (by kernel_rfl) (by kernel_rfl) (fun _ _ _ h => h) (Or.inl ⟨by rfl, ?_⟩) (by assumption) ?_
  rotate_left
  · intro w hSw; go_simp; (try with_reducible rfl)
  try simp only [Act.put, List.setIfInBounds_toArray, List.set_cons_zero, List.set_cons_succ, List.getElem_toArray, List.getElem_cons_zero, List.getElem_cons_succ]
  refine wpAnyH_take (i := 2) (v := ?_) rfl (by kernel_rfl) (by kernel_rfl) (by kernel_rfl) (fun _ _ _ h => h) (Or.inl ⟨by rfl, ?_⟩) (by assumption) ?_
  rotate_left
  · intro w hSw; go_simp; (try with_reducible rfl)
  try simp only [Act.put, List.setIfInBounds_toArray, List.set_cons_zero, List.set_cons_succ, List.getElem_toArray, List.getElem_cons_zero, List.getElem_cons_succ]
  refine wpAnyH_take (i := 3) (v := ?_) rfl (by kernel_rfl) (by kernel_rfl) (by kernel_rfl) (fun _ _ _ h => h) (Or.inl ⟨by rfl, ?_⟩) (by assumption) ?_
  rotate_left
  · intro w hSw; go_simp; (try with_reducible rfl)
  try simp only [Act.put, List.setIfInBounds_toArray, List.set_cons_zero, List.set_cons_succ, List.getElem_toArray, List.getElem_cons_zero, List.getElem_cons_succ]
  refine wpAnyH_take (i := 4) (v := ?_) rfl (by kernel_rfl) (by kernel_rfl) (by kernel_rfl) (fun _ _ _ h => h) (Or.inl ⟨by rfl, ?_⟩) (by assumption) ?_
  rotate_left
  · intro w hSw; go_simp; (try with_reducible rfl)
  try simp only [Act.put, List.setIfInBounds_toArray, List.set_cons_zero, List.set_cons_succ, List.getElem_toArray, List.getElem_cons_zero, List.getElem_cons_succ]
  refine wpAnyH_take (i := 5) (v := ?_) rfl (by kernel_rfl) (by kernel_rfl) (by kernel_rfl) (fun _ _ _ h => h) (Or.inl ⟨by rfl, ?_⟩) (by assumption) ?_
  rotate_left
  · intro w hSw; go_simp; (try with_reducible rfl)
  try simp only [Act.put, List.setIfInBounds_toArray, List.set_cons_zero, List.set_cons_succ, List.getElem_toArray, List.getElem_cons_zero, List.getElem_cons_succ]
  refine wpAnyH_take (i := 6) (v := ?_) rfl (by kernel_rfl) (by kernel_rfl) (by kernel_rfl) (fun _ _ _ h => h) (Or.inl ⟨by rfl, ?_⟩) (by assumption) ?_
  rotate_left
  · intro w hSw; go_simp; (try with_reducible rfl)
  try simp only [Act.put, List.setIfInBounds_toArray, List.set_cons_zero, List.set_cons_succ, List.getElem_toArray, List.getElem_cons_zero, List.getElem_cons_succ]
  refine wpAnyH_take (i := 7) (v := ?_) rfl (by kernel_rfl) (by kernel_rfl) (by kernel_rfl) (fun _ _ _ h => h) (Or.inl ⟨by rfl, ?_⟩) (by assumption) ?_
  rotate_left
  · intro w hSw; go_simp; (try with_reducible rfl)
  try simp only [Act.put, List.setIfInBounds_toArray, List.set_cons_zero, List.set_cons_succ, List.getElem_toArray, List.getElem_cons_zero, List.getElem_cons_succ]
  refine wpAnyH_take (i := 8) (v := ?_) rfl (by kernel_rfl) (by kernel_rfl) (by kernel_rfl) (fun _ _ _ h => h) (Or.inl ⟨by rfl, ?_⟩) (by assumption) ?_
  rotate_left
  · intro w hSw; go_simp; (try with_reducible rfl)
  try simp only [Act.put, List.setIfInBounds_toArray, List.set_cons_zero, List.set_cons_succ, List.getElem_toArray, List.getElem_cons_zero, List.getElem_cons_succ]
  refine wpAnyH_take (i := 9) (v := ?_) rfl (by kernel_rfl) (by kernel_rfl) (by kernel_rfl) (fun _ _ _ h => h) (Or.inl ⟨by rfl, ?_⟩) (by assumption) ?_
  rotate_left
  · intro w hSw; go_simp; (try with_reducible rfl)
  try simp only [Act.put, List.setIfInBounds_toArray, List.set_cons_zero, List.set_cons_succ, List.getElem_toArray, List.getElem_cons_zero, List.getElem_cons_succ]
  refine wpAnyH_ready (rs := [10]) (by kernel_rfl) (by simp) ?_
  refine AllReadyH.cons rfl (fun K hK => ?_) AllReadyH.nil
  go_simp
  refine (empty_any b 32 (n / 16 / 16) A2 _ b2 _ hp2 HCI2.out HFI2.out).mono ?_
  rintro e w' ⟨rfl, rfl⟩
  refine hK.out _ _ ?_ (fun hHeld => ?_)
  · exact HCK2.out
  clear hK K
  try simp only [Act.put, List.setIfInBounds_toArray, List.set_cons_zero, List.set_cons_succ, List.getElem_toArray, List.getElem_cons_zero, List.getElem_cons_succ]
  refine wpAnyH_ready (rs := [11]) (by kernel_rfl) (by simp) ?_
  refine AllReadyH.cons rfl (fun K hK => ?_) AllReadyH.nil
  go_simp
  refine HLT2.out.mono ?_
  rintro e w2 ⟨⟨u, rfl⟩, S2, h2, f2⟩
  have c2' := h2.tickC
  have H2 := Lib.hid h2
  have HB2 : Keep (base ≤ w2.heap.size) := ⟨Nat.le_trans HB9.out f2.size⟩
  have F2 := Lib.hid (F9.out.trans ((Fr.drew w9 b S9 1).trans f2))
  clear h2 f2
  refine hK.out _ _ ?_ (fun hHeld => ?_)
  · exact c2'
  clear hHeld
  clear hK K
  try simp only [Act.put, List.setIfInBounds_toArray, List.set_cons_zero, List.set_cons_succ, List.getElem_toArray, List.getElem_cons_zero, List.getElem_cons_succ]
  refine wpAnyH_done (by kernel_rfl) ?_ _
  refine NoPanic.normal ?_
  clear c2' c2 HCI2 HFI2 HCK2 HLT2
  have H256 := Keep.mk h256
  clear h256
  have cc2 := H2.out.tickC
  have HK2 := Lib.hid (relay_len HK9.out n (32 + (n / 16 / 16 % 16).toNat))
  have HT2 := Lib.hid (relay_all HT9.out n (32 + (n / 16 / 16 % 16).toNat))
  go_wp2_with fail
  have hi3 : (16 + (n / 16 % 16).toNat) < 49 := by omega
  obtain ⟨A3, b3, hv3⟩ : ∃ A c, S2 (16 + (n / 16 % 16).toNat) = .slice A ((relay n (32 + (n / 16 / 16 % 16).toNat) N9) (16 + (n / 16 % 16).toNat)).length c := by obtain ⟨A, c, e, _⟩ := own_slice (H2.out.rows _ hi3); exact ⟨A, c, e⟩
  have c3 := H2.out.tickC
  have hci3 := (H2.out.drew 1).cell _ hi3
  rw [hv3] at hci3
  have HCI3 := Keep.mk hci3
  have HFI3 := Keep.mk ((H2.out.drew 1).free (16 + (n / 16 % 16).toNat))
  have HCK3 := Keep.mk (((H2.out.drew 1).taken hi3).tickC)
  have HLT3 := Keep.mk (lay_taken base b m _ _ n _ A3 b3 _ (H2.out.drew 1) hi3 hv3 HB2.out hn3 hn4 HT2.out (2 * (2 * Kb)) HK2.out (by omega))
  have hp3 : 0 ≤ n / 16 := by omega
  clear hv3 hci3
  refine wp_region_noPanic ?_
  refine wp_region_held_drew (S := fun W => W.cell? ⟨b, 49, none⟩ = some (.int .i64 n)) (by kernel_rfl) c3 (fun hHeld => ?_)
  refine wpAnyH_take (i := 0) (v := ?_) rfl (by kernel_rfl) (by kernel_rfl) (by kernel_rfl) (fun _ _ _ h => h) (Or.inl ⟨by rfl, ?_⟩) (by assumption) ?_
  rotate_left
  · intro w hSw; go_simp; (try with_reducible rfl)
  try simp only [Act.put, List.setIfInBounds_toArray, List.set_cons_zero, List.set_cons_succ, List.getElem_toArray, List.getElem_cons_zero, List.getElem_cons_succ]
  refine wpAnyH_take (i := 1) (v := ?_) rfl (by kernel_rfl) (by kernel_rfl) (by kernel_rfl) (fun _ _ _ h => h) (Or.inl ⟨by rfl, ?_⟩) (by assumption) ?_
  rotate_left
  · intro w hSw; go_simp; (try with_reducible rfl)
  try simp only [Act.put, List.setIfInBounds_toArray, List.set_cons_zero, List.set_cons_succ, List.getElem_toArray, List.getElem_cons_zero, List.getElem_cons_succ]
  refine wpAnyH_take (i := 2) (v := ?_) rfl (by kernel_rfl) (by kernel_rfl) (by kernel_rfl) (fun _ _ _ h => h) (Or.inl ⟨by rfl, ?_⟩) (by assumption) ?_
  rotate_left
  · intro w hSw; go_simp; (try with_reducible rfl)
  try simp only [Act.put, List.setIfInBounds_toArray, List.set_cons_zero, List.set_cons_succ, List.getElem_toArray, List.getElem_cons_zero, List.getElem_cons_succ]
  refine wpAnyH_take (i := 3) (v := ?_) rfl (by kernel_rfl) (by kernel_rfl) (by kernel_rfl) (fun _ _ _ h => h) (Or.inl ⟨by rfl, ?_⟩) (by assumption) ?_
  rotate_left
  · intro w hSw; go_simp; (try with_reducible rfl)
  try simp only [Act.put, List.setIfInBounds_toArray, List.set_cons_zero, List.set_cons_succ, List.getElem_toArray, List.getElem_cons_zero, List.getElem_cons_succ]
  refine wpAnyH_take (i := 4) (v := ?_) rfl (by kernel_rfl) (by kernel_rfl) (by kernel_rfl) (fun _ _ _ h => h) (Or.inl ⟨by rfl, ?_⟩) (by assumption) ?_
  rotate_left
  · intro w hSw; go_simp; (try with_reducible rfl)
  try simp only [Act.put, List.setIfInBounds_toArray, List.set_cons_zero, List.set_cons_succ, List.getElem_toArray, List.getElem_cons_zero, List.getElem_cons_succ]
  refine wpAnyH_take (i := 5) (v := ?_) rfl (by kernel_rfl) (by kernel_rfl) (by kernel_rfl) (fun _ _ _ h => h) (Or.inl ⟨by rfl, ?_⟩) (by assumption) ?_
  rotate_left
  · intro w hSw; go_simp; (try with_reducible rfl)
  try simp only [Act.put, List.setIfInBounds_toArray, List.set_cons_zero, List.set_cons_succ, List.getElem_toArray, List.getElem_cons_zero, List.getElem_cons_succ]
  refine wpAnyH_take (i := 6) (v := ?_) rfl (by kernel_rfl) (by kernel_rfl) (by kernel_rfl) (fun _ _ _ h => h) (Or.inl ⟨by rfl, ?_⟩) (by assumption) ?_
  rotate_left
  · intro w hSw; go_simp; (try with_reducible rfl)
  try simp only [Act.put, List.setIfInBounds_toArray, List.set_cons_zero, List.set_cons_succ, List.getElem_toArray, List.getElem_cons_zero, List.getElem_cons_succ]
  refine wpAnyH_take (i := 7) (v := ?_) rfl (by kernel_rfl) (by kernel_rfl) (by kernel_rfl) (fun _ _ _ h => h) (Or.inl ⟨by rfl, ?_⟩) (by assumption) ?_
  rotate_left
  · intro w hSw; go_simp; (try with_reducible rfl)
  try simp only [Act.put, List.setIfInBounds_toArray, List.set_cons_zero, List.set_cons_succ, List.getElem_toArray, List.getElem_cons_zero, List.getElem_cons_succ]
  refine wpAnyH_take (i := 8) (v := ?_) rfl (by kernel_rfl) (by kernel_rfl) (by kernel_rfl) (fun _ _ _ h => h) (Or.inl ⟨by rfl, ?_⟩) (by assumption) ?_
  rotate_left
  · intro w hSw; go_simp; (try with_reducible rfl)
  try simp only [Act.put, List.setIfInBounds_toArray, List.set_cons_zero, List.set_cons_succ, List.getElem_toArray, List.getElem_cons_zero, List.getElem_cons_succ]
  refine wpAnyH_ready (rs := [9]) (by kernel_rfl) (by simp) ?_
  refine AllReadyH.cons rfl (fun K hK => ?_) AllReadyH.nil
  go_simp
  refine (empty_any b 16 (n / 16) A3 _ b3 _ hp3 HCI3.out HFI3.out).mono ?_
  rintro e w' ⟨rfl, rfl⟩
  refine hK.out _ _ ?_ (fun hHeld => ?_)
  · exact HCK3.out
  clear hK K
  try simp only [Act.put, List.setIfInBounds_toArray, List.set_cons_zero, List.set_cons_succ, List.getElem_toArray, List.getElem_cons_zero, List.getElem_cons_succ]
  refine wpAnyH_ready (rs := [10]) (by kernel_rfl) (by simp) ?_
  refine AllReadyH.cons rfl (fun K hK => ?_) AllReadyH.nil
  go_simp
  refine HLT3.out.mono ?_
  rintro e w3 ⟨⟨u, rfl⟩, S3, h3, f3⟩
  have c3' := h3.tickC
  have H3 := Lib.hid h3
  have HB3 : Keep (base ≤ w3.heap.size) := ⟨Nat.le_trans HB2.out f3.size⟩
  have F3 := Lib.hid (F2.out.trans ((Fr.drew w2 b S2 1).trans f3))
  clear h3 f3
  refine hK.out _ _ ?_ (fun hHeld => ?_)
  · exact c3'
  clear hHeld
  clear hK K
  try simp only [Act.put, List.setIfInBounds_toArray, List.set_cons_zero, List.set_cons_succ, List.getElem_toArray, List.getElem_cons_zero, List.getElem_cons_succ]
  refine wpAnyH_done (by kernel_rfl) ?_ _
  refine NoPanic.normal ?_
  clear c3' c3 HCI3 HFI3 HCK3 HLT3
  have H16 := Keep.mk h16
  clear h16
  go_wp2_with fail
  have hq : (n % 16).toNat < 49 := by omega
  obtain ⟨Aq, nq, cq, hqv⟩ : ∃ A k c, S3 (n % 16).toNat = .slice A k c := by obtain ⟨A, c, e, _⟩ := own_slice (H3.out.rows _ hq); exact ⟨A, _, c, e⟩
  have HV := Keep.mk hqv
  have c1 := H3.out.tickC
  clear hqv
  go_region_held3 (fun W => W.cell? ⟨b, 49, none⟩ = some (.int .i64 n))
    (first | go_keep | exact ((H3.out.drew 1).taken hq).tickC | assumption)
    (first | (go_at_call 135; refine (empty_any b 0 n Aq nq cq _ (by omega) (by rw [Nat.zero_add]; exact HV.out ▸ (H3.out.drew 1).cell _ hq) ((H3.out.drew 1).free _)).mono ?_; rintro e w' ⟨rfl, rfl⟩) | fail)
  go_wp2_with fail
  go_ret
  have hp : prep n N = relay n (16 + (n / 16 % 16).toNat) (relay n (32 + (n / 16 / 16 % 16).toNat) N9) := by rw [← HN9.out]; unfold prep again; rw [if_pos H16.out, if_pos H256.out, if_pos H4096.out]; rfl
  exact ⟨Aq, nq, cq, _, rfl, stepped_of (by rw [hp]; exact H3.out.drew 1) (F3.out.trans (Fr.drew w3 b S3 1)) HV.out⟩

theorem step_any (base b m : Nat) (S : Nat → Value) (N : Nat → List Due) (now : Int) (w : World) (h : WSt w base b m S N now) (hbase : base ≤ w.heap.size)
    (hn : 0 ≤ now) (hn2 : now < 2305843009213693952) (Kb : Nat) (hK : ∀ i, (N i).length ≤ Kb) (hK2 : 8 * Kb ≤ 1000000) (hT : ∀ i, ∀ d ∈ N i, 0 ≤ d.2 ∧ d.2 < 4611686018427387904) :
    Calls Tryz.prog 80 #[.pointer (some ⟨b, 0, none⟩)] w fun e w' => ∃ A n c S', e = .returned (.slice A n c) ∧ Stepped w w' base b m S N (now + 1) A n c S' := by
  by_cases h16 : (now + 1) % 16 = 0
  · by_cases h256 : (now + 1) % 256 = 0
    · by_cases h4096 : (now + 1) % 4096 = 0
      · exact step_D base b m S N now w h hbase hn hn2 Kb hK hK2 hT h4096
      · exact step_C base b m S N now w h hbase hn hn2 Kb hK hK2 hT h256 h4096
    · exact step_B base b m S N now w h hbase hn hn2 Kb hK (by omega) hT h16 h256
  · exact step_A base b m S N now w h hbase hn hn2 Kb hK h16
end Go.Proofs.YtcjanieeepcddaaGreatDoor
