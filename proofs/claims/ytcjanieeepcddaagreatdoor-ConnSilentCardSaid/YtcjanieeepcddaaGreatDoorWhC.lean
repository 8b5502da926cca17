/-
  The contract of nested.step where outer lists are laid anew.
-/
import Derived.Test.YtcjanieeepcddaaGreatDoorWhB
namespace Go.Proofs.YtcjanieeepcddaaGreatDoor
open Go.RowKit

theorem layN_all (p : Due → Prop) (now : Int) : ∀ (l : List Due) (N : Nat → List Due), (∀ i, ∀ d ∈ N i, p d) → (∀ d ∈ l, p d) → ∀ i, ∀ d ∈ layN now N l i, p d
  | [], _, h, _ => h
  | x :: r, N, h, hl => layN_all p now r _ (fun i d hd => by
      by_cases e : i = pl now x.2
      · subst e
        rw [put_same, List.mem_append] at hd
        rcases hd with hd | hd
        · exact h _ d hd
        · simp only [List.mem_singleton] at hd; subst hd; exact hl _ List.mem_cons_self
      · rw [put_other _ _ e] at hd; exact h i d hd) (fun d hd => hl d (List.mem_cons_of_mem _ hd))

/-- A list is taken, and laid anew. -/
def relay (now : Int) (i : Nat) (N : Nat → List Due) : Nat → List Due := layN now (put N i []) (N i)
theorem put_len {N : Nat → List Due} {K : Nat} (h : ∀ i, (N i).length ≤ K) (i : Nat) : ∀ j, (put N i [] j).length ≤ K := fun j => by
  by_cases e : j = i
  · subst e; rw [put_same]; simp
  · rw [put_other _ _ e]; exact h j
theorem relay_len {N : Nat → List Due} {K : Nat} (h : ∀ i, (N i).length ≤ K) (now : Int) (i : Nat) : ∀ j, (relay now i N j).length ≤ 2 * K := fun j => by
  have := layN_length now K (N i) _ (put_len h i) j
  have := h i
  unfold relay
  omega
theorem relay_all {p : Due → Prop} {N : Nat → List Due} (h : ∀ i, ∀ d ∈ N i, p d) (now : Int) (i : Nat) : ∀ j, ∀ d ∈ relay now i N j, p d :=
  layN_all p now (N i) _ (fun j d hd => by
    by_cases e : j = i
    · subst e; rw [put_same] at hd; cases hd
    · rw [put_other _ _ e] at hd; exact h j d hd) (h i)
theorem lay_taken (base b m : Nat) (S : Nat → Value) (N : Nat → List Due) (now : Int) (i : Nat) (A : Option Addr) (c : Nat) (w : World) (h : WSt w base b m S N now) (hi : i < 49) (hv : S i = .slice A (N i).length c) (hbase : base ≤ w.heap.size)
    (hn : 0 ≤ now) (hn2 : now < 4611686018427387904) (hT : ∀ i, ∀ d ∈ N i, 0 ≤ d.2 ∧ d.2 < 4611686018427387904) (K : Nat) (hK : ∀ i, (N i).length ≤ K) (hK2 : 2 * K ≤ 1000000) :
    Calls Tryz.prog 118 #[.pointer (some ⟨b, 0, none⟩), .slice A (N i).length c] (w.setCell ⟨b, i, none⟩ (.slice none 0 0)) fun e w' => (∃ u, e = .returned u) ∧ ∃ S', WSt w' base b m S' (relay now i N) now ∧ Fr w w' b S S' := by
  refine (lay_any base b m _ _ now A c (N i) _ (h.taken hi) (by simpa using hbase) hn hn2 (hT i) K (put_len hK i) (by have := hK i; omega) (taken_rd h hi hv)).mono ?_
  rintro e w' ⟨hu, S', hst, hf⟩
  exact ⟨hu, S', hst, (Fr.appended h hi ⟨rfl, rfl, rfl, Nat.le_refl _, fun _ _ _ => rfl⟩ (.inl rfl)).trans hf⟩

set_option maxHeartbeats 1600000 in
theorem step_C (base b m : Nat) (S : Nat → Value) (N : Nat → List Due) (now : Int) (w : World) (h : WSt w base b m S N now) (hbase : base ≤ w.heap.size)
    (hn : 0 ≤ now) (hn2 : now < 2305843009213693952) (Kb : Nat) (hK : ∀ i, (N i).length ≤ Kb) (hK2 : 8 * Kb ≤ 1000000) (hT : ∀ i, ∀ d ∈ N i, 0 ≤ d.2 ∧ d.2 < 4611686018427387904) (h256 : (now + 1) % 256 = 0) (k1 : (now + 1) % 4096 ≠ 0) :
    Calls Tryz.prog 80 #[.pointer (some ⟨b, 0, none⟩)] w fun e w' => ∃ A n c S', e = .returned (.slice A n c) ∧ Stepped w w' base b m S N (now + 1) A n c S' := by
  have HH := Lib.hid h
  have HK1 := Lib.hid hK
  have HT1 := Lib.hid hT
  have c49 := h.tickC
  have f49 := h.free 49
  clear h hK hT
  obtain ⟨n, hne⟩ : ∃ n, now + 1 = n := ⟨_, rfl⟩
  have hw : wrap64 n = n := by unfold wrap64; omega
  have hw3 : IntKind.i64.wrap (n / 16) = n / 16 := IntWalk.i64_in _ (by omega)
  have hw4 : IntKind.i64.wrap (n / 16 / 16) = n / 16 / 16 := IntWalk.i64_in _ (by omega)
  have t1 : n.tmod 4096 = n % 4096 := Int.tmod_eq_emod_of_nonneg (by omega)
  have t2 : n.tmod 256 = n % 256 := Int.tmod_eq_emod_of_nonneg (by omega)
  have t3 : n.tmod 16 = n % 16 := Int.tmod_eq_emod_of_nonneg (by omega)
  have t4 : n.tdiv 16 = n / 16 := Int.tdiv_eq_ediv_of_nonneg (by omega)
  have t5 : (n / 16).tdiv 16 = n / 16 / 16 := Int.tdiv_eq_ediv_of_nonneg (by omega)
  have hn3 : 0 ≤ n := by omega
  have hn4 : n < 4611686018427387904 := by omega
  rw [hne] at h256 k1 ⊢
  have h16 : n % 16 = 0 := by omega
  go_enter Tryz.func80, Tryz.ntmps80
  go_wp2_with fail
  have H1 := Lib.hid (HH.out.ticked n)
  have HB1 : Keep (base ≤ (w.setCell ⟨b, 49, none⟩ (.int .i64 n)).heap.size) := ⟨by simpa using hbase⟩
  have F1 := Lib.hid (Fr.ticked w b S 49 (.int .i64 n))
  generalize hW1 : w.setCell ⟨b, 49, none⟩ (.int .i64 n) = w1 at *
  clear c49 f49 hW1
  have hi2 : (32 + (n / 16 / 16 % 16).toNat) < 49 := by omega
  obtain ⟨A2, b2, hv2⟩ : ∃ A c, S (32 + (n / 16 / 16 % 16).toNat) = .slice A (N (32 + (n / 16 / 16 % 16).toNat)).length c := by obtain ⟨A, c, e, _⟩ := own_slice (H1.out.rows _ hi2); exact ⟨A, c, e⟩
  have c2 := H1.out.tickC
  have hci2 := (H1.out.drew 1).cell _ hi2
  rw [hv2] at hci2
  have HCI2 := Keep.mk hci2
  have HFI2 := Keep.mk ((H1.out.drew 1).free (32 + (n / 16 / 16 % 16).toNat))
  have HCK2 := Keep.mk (((H1.out.drew 1).taken hi2).tickC)
  have HLT2 := Keep.mk (lay_taken base b m _ _ n _ A2 b2 _ (H1.out.drew 1) hi2 hv2 HB1.out hn3 hn4 HT1.out Kb HK1.out (by omega))
  have hp2 : 0 ≤ n / 16 / 16 := by omega
  clear hv2 hci2
  refine wp_region_noPanic ?_
  refine wp_region_held_drew (S := fun W => W.cell? ⟨b, 49, none⟩ = some (.int .i64 n)) (by kernel_rfl) c2 (fun hHeld => ?_)
  refine wpAnyH_take (i := 0) (v := ?_) rfl (by kernel_rfl) (by kernel_rfl) (by kernel_rfl) (fun _ _ _ h => h) (Or.inl ⟨by rfl, ?_⟩) (by assumption) ?_
  rotate_left
  · intro w hSw; go_simp; (try with_reducible rfl)
  try simp only [Act.put, List.setIfInBounds_toArray, List.set_cons_zero, List.set_cons_succ, List.getElem_toArray, List.getElem_cons_zero, List.getElem_cons_succ]
  refine wpAnyH_take (i := 1) (v := ?_) rfl (by kernel_rfl) (by kernel_rfl) (by kernel_rfl) (fun _ _ _ h => h) (Or.inl ⟨by rfl, ?_⟩) (by assumption) ?_
  rotate_left
  · intro w hSw; go_simp; (try with_reducible rfl)
  try simp only [Act.put, List.setIfInBounds_toArray, List.set_cons_zero, List.set_cons_succ, List.getElem_toArray, List.getElem_cons_zero, List.getElem_cons_succ]
  refine wpAnyH_take (i := 2) (v := ?_) rfl (by kernel_rfl) (by kernel_rfl) (by kernel_rfl) (fun _ _ _ h => h) (Or.inl ⟨by rfl, ?_⟩) (by assumption) ?_
  rotate_left
  · intro w hSw; go_simp; (try with_reducible rfl)
  try simp only [Act.put, List.setIfInBounds_toArray, List.set_cons_zero, List.set_cons_succ, List.getElem_toArray, List.getElem_cons_zero, List.getElem_cons_succ]
  refine wpAnyH_take (i := 3) (v := ?_) rfl (by kernel_rfl) (by kernel_rfl) (by kernel_rfl) (fun _ _ _ h => h) (Or.inl ⟨by rfl, ?_⟩) (by assumption) ?_
  rotate_left
  · intro w hSw; go_simp; (try with_reducible rfl)
  try simp only [Act.put, List.setIfInBounds_toArray, List.set_cons_zero, List.set_cons_succ, List.getElem_toArray, List.getElem_cons_zero, List.getElem_cons_succ]
  refine wpAnyH_take (i := 4) (v := ?_) rfl (by kernel_rfl) (by kernel_rfl) (by kernel_rfl) (fun _ _ _ h => h) (Or.inl ⟨by rfl, ?_⟩) (by assumption) ?_
  rotate_left
  · intro w hSw; go_simp; (try with_reducible rfl)
  try simp only [Act.put, List.setIfInBounds_toArray, List.set_cons_zero, List.set_cons_succ, List.getElem_toArray, List.getElem_cons_zero, List.getElem_cons_succ]
  refine wpAnyH_take (i := 5) (v := ?_) rfl (by kernel_rfl) (by kernel_rfl) (by kernel_rfl) (fun _ _ _ h => h) (Or.inl ⟨by rfl, ?_⟩) (by assumption) ?_
  rotate_left
  · intro w hSw; go_simp; (try with_reducible rfl)
  try simp only [Act.put, List.setIfInBounds_toArray, List.set_cons_zero, List.set_cons_succ, List.getElem_toArray, List.getElem_cons_zero, List.getElem_cons_succ]
  refine wpAnyH_take (i := 6) (v := ?_) rfl (by kernel_rfl) (by kernel_rfl) (by kernel_rfl) (fun _ _ _ h => h) (Or.inl ⟨by rfl, ?_⟩) (by assumption) ?_
  rotate_left
  · intro w hSw; go_simp; (try with_reducible rfl)
  try simp only [Act.put, List.setIfInBounds_toArray, List.set_cons_zero, List.set_cons_succ, List.getElem_toArray, List.getElem_cons_zero, List.getElem_cons_succ]
  refine wpAnyH_take (i := 7) (v := ?_) rfl (by kernel_rfl) (by kernel_rfl) (by kernel_rfl) (fun _ _ _ h => h) (Or.inl ⟨by rfl, ?_⟩) (by assumption) ?_
  rotate_left
  · intro w hSw; go_simp; (try with_reducible rfl)
  try simp only [Act.put, List.setIfInBounds_toArray, List.set_cons_zero, List.set_cons_succ, List.getElem_toArray, List.getElem_cons_zero, List.getElem_cons_succ]
  refine wpAnyH_take (i := 8) (v := ?_) rfl (by kernel_rfl) (by kernel_rfl) (by kernel_rfl) (fun _ _ _ h => h) (Or.inl ⟨by rfl, ?_⟩) (by assumption) ?_
  rotate_left
  · intro w hSw; go_simp; (try with_reducible rfl)
  try simp only [Act.put, List.setIfInBounds_toArray, List.set_cons_zero, List.set_cons_succ, List.getElem_toArray, List.getElem_cons_zero, List.getElem_cons_succ]
  refine wpAnyH_take (i := 9) (v := ?_) rfl (by kernel_rfl) (by kernel_rfl) (by kernel_rfl) (fun _ _ _ h => h) (Or.inl ⟨by rfl, ?_⟩) (by assumption) ?_
  rotate_left
  · intro w hSw; go_simp; (try with_reducible rfl)
  try simp only [Act.put, List.setIfInBounds_toArray, List.set_cons_zero, List.set_cons_succ, List.getElem_toArray, List.getElem_cons_zero, List.getElem_cons_succ]
  refine wpAnyH_ready (rs := [10]) (by kernel_rfl) (by simp) ?_
  refine AllReadyH.cons rfl (fun K hK => ?_) AllReadyH.nil
  go_simp
  refine (empty_any b 32 (n / 16 / 16) A2 _ b2 _ hp2 HCI2.out HFI2.out).mono ?_
  rintro e w' ⟨rfl, rfl⟩
  refine hK.out _ _ ?_ (fun hHeld => ?_)
  · exact HCK2.out
  clear hK K
  try simp only [Act.put, List.setIfInBounds_toArray, List.set_cons_zero, List.set_cons_succ, List.getElem_toArray, List.getElem_cons_zero, List.getElem_cons_succ]
  refine wpAnyH_ready (rs := [11]) (by kernel_rfl) (by simp) ?_
  refine AllReadyH.cons rfl (fun K hK => ?_) AllReadyH.nil
  go_simp
  refine HLT2.out.mono ?_
  rintro e w2 ⟨⟨u, rfl⟩, S2, h2, f2⟩
  have c2' := h2.tickC
  have H2 := Lib.hid h2
  have HB2 : Keep (base ≤ w2.heap.size) := ⟨Nat.le_trans HB1.out f2.size⟩
  have F2 := Lib.hid (F1.out.trans ((Fr.drew w1 b S 1).trans f2))
  clear h2 f2
  refine hK.out _ _ ?_ (fun hHeld => ?_)
  · exact c2'
  clear hHeld
  clear hK K
  try simp only [Act.put, List.setIfInBounds_toArray, List.set_cons_zero, List.set_cons_succ, List.getElem_toArray, List.getElem_cons_zero, List.getElem_cons_succ]
  refine wpAnyH_done (by kernel_rfl) ?_ _
  refine NoPanic.normal ?_
  clear c2' c2 HCI2 HFI2 HCK2 HLT2
  have H256 := Keep.mk h256
  clear h256
  have cc2 := H2.out.tickC
  have HK2 := Lib.hid (relay_len HK1.out n (32 + (n / 16 / 16 % 16).toNat))
  have HT2 := Lib.hid (relay_all HT1.out n (32 + (n / 16 / 16 % 16).toNat))
  go_wp2_with fail
  have hi3 : (16 + (n / 16 % 16).toNat) < 49 := by omega
  obtain ⟨A3, b3, hv3⟩ : ∃ A c, S2 (16 + (n / 16 % 16).toNat) = .slice A ((relay n (32 + (n / 16 / 16 % 16).toNat) N) (16 + (n / 16 % 16).toNat)).length c := by obtain ⟨A, c, e, _⟩ := own_slice (H2.out.rows _ hi3); exact ⟨A, c, e⟩
  have c3 := H2.out.tickC
  have hci3 := (H2.out.drew 1).cell _ hi3
  rw [hv3] at hci3
  have HCI3 := Keep.mk hci3
  have HFI3 := Keep.mk ((H2.out.drew 1).free (16 + (n / 16 % 16).toNat))
  have HCK3 := Keep.mk (((H2.out.drew 1).taken hi3).tickC)
  have HLT3 := Keep.mk (lay_taken base b m _ _ n _ A3 b3 _ (H2.out.drew 1) hi3 hv3 HB2.out hn3 hn4 HT2.out (2 * Kb) HK2.out (by omega))
  have hp3 : 0 ≤ n / 16 := by omega
  clear hv3 hci3
  refine wp_region_noPanic ?_
  refine wp_region_held_drew (S := fun W => W.cell? ⟨b, 49, none⟩ = some (.int .i64 n)) (by kernel_rfl) c3 (fun hHeld => ?_)
  refine wpAnyH_take (i := 0) (v := ?_) rfl (by kernel_rfl) (by kernel_rfl) (by kernel_rfl) (fun _ _ _ h => h) (Or.inl ⟨by rfl, ?_⟩) (by assumption) ?_
  rotate_left
  · intro w hSw; go_simp; (try with_reducible rfl)
  try simp only [Act.put, List.setIfInBounds_toArray, List.set_cons_zero, List.set_cons_succ, List.getElem_toArray, List.getElem_cons_zero, List.getElem_cons_succ]
  refine wpAnyH_take (i := 1) (v := ?_) rfl (by kernel_rfl) (by kernel_rfl) (by kernel_rfl) (fun _ _ _ h => h) (Or.inl ⟨by rfl, ?_⟩) (by assumption) ?_
  rotate_left
  · intro w hSw; go_simp; (try with_reducible rfl)
  try simp only [Act.put, List.setIfInBounds_toArray, List.set_cons_zero, List.set_cons_succ, List.getElem_toArray, List.getElem_cons_zero, List.getElem_cons_succ]
  refine wpAnyH_take (i := 2) (v := ?_) rfl (by kernel_rfl) (by kernel_rfl) (by kernel_rfl) (fun _ _ _ h => h) (Or.inl ⟨by rfl, ?_⟩) (by assumption) ?_
  rotate_left
  · intro w hSw; go_simp; (try with_reducible rfl)
  try simp only [Act.put, List.setIfInBounds_toArray, List.set_cons_zero, List.set_cons_succ, List.getElem_toArray, List.getElem_cons_zero, List.getElem_cons_succ]
  refine wpAnyH_take (i := 3) (v := ?_) rfl (by kernel_rfl) (by kernel_rfl) (by kernel_rfl) (fun _ _ _ h => h) (Or.inl ⟨by rfl, ?_⟩) (by assumption) ?_
  rotate_left
  · intro w hSw; go_simp; (try with_reducible rfl)
  try simp only [Act.put, List.setIfInBounds_toArray, List.set_cons_zero, List.set_cons_succ, List.getElem_toArray, List.getElem_cons_zero, List.getElem_cons_succ]
  refine wpAnyH_take (i := 4) (v := ?_) rfl (by kernel_rfl) (by kernel_rfl) (by kernel_rfl) (fun _ _ _ h => h) (Or.inl ⟨by rfl, ?_⟩) (by assumption) ?_
  rotate_left
  · intro w hSw; go_simp; (try with_reducible rfl)
  try simp only [Act.put, List.setIfInBounds_toArray, List.set_cons_zero, List.set_cons_succ, List.getElem_toArray, List.getElem_cons_zero, List.getElem_cons_succ]
  refine wpAnyH_take (i := 5) (v := ?_) rfl (by kernel_rfl) (by kernel_rfl) (by kernel_rfl) (fun _ _ _ h => h) (Or.inl ⟨by rfl, ?_⟩) (by assumption) ?_
  rotate_left
  · intro w hSw; go_simp; (try with_reducible rfl)
  try simp only [Act.put, List.setIfInBounds_toArray, List.set_cons_zero, List.set_cons_succ, List.getElem_toArray, List.getElem_cons_zero, List.getElem_cons_succ]
  refine wpAnyH_take (i := 6) (v := ?_) rfl (by kernel_rfl) (by kernel_rfl) (by kernel_rfl) (fun _ _ _ h => h) (Or.inl ⟨by rfl, ?_⟩) (by assumption) ?_
  rotate_left
  · intro w hSw; go_simp; (try with_reducible rfl)
  try simp only [Act.put, List.setIfInBounds_toArray, List.set_cons_zero, List.set_cons_succ, List.getElem_toArray, List.getElem_cons_zero, List.getElem_cons_succ]
  refine wpAnyH_take (i := 7) (v := ?_) rfl (by kernel_rfl) (by kernel_rfl) (by kernel_rfl) (fun _ _ _ h => h) (Or.inl ⟨by rfl, ?_⟩) (by assumption) ?_
  rotate_left
  · intro w hSw; go_simp; (try with_reducible rfl)
  try simp only [Act.put, List.setIfInBounds_toArray, List.set_cons_zero, List.set_cons_succ, List.getElem_toArray, List.getElem_cons_zero, List.getElem_cons_succ]
  refine wpAnyH_take (i := 8) (v := ?_) rfl (by kernel_rfl) (by kernel_rfl) (by kernel_rfl) (fun _ _ _ h => h) (Or.inl ⟨by rfl, ?_⟩) (by assumption) ?_
  rotate_left
  · intro w hSw; go_simp; (try with_reducible rfl)
  try simp only [Act.put, List.setIfInBounds_toArray, List.set_cons_zero, List.set_cons_succ, List.getElem_toArray, List.getElem_cons_zero, List.getElem_cons_succ]
  refine wpAnyH_ready (rs := [9]) (by kernel_rfl) (by simp) ?_
  refine AllReadyH.cons rfl (fun K hK => ?_) AllReadyH.nil
  go_simp
  refine (empty_any b 16 (n / 16) A3 _ b3 _ hp3 HCI3.out HFI3.out).mono ?_
  rintro e w' ⟨rfl, rfl⟩
  refine hK.out _ _ ?_ (fun hHeld => ?_)
  · exact HCK3.out
  clear hK K
  try simp only [Act.put, List.setIfInBounds_toArray, List.set_cons_zero, List.set_cons_succ, List.getElem_toArray, List.getElem_cons_zero, List.getElem_cons_succ]
  refine wpAnyH_ready (rs := [10]) (by kernel_rfl) (by simp) ?_
  refine AllReadyH.cons rfl (fun K hK => ?_) AllReadyH.nil
  go_simp
  refine HLT3.out.mono ?_
  rintro e w3 ⟨⟨u, rfl⟩, S3, h3, f3⟩
  have c3' := h3.tickC
  have H3 := Lib.hid h3
  have HB3 : Keep (base ≤ w3.heap.size) := ⟨Nat.le_trans HB2.out f3.size⟩
  have F3 := Lib.hid (F2.out.trans ((Fr.drew w2 b S2 1).trans f3))
  clear h3 f3
  refine hK.out _ _ ?_ (fun hHeld => ?_)
  · exact c3'
  clear hHeld
  clear hK K
  try simp only [Act.put, List.setIfInBounds_toArray, List.set_cons_zero, List.set_cons_succ, List.getElem_toArray, List.getElem_cons_zero, List.getElem_cons_succ]
  refine wpAnyH_done (by kernel_rfl) ?_ _
  refine NoPanic.normal ?_
  clear c3' c3 HCI3 HFI3 HCK3 HLT3
  have H16 := Keep.mk h16
  clear h16
  go_wp2_with fail
  have hq : (n % 16).toNat < 49 := by omega
  obtain ⟨Aq, nq, cq, hqv⟩ : ∃ A k c, S3 (n % 16).toNat = .slice A k c := by obtain ⟨A, c, e, _⟩ := own_slice (H3.out.rows _ hq); exact ⟨A, _, c, e⟩
  have HV := Keep.mk hqv
  have c1 := H3.out.tickC
  clear hqv
  go_region_held3 (fun W => W.cell? ⟨b, 49, none⟩ = some (.int .i64 n))
    (first | go_keep | exact ((H3.out.drew 1).taken hq).tickC | assumption)
    (first | (go_at_call 135; refine (empty_any b 0 n Aq nq cq _ (by omega) (by rw [Nat.zero_add]; exact HV.out ▸ (H3.out.drew 1).cell _ hq) ((H3.out.drew 1).free _)).mono ?_; rintro e w' ⟨rfl, rfl⟩) | fail)
  go_wp2_with fail
  go_ret
  have hp : prep n N = relay n (16 + (n / 16 % 16).toNat) (relay n (32 + (n / 16 / 16 % 16).toNat) N) := by unfold prep again; rw [if_pos H16.out, if_pos H256.out, if_neg k1]; rfl
  exact ⟨Aq, nq, cq, _, rfl, stepped_of (by rw [hp]; exact H3.out.drew 1) (F3.out.trans (Fr.drew w3 b S3 1)) HV.out⟩
end Go.Proofs.YtcjanieeepcddaaGreatDoor
