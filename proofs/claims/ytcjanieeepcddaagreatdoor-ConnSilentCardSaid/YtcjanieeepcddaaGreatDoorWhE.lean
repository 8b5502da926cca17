/-
  The contracts of ring.empty and nested.step.
-/
import Derived.Test.YtcjanieeepcddaaGreatDoorWhL
namespace Go.Proofs.YtcjanieeepcddaaGreatDoor
open Go.RowKit

theorem empty_any (b r : Nat) (t : Int) (A : Option Addr) (n c : Nat) (w : World) (hd : 0 ≤ t)
    (hc : w.cell? ⟨b, r + (t % 16).toNat, none⟩ = some (.slice A n c)) (hf : w.frozen? ⟨b, r + (t % 16).toNat, none⟩ = false) :
    Calls Tryz.prog 135 #[.pointer (some ⟨b, r, none⟩), .int .i64 t] w fun e w' => e = .returned (.slice A n c) ∧ w' = w.setCell ⟨b, r + (t % 16).toNat, none⟩ (.slice none 0 0) := by
  go_enter Tryz.func135, Tryz.ntmps135
  go_wp2_with (first | (go_at_call 195; refine (slot_any b r t _ hd).mono ?_; rintro e w' ⟨rfl, rfl⟩) | fail)
  go_ret
  exact ⟨rfl, rfl⟩

/-- The lists behind what a tick lays anew. -/
def again (c : Prop) [Decidable c] (now : Int) (i : Nat) (N : Nat → List Due) : Nat → List Due := if c then layN now (put N i []) (N i) else N
def prep (n : Int) (N : Nat → List Due) : Nat → List Due :=
  again (n % 16 = 0) n (16 + (n / 16 % 16).toNat) (again (n % 256 = 0) n (32 + (n / 16 / 16 % 16).toNat) (again (n % 4096 = 0) n 48 N))

/-- What a step tells. -/
structure Stepped (w w' : World) (base b m : Nat) (S : Nat → Value) (N : Nat → List Due) (now : Int) (A : Option Addr) (n c : Nat) (S' : Nat → Value) : Prop where
  st : WSt w' base b m S' (put (prep now N) (now % 16).toNat []) now
  len : n = (prep now N (now % 16).toNat).length
  out : w'.ownsRow base 72 2 (.slice A n c) n ((prep now N (now % 16).toNat).flatMap dueC)
  apart : ∀ i, i < 49 → Apt (.slice A n c) (S' i)
  off : (Value.slice A n c).ownBlock ≠ some b ∧ (Value.slice A n c).ownBlock ≠ some m
  fr : Fr w w' b S S'
  new : ∀ k, (Value.slice A n c).ownBlock = some k → (∃ j, j < 49 ∧ (S j).ownBlock = some k) ∨ w.heap.size ≤ k

theorem Fr.ticked (w : World) (b : Nat) (S : Nat → Value) (i : Nat) (v : Value) : Fr w (w.setCell ⟨b, i, none⟩ v) b S S :=
  ⟨rfl, rfl, rfl, by simp, fun k _ hkb _ => Below.heap_setCell w _ v k hkb, fun i hi _ e => .inl ⟨i, hi, e⟩⟩
theorem Fr.drew (w : World) (b : Nat) (S : Nat → Value) (k : Nat) : Fr w (w.drewN k) b S S :=
  ⟨rfl, rfl, rfl, Nat.le_refl _, fun _ _ _ _ => rfl, fun i hi _ e => .inl ⟨i, hi, e⟩⟩
theorem stepped_of {w w1 : World} {base b m : Nat} {S S1 : Nat → Value} {N : Nat → List Due} {n : Int} (H : WSt w1 base b m S1 (prep n N) n) (F : Fr w w1 b S S1) {A : Option Addr} {k c : Nat} (hv : S1 (n % 16).toNat = .slice A k c) :
    Stepped w (w1.setCell ⟨b, (n % 16).toNat, none⟩ (.slice none 0 0)) base b m S N n A k c (put S1 (n % 16).toNat (.slice none 0 0)) := by
  have hq : (n % 16).toNat < 49 := by omega
  have hr := H.rows _ hq
  have ho := H.off _ hq
  rw [hv] at hr ho
  obtain ⟨A', c', e, _⟩ := own_slice hr
  have hk : k = (prep n N (n % 16).toNat).length := by injection e
  refine ⟨H.taken hq, hk, ?_, fun i hi => ?_, ho, F.trans (Fr.appended H hq ⟨rfl, rfl, rfl, Nat.le_refl _, fun _ _ _ => rfl⟩ (.inl rfl)), fun j hj => F.new _ hq j (hv ▸ hj)⟩
  · rw [← hk] at hr
    exact ownsRow_setCell_other hr ho.1 _
  · by_cases ei : i = (n % 16).toNat
    · subst ei; rw [put_same]; exact Apt.nil _
    · rw [put_other S1 _ ei, ← hv]; exact H.apart _ i hq hi (Ne.symm ei)

set_option maxHeartbeats 1600000 in
theorem step_A (base b m : Nat) (S : Nat → Value) (N : Nat → List Due) (now : Int) (w : World) (h : WSt w base b m S N now) (hbase : base ≤ w.heap.size)
    (hn : 0 ≤ now) (hn2 : now < 2305843009213693952) (K : Nat) (hK : ∀ i, (N i).length ≤ K) (h16 : (now + 1) % 16 ≠ 0) :
    Calls Tryz.prog 80 #[.pointer (some ⟨b, 0, none⟩)] w fun e w' => ∃ A n c S', e = .returned (.slice A n c) ∧ Stepped w w' base b m S N (now + 1) A n c S' := by
  have HH := Lib.hid h
  have HK := Lib.hid hK
  have c49 := h.tickC
  have f49 := h.free 49
  clear h hK
  obtain ⟨n, hne⟩ : ∃ n, now + 1 = n := ⟨_, rfl⟩
  have hw : wrap64 n = n := by unfold wrap64; omega
  have t1 : n.tmod 4096 = n % 4096 := Int.tmod_eq_emod_of_nonneg (by omega)
  have t2 : n.tmod 256 = n % 256 := Int.tmod_eq_emod_of_nonneg (by omega)
  have t3 : n.tmod 16 = n % 16 := Int.tmod_eq_emod_of_nonneg (by omega)
  rw [hne] at h16 ⊢
  have k1 : n % 4096 ≠ 0 := by omega
  have k2 : n % 256 ≠ 0 := by omega
  go_enter Tryz.func80, Tryz.ntmps80
  go_wp2_with fail
  have hq : (n % 16).toNat < 49 := by omega
  have H1 := Lib.hid (HH.out.ticked n)
  generalize hW1 : w.setCell ⟨b, 49, none⟩ (.int .i64 n) = w1 at *
  have HW1 := Keep.mk hW1
  obtain ⟨Aq, nq, cq, hqv⟩ : ∃ A k c, S (n % 16).toNat = .slice A k c := by obtain ⟨A, c, e, _⟩ := own_slice (H1.out.rows _ hq); exact ⟨A, _, c, e⟩
  have HV := Keep.mk hqv
  have c1 := H1.out.tickC
  clear c49 f49 hW1 hqv
  go_region_held3 (fun W => W.cell? ⟨b, 49, none⟩ = some (.int .i64 n))
    (first | go_keep | exact ((H1.out.drew 1).taken hq).tickC | assumption)
    (first | (go_at_call 135; refine (empty_any b 0 n Aq nq cq _ (by omega) (by rw [Nat.zero_add]; exact HV.out ▸ (H1.out.drew 1).cell _ hq) ((H1.out.drew 1).free _)).mono ?_; rintro e w' ⟨rfl, rfl⟩) | fail)
  go_wp2_with fail
  go_ret
  have hp : prep n N = N := by unfold prep again; rw [if_neg h16, if_neg k2, if_neg k1]
  exact ⟨Aq, nq, cq, _, rfl, stepped_of (by rw [hp]; exact H1.out.drew 1) ((HW1.out ▸ Fr.ticked w b S 49 _ : Fr w w1 b S S).trans (Fr.drew w1 b S 1)) HV.out⟩

theorem taken_rd {w : World} {base b m : Nat} {S : Nat → Value} {N : Nat → List Due} {now : Int} (H : WSt w base b m S N now) {i : Nat} (hi : i < 49) {A : Option Addr} {c : Nat} (hv : S i = .slice A (N i).length c) :
    N i ≠ [] → ∃ g off, A = some ⟨g, off, none⟩ ∧ g < (w.setCell ⟨b, i, none⟩ (.slice none 0 0)).heap.size ∧ g ≠ b ∧ (∀ j, j < 49 → (put S i (.slice none 0 0) j).ownBlock ≠ some g) ∧
      ∀ k x, (N i)[k]? = some x → ∀ j v, (dueC x)[j]? = some v → (w.setCell ⟨b, i, none⟩ (.slice none 0 0)).cell? ⟨g, off + k * 2 + j, none⟩ = some v := by
  intro hne
  have ho := H.off i hi
  have hr := ownsRow_setCell_other (H.rows i hi) ho.1 (.slice none 0 0) (a := ⟨b, i, none⟩)
  rw [hv] at hr
  obtain ⟨g, off, rfl, hg, hc⟩ := Rd.of_own dueC_length (by decide) hr hne
  refine ⟨g, off, rfl, hg, fun e => ho.1 (by rw [hv, e]; rfl), fun j hj => ?_, hc⟩
  by_cases e : j = i
  · subst e; rw [put_same]; simp [Value.ownBlock]
  · rw [put_other S _ e]
    intro ej
    rcases H.apart i j hi hj (Ne.symm e) with ⟨h1, _⟩ | h1
    · rw [hv] at h1; cases h1
    · exact h1 (by rw [ej, hv]; rfl)

end Go.Proofs.YtcjanieeepcddaaGreatDoor
