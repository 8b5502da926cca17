/-
  The plain law of the wheel, second part: which timers stand in the lists, against one list of them. No program in sight.
-/
import Derived.Test.YtcjanieeepcddaaGreatDoorWhM
namespace Go.Proofs.YtcjanieeepcddaaGreatDoor

/-- All timers of some lists. -/
def flatOf (ix : List Nat) (N : Nat → List Due) : List Due := ix.flatMap N
theorem flatOf_put_out {i : Nat} : ∀ (ix : List Nat) (N : Nat → List Due) (v : List Due), i ∉ ix → flatOf ix (put N i v) = flatOf ix N
  | [], _, _, _ => rfl
  | x :: r, N, v, h => by
    have h1 : x ≠ i := fun e => h (by simp [e])
    have h2 := flatOf_put_out r N v (fun hm => h (List.mem_cons_of_mem x hm))
    unfold flatOf at *
    rw [List.flatMap_cons, List.flatMap_cons, h2, put_other N v h1]
theorem flatOf_split {i : Nat} : ∀ (ix : List Nat) (N : Nat → List Due), ix.Nodup → i ∈ ix → (flatOf ix N).Perm (N i ++ flatOf ix (put N i []))
  | [], _, _, h => by cases h
  | x :: r, N, hn, hi => by
    obtain ⟨hx, hr⟩ := List.nodup_cons.1 hn
    unfold flatOf
    rw [List.flatMap_cons, List.flatMap_cons]
    by_cases e : x = i
    · subst e
      rw [put_same, List.nil_append]
      have := flatOf_put_out r N [] hx
      unfold flatOf at this
      rw [this]
    · have h1 : i ∈ r := by
        rcases List.mem_cons.1 hi with h | h
        · exact absurd h.symm e
        · exact h
      have := flatOf_split r N hr h1
      unfold flatOf at this
      rw [put_other N [] e]
      refine (List.Perm.append_left (N x) this).trans ?_
      rw [← List.append_assoc, ← List.append_assoc]
      exact List.Perm.append_right _ List.perm_append_comm
def flat (N : Nat → List Due) : List Due := flatOf (List.range 49) N
theorem flat_split (N : Nat → List Due) {i : Nat} (hi : i < 49) : (flat N).Perm (N i ++ flat (put N i [])) :=
  flatOf_split _ N List.nodup_range (List.mem_range.2 hi)
theorem put_put (N : Nat → List Due) (i : Nat) (u v : List Due) : put (put N i u) i v = put N i v := by
  funext j
  by_cases e : j = i
  · subst e; rw [put_same, put_same]
  · rw [put_other _ _ e, put_other _ _ e, put_other _ _ e]
theorem flat_put (N : Nat → List Due) {i : Nat} (hi : i < 49) (v : List Due) : (flat (put N i v)).Perm (v ++ flat (put N i [])) := by
  have := flat_split (put N i v) hi
  rwa [put_same, put_put] at this
theorem flat_mem {N : Nat → List Due} {d : Due} : d ∈ flat N ↔ ∃ i, i < 49 ∧ d ∈ N i := by
  unfold flat flatOf
  rw [List.mem_flatMap]
  exact ⟨fun ⟨i, h1, h2⟩ => ⟨i, List.mem_range.1 h1, h2⟩, fun ⟨i, h1, h2⟩ => ⟨i, List.mem_range.2 h1, h2⟩⟩
theorem flat_layN (now : Int) : ∀ (l : List Due) (N : Nat → List Due), (flat (layN now N l)).Perm (flat N ++ l)
  | [], N => by rw [List.append_nil]; exact .refl _
  | x :: r, N => by
    refine (flat_layN now r _).trans ?_
    have h1 := flat_put N (pl_lt now x.2) (N (pl now x.2) ++ [x])
    have h2 := flat_split N (pl_lt now x.2)
    have h3 : (flat (put N (pl now x.2) (N (pl now x.2) ++ [x]))).Perm (flat N ++ [x]) := by
      refine h1.trans ?_
      rw [List.append_assoc]
      refine (List.Perm.append_left _ List.perm_append_comm).trans ?_
      rw [← List.append_assoc]
      exact List.Perm.append_right _ h2.symm
    have h4 := List.Perm.append_right r h3
    rw [List.append_assoc] at h4
    exact h4
theorem flat_relay (now : Int) {i : Nat} (hi : i < 49) (N : Nat → List Due) : (flat (relay now i N)).Perm (flat N) :=
  (flat_layN now (N i) _).trans (List.perm_append_comm.trans (flat_split N hi).symm)

theorem layN_placed (n : Int) (T : Nat → Prop) : ∀ (l : List Due) (N : Nat → List Due), (∀ i, ∀ d ∈ N i, pl n d.2 = i ∨ T i) → ∀ i, ∀ d ∈ layN n N l i, pl n d.2 = i ∨ T i
  | [], _, h => h
  | x :: r, N, h => layN_placed n T r _ (fun i d hd => by
      by_cases e : i = pl n x.2
      · subst e
        rw [put_same, List.mem_append] at hd
        rcases hd with hd | hd
        · exact h _ d hd
        · simp only [List.mem_singleton] at hd; subst hd; exact .inl rfl
      · rw [put_other _ _ e] at hd; exact h i d hd)
theorem relay_placed {n : Int} {T : Nat → Prop} {N : Nat → List Due} (h : ∀ i, ∀ d ∈ N i, pl n d.2 = i ∨ T i) (j : Nat) : ∀ i, ∀ d ∈ relay n j N i, pl n d.2 = i ∨ (T i ∧ i ≠ j) :=
  layN_placed n _ (N j) _ (fun i d hd => by
    by_cases e : i = j
    · subst e; rw [put_same] at hd; cases hd
    · rw [put_other _ _ e] at hd
      exact (h i d hd).imp id (fun x => ⟨x, e⟩))
theorem layN_out (n : Int) : ∀ (l : List Due) (N : Nat → List Due) (i : Nat), 49 ≤ i → N i = [] → layN n N l i = []
  | [], _, _, _, h => h
  | x :: r, N, i, hi, h => layN_out n r _ i hi (by have := pl_lt n x.2; rw [put_other _ _ (by omega)]; exact h)
theorem relay_out (n : Int) (j : Nat) (N : Nat → List Due) (i : Nat) (hi : 49 ≤ i) (h : N i = []) : relay n j N i = [] :=
  layN_out n _ _ i hi (by
    by_cases e : i = j
    · subst e; exact put_same _ _ _
    · rw [put_other _ _ e]; exact h)

/-- The lists hold the timers of L, each where it belongs; all are due behind now, and not far. -/
structure Inv (now : Int) (N : Nat → List Due) (L : List Due) : Prop where
  perm : (flat N).Perm L
  at' : ∀ i, ∀ d ∈ N i, pl now d.2 = i
  out : ∀ i, 49 ≤ i → N i = []
  rng : ∀ d ∈ L, now < d.2 ∧ d.2 ≤ now + 4096
  nodup : (L.map (·.1)).Nodup

section
variable {now : Int} {N : Nat → List Due} {L : List Due}
theorem Inv.mem (h : Inv now N L) {i : Nat} {d : Due} (hd : d ∈ N i) : d ∈ L := by
  by_cases hi : i < 49
  · exact h.perm.mem_iff.1 (flat_mem.2 ⟨i, hi, hd⟩)
  · rw [h.out i (by omega)] at hd; cases hd
theorem Inv.len (h : Inv now N L) (i : Nat) : (N i).length ≤ L.length := by
  by_cases hi : i < 49
  · have h1 := (h.perm.symm.trans (flat_split N hi)).length_eq
    rw [List.length_append] at h1
    omega
  · rw [h.out i (by omega)]; exact Nat.zero_le _
theorem Inv.ticks (h : Inv now N L) (hn : 0 ≤ now) (hn2 : now < 2305843009213693952) (i : Nat) : ∀ d ∈ N i, 0 ≤ d.2 ∧ d.2 < 4611686018427387904 := fun d hd => by
  have := h.rng d (h.mem hd)
  omega
theorem Inv.empty (now : Int) : Inv now (fun _ => []) [] where
  perm := by rw [show flat (fun _ => ([] : List Due)) = [] by unfold flat flatOf; simp]
  at' := fun i d h => by simp at h
  out := fun _ _ => rfl
  rng := fun d h => by simp at h
  nodup := by simp

/-- The lists that are laid anew at a tick. -/
def todo (n : Int) (i : Nat) : Prop := (n % 4096 = 0 ∧ i = 48) ∨ (n % 256 = 0 ∧ i = 32 + (n / 16 / 16 % 16).toNat) ∨ (n % 16 = 0 ∧ i = 16 + (n / 16 % 16).toNat)
theorem prep_placed (h : Inv now N L) : ∀ i, ∀ d ∈ prep (now + 1) N i, pl (now + 1) d.2 = i := by
  have h0 : ∀ i, ∀ d ∈ N i, pl (now + 1) d.2 = i ∨ todo (now + 1) i := fun i d hd => by
    have := h.at' i d hd
    rcases pl_next (h.rng d (h.mem hd)).1 with e | e | e | e
    · exact .inl (e.trans this)
    · exact .inr (.inl ⟨e.1, this ▸ e.2⟩)
    · exact .inr (.inr (.inl ⟨e.1, this ▸ e.2⟩))
    · exact .inr (.inr (.inr ⟨e.1, this ▸ e.2⟩))
  have step : ∀ (c : Prop) [Decidable c] (j : Nat) (T : Nat → Prop) (N : Nat → List Due), (∀ i, ∀ d ∈ N i, pl (now + 1) d.2 = i ∨ T i) → ∀ i, ∀ d ∈ again c (now + 1) j N i, pl (now + 1) d.2 = i ∨ (T i ∧ ¬ (c ∧ i = j)) := by
    intro c _ j T N hN i d hd
    unfold again at hd
    by_cases hc : c
    · rw [if_pos hc] at hd
      exact (relay_placed hN j i d hd).imp id (fun x => ⟨x.1, fun y => x.2 y.2⟩)
    · rw [if_neg hc] at hd
      exact (hN i d hd).imp id (fun x => ⟨x, fun y => hc y.1⟩)
  intro i d hd
  have := step _ _ _ _ (step _ _ _ _ (step ((now + 1) % 4096 = 0) 48 _ N h0)) i d hd
  rcases this with e | ⟨⟨⟨e1, e2⟩, e3⟩, e4⟩
  · exact e
  · rcases e1 with e | e | e
    · exact absurd e e2
    · exact absurd e e3
    · exact absurd e e4
theorem again_perm (c : Prop) [Decidable c] (n : Int) {j : Nat} (hj : j < 49) (N : Nat → List Due) : (flat (again c n j N)).Perm (flat N) := by
  unfold again
  by_cases hc : c
  · rw [if_pos hc]; exact flat_relay n hj N
  · rw [if_neg hc]
theorem prep_perm (n : Int) (N : Nat → List Due) : (flat (prep n N)).Perm (flat N) :=
  (again_perm _ n (by omega) _).trans ((again_perm _ n (by omega) _).trans (again_perm _ n (by omega) _))
theorem again_out (c : Prop) [Decidable c] (n : Int) (j : Nat) (N : Nat → List Due) (i : Nat) (hi : 49 ≤ i) (h : N i = []) : again c n j N i = [] := by
  unfold again
  by_cases hc : c
  · rw [if_pos hc]; exact relay_out n j N i hi h
  · rw [if_neg hc]; exact h
theorem prep_out (n : Int) (N : Nat → List Due) (i : Nat) (hi : 49 ≤ i) (h : N i = []) : prep n N i = [] :=
  again_out _ _ _ _ i hi (again_out _ _ _ _ i hi (again_out _ _ _ _ i hi h))

theorem due_here {n t : Int} (h : n ≤ t) (hp : pl n t = (n % 16).toNat) : t = n := by
  rcases pl_cases n t with ⟨a, b⟩ | ⟨_, _, b⟩ | ⟨_, _, b⟩ | ⟨_, b⟩ <;> omega
theorem pl_self (n : Int) : pl n n = (n % 16).toNat := by unfold pl; rw [if_pos rfl]

/-- A tick: what is due then, and what stays. -/
theorem Inv.step (h : Inv now N L) : Inv (now + 1) (put (prep (now + 1) N) ((now + 1) % 16).toNat []) (L.filter fun d => decide (d.2 ≠ now + 1)) ∧
    (prep (now + 1) N ((now + 1) % 16).toNat).Perm (L.filter fun d => decide (d.2 = now + 1)) := by
  obtain ⟨q, hq⟩ : ∃ q, ((now + 1) % 16).toNat = q := ⟨_, rfl⟩
  have hq49 : q < 49 := by omega
  rw [hq]
  obtain ⟨N1, hN1⟩ : ∃ N1, prep (now + 1) N = N1 := ⟨_, rfl⟩
  have hpl := prep_placed h
  have hpm := (prep_perm (now + 1) N).trans h.perm
  have hout : ∀ i, 49 ≤ i → N1 i = [] := fun i hi => by rw [← hN1]; exact prep_out _ _ i hi (h.out i hi)
  rw [hN1] at hpl hpm ⊢
  have hmem : ∀ i, ∀ d ∈ N1 i, d ∈ L := fun i d hd => by
    by_cases hi : i < 49
    · exact hpm.mem_iff.1 (flat_mem.2 ⟨i, hi, hd⟩)
    · rw [hout i (by omega)] at hd; cases hd
  have hin : ∀ d ∈ N1 q, d.2 = now + 1 := fun d hd => due_here (by have := (h.rng d (hmem q d hd)).1; omega) (by rw [hq]; exact hpl q d hd)
  have hno : ∀ d ∈ flat (put N1 q []), d.2 ≠ now + 1 := fun d hd e => by
    obtain ⟨i, hi, hd⟩ := flat_mem.1 hd
    by_cases ei : i = q
    · subst ei; rw [put_same] at hd; cases hd
    · rw [put_other _ _ ei] at hd
      have := hpl i d hd
      rw [e, pl_self, hq] at this
      exact ei this.symm
  have hsp := hpm.symm.trans (flat_split N1 hq49)
  have f1 := hsp.filter (fun d => decide (d.2 ≠ now + 1))
  have f2 := hsp.filter (fun d => decide (d.2 = now + 1))
  rw [List.filter_append] at f1 f2
  have g1 : (N1 q).filter (fun d => decide (d.2 ≠ now + 1)) = [] := List.filter_eq_nil_iff.2 fun d hd => by simp [hin d hd]
  have g2 : (N1 q).filter (fun d => decide (d.2 = now + 1)) = N1 q := List.filter_eq_self.2 fun d hd => by simp [hin d hd]
  have g3 : (flat (put N1 q [])).filter (fun d => decide (d.2 ≠ now + 1)) = flat (put N1 q []) := List.filter_eq_self.2 fun d hd => by simp [hno d hd]
  have g4 : (flat (put N1 q [])).filter (fun d => decide (d.2 = now + 1)) = [] := List.filter_eq_nil_iff.2 fun d hd => by simp [hno d hd]
  rw [g1, g3, List.nil_append] at f1
  rw [g2, g4, List.append_nil] at f2
  refine ⟨⟨f1.symm, fun i d hd => ?_, fun i hi => ?_, fun d hd => ?_, ?_⟩, f2.symm⟩
  · by_cases ei : i = q
    · subst ei; rw [put_same] at hd; cases hd
    · rw [put_other _ _ ei] at hd; exact hpl i d hd
  · rw [put_other _ _ (by omega)]; exact hout i hi
  · obtain ⟨h1, h2⟩ := List.mem_filter.1 hd
    have := h.rng d h1
    have := of_decide_eq_true h2
    omega
  · exact h.nodup.sublist (List.filter_sublist.map _)
end
end Go.Proofs.YtcjanieeepcddaaGreatDoor
