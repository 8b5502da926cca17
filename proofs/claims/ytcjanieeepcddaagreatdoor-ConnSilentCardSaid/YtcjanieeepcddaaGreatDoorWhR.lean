/-
  The plain law of the wheel, third part: the map against the list; what Arm and Cancel do. No program in sight.
-/
import Derived.Test.YtcjanieeepcddaaGreatDoorWhQ
namespace Go.Proofs.YtcjanieeepcddaaGreatDoor

/-- The tick that a handle is armed for. -/
def tk (L : List Due) (h : Int) : Option Int := (L.find? fun d => decide (d.1 = h)).map (·.2)
theorem tk_nil (h : Int) : tk [] h = none := rfl
theorem tk_cons (d : Due) (L : List Due) (h : Int) : tk (d :: L) h = if d.1 = h then some d.2 else tk L h := by
  unfold tk
  by_cases e : d.1 = h
  · rw [List.find?_cons_of_pos (by simpa using e), if_pos e]; rfl
  · rw [List.find?_cons_of_neg (by simpa using e), if_neg e]
theorem tk_append (L L' : List Due) (h : Int) : tk (L ++ L') h = match tk L h with | none => tk L' h | some t => some t := by
  induction L with
  | nil => rfl
  | cons d r ih =>
    rw [List.cons_append, tk_cons, tk_cons]
    by_cases e : d.1 = h
    · rw [if_pos e, if_pos e]
    · rw [if_neg e, if_neg e]; exact ih
theorem tk_none {L : List Due} {h : Int} : tk L h = none ↔ ∀ d ∈ L, d.1 ≠ h := by
  unfold tk
  rw [Option.map_eq_none_iff, List.find?_eq_none]
  simp
theorem tk_some {L : List Due} {h t : Int} (e : tk L h = some t) : (h, t) ∈ L := by
  unfold tk at e
  obtain ⟨d, hd, rfl⟩ := Option.map_eq_some_iff.1 e
  have h1 := List.find?_some hd
  have h2 := List.mem_of_find?_eq_some hd
  rw [← of_decide_eq_true h1]
  exact h2
theorem nodup_inj : ∀ {L : List Due}, (L.map (·.1)).Nodup → ∀ {d d' : Due}, d ∈ L → d' ∈ L → d.1 = d'.1 → d = d'
  | [], _, _, _, h, _, _ => by cases h
  | x :: r, hn, d, d', h, h', e => by
    obtain ⟨hx, hr⟩ := List.nodup_cons.1 hn
    rcases List.mem_cons.1 h with rfl | h1 <;> rcases List.mem_cons.1 h' with rfl | h2
    · rfl
    · exact absurd (List.mem_map.2 ⟨d', h2, e.symm⟩) hx
    · exact absurd (List.mem_map.2 ⟨d, h1, e⟩) hx
    · exact nodup_inj hr h1 h2 e
theorem tk_mem {L : List Due} (hn : (L.map (·.1)).Nodup) {d : Due} (hd : d ∈ L) : tk L d.1 = some d.2 := by
  cases h : tk L d.1 with
  | none => exact absurd rfl (tk_none.1 h d hd)
  | some t => rw [← nodup_inj hn (tk_some h) hd rfl]
theorem tk_filter_ne {L : List Due} (p : Due → Bool) {h : Int} (hp : ∀ d ∈ L, d.1 = h → p d = true) : tk (L.filter p) h = tk L h := by
  induction L with
  | nil => rfl
  | cons d r ih =>
    have h1 := ih (fun x hx => hp x (List.mem_cons_of_mem _ hx))
    by_cases e : p d = true
    · rw [List.filter_cons_of_pos e, tk_cons, tk_cons, h1]
    · rw [List.filter_cons_of_neg e, h1, tk_cons, if_neg (fun e2 => e (hp d List.mem_cons_self e2))]
theorem tk_drop_same (L : List Due) (h : Int) : tk (dropH h L) h = none := tk_none.2 fun d hd => of_decide_eq_true (List.mem_filter.1 hd).2
theorem tk_drop_other (L : List Due) {h x : Int} (e : x ≠ h) : tk (dropH h L) x = tk L x :=
  tk_filter_ne _ (fun d _ hd => decide_eq_true (by rw [hd]; exact e))
theorem setM_drop (L : List Due) (h : Int) : setM (tk L) h none = tk (dropH h L) := by
  funext x
  by_cases e : x = h
  · subst e; rw [setM_same, tk_drop_same]
  · rw [setM_other _ _ e, tk_drop_other L e]
theorem setM_arm (L : List Due) (h t : Int) : setM (tk L) h (some t) = tk (dropH h L ++ [(h, t)]) := by
  funext x
  rw [tk_append]
  by_cases e : x = h
  · subst e; rw [setM_same, tk_drop_same, tk_cons, if_pos rfl]
  · rw [setM_other _ _ e, tk_drop_other L e, tk_cons, if_neg (Ne.symm e), tk_nil]
    cases tk L x <;> rfl
theorem drop_len {L : List Due} (hn : (L.map (·.1)).Nodup) (h : Int) : (dropH h L).length = L.length - one (tk L h) := by
  induction L with
  | nil => rfl
  | cons d r ih =>
    obtain ⟨hx, hr⟩ := List.nodup_cons.1 hn
    have h1 := ih hr
    rw [tk_cons]
    by_cases e : d.1 = h
    · have h2 : ∀ x ∈ r, x.1 ≠ h := fun x hx2 e2 => hx (List.mem_map.2 ⟨x, hx2, e2.trans e.symm⟩)
      have h3 : dropH h (d :: r) = dropH h r := List.filter_cons_of_neg (by simpa using e)
      rw [if_pos e, h3, dropH_all h2]
      rfl
    · have h3 : dropH h (d :: r) = d :: dropH h r := List.filter_cons_of_pos (by simpa using e)
      rw [if_neg e, h3, List.length_cons, List.length_cons, h1]
      have h4 : one (tk r h) ≤ r.length := by
        cases h5 : tk r h with
        | none => exact Nat.zero_le _
        | some t => exact List.length_pos_of_mem (tk_some h5)
      omega

section
variable {now : Int} {N : Nat → List Due} {L : List Due}
theorem Inv.cut (I : Inv now N L) (h : Int) : Inv now (cutN now (tk L) h N) (dropH h L) := by
  have hr : ∀ d ∈ dropH h L, now < d.2 ∧ d.2 ≤ now + 4096 := fun d hd => I.rng d (List.mem_filter.1 hd).1
  have hn : ((dropH h L).map (·.1)).Nodup := I.nodup.sublist (List.filter_sublist.map _)
  unfold cutN
  cases e : tk L h with
  | none =>
    rw [dropH_all (tk_none.1 e)] at hr hn ⊢
    exact ⟨I.perm, I.at', I.out, I.rng, I.nodup⟩
  | some t =>
    have hp := pl_lt now t
    show Inv now (put N (pl now t) (dropH h (N (pl now t)))) (dropH h L)
    obtain ⟨p, hpe⟩ : ∃ p, pl now t = p := ⟨_, rfl⟩
    rw [hpe] at hp ⊢
    have hno : dropH h (flat (put N p [])) = flat (put N p []) := dropH_all fun d hd ed => by
      obtain ⟨i, hi, hd⟩ := flat_mem.1 hd
      by_cases ei : i = p
      · subst ei; rw [put_same] at hd; cases hd
      · rw [put_other _ _ ei] at hd
        have h1 := nodup_inj I.nodup (I.mem hd) (tk_some e) ed
        have h2 := I.at' i d hd
        rw [h1, hpe] at h2
        exact ei h2.symm
    have h1 := (I.perm.symm.trans (flat_split N hp)).filter (fun d => decide (d.1 ≠ h))
    rw [List.filter_append] at h1
    have h2 : (dropH h L).Perm (dropH h (N p) ++ flat (put N p [])) := by
      have h3 := hno
      unfold dropH at h3 ⊢
      rw [h3] at h1
      exact h1
    refine ⟨(flat_put N hp _).trans h2.symm, fun i d hd => ?_, fun i hi => ?_, hr, hn⟩
    · by_cases ei : i = p
      · subst ei; rw [put_same] at hd; exact I.at' i d (List.mem_filter.1 hd).1
      · rw [put_other _ _ ei] at hd; exact I.at' i d hd
    · rw [put_other _ _ (by omega)]; exact I.out i hi
theorem Inv.lay (I : Inv now N L) {h t : Int} (h1 : now < t) (h2 : t ≤ now + 4096) (hh : ∀ d ∈ L, d.1 ≠ h) : Inv now (layN now N [(h, t)]) (L ++ [(h, t)]) := by
  refine ⟨(flat_layN now _ _).trans (List.Perm.append_right _ I.perm), fun i d hd => ?_, fun i hi => layN_out now _ _ i hi (I.out i hi), fun d hd => ?_, ?_⟩
  · rcases layN_placed now (fun _ => False) [(h, t)] N (fun i d hd => .inl (I.at' i d hd)) i d hd with e | e
    · exact e
    · exact e.elim
  · rcases List.mem_append.1 hd with e | e
    · exact I.rng d e
    · obtain rfl : d = (h, t) := by simpa using e
      exact ⟨h1, h2⟩
  · rw [List.map_append, List.nodup_append]
    refine ⟨I.nodup, by simp, fun a ha b hb => ?_⟩
    obtain rfl : b = h := by simpa using hb
    obtain ⟨d, hd, rfl⟩ := List.mem_map.1 ha
    exact hh d hd
theorem Inv.arm (I : Inv now N L) {h t : Int} (h1 : now < t) (h2 : t ≤ now + 4096) : Inv now (layN now (cutN now (tk L) h N) [(h, t)]) (dropH h L ++ [(h, t)]) :=
  (I.cut h).lay h1 h2 (fun _ hd => of_decide_eq_true (List.mem_filter.1 hd).2)
end
end Go.Proofs.YtcjanieeepcddaaGreatDoor
