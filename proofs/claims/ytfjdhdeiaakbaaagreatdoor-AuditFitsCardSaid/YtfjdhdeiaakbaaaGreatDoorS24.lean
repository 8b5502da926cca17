/-
  Walks and laws, one behind the other (part 24).
-/
import Derived.Deep.RegionHeld3
import Derived.OrdersHeld
set_option linter.unusedSimpArgs false
set_option linter.unusedVariables false
/-
  Operations of a region that only look and reckon, taken many at once.
-/
namespace Go.Proofs.YtfjdhdeiaakbaaaGreatDoor
open Go

/-- Each slot is written by one operation, and read by none that doesn't wait for it. -/
def ssaB (md : Region.Mode) (ops : Array Oper) (wr : Nat → Nat) : Bool :=
  (List.range ops.size).all fun j => match ops[j]? with
    | none => true
    | some o => (match o.dst with | some d => wr d == j | none => true) && (o.looksAt ops).all fun t => decide (ops.size ≤ wr t) || o.after.toList.any fun e => Region.binds md e && e.on == wr t
def takesB (md : Region.Mode) (ops : Array Oper) : List Nat → Array Bool → Bool
  | [], _ => true
  | i :: r, listed => (!listed.getD i true && match ops[i]? with | some o => o.after.toList.all (fun e => !Region.binds md e || listed.getD e.on false) | none => false) && takesB md ops r (listed.setIfInBounds i true)
section
variable {P : Program} {ops : Array Oper} {Q : Exit → Act → World → Prop} {md : Region.Mode} {S : World → Prop}
theorem ssa_at {wr : Nat → Nat} (h : ssaB md ops wr = true) {j : Nat} {o : Oper} (hj : ops[j]? = some o) : (∀ d, o.dst = some d → wr d = j) ∧ ∀ t ∈ o.looksAt ops, ops.size ≤ wr t ∨ ∃ e ∈ o.after, Region.binds md e = true ∧ e.on = wr t := by
  unfold ssaB at h
  rw [List.all_eq_true] at h
  have h1 := h j (List.mem_range.2 (Array.getElem?_eq_some_iff.1 hj).1)
  rw [hj] at h1
  simp only [Bool.and_eq_true, List.all_eq_true, Bool.or_eq_true, decide_eq_true_eq, List.any_eq_true, beq_iff_eq] at h1
  refine ⟨fun d hd => ?_, fun t ht => ?_⟩
  · have := h1.1
    rw [hd] at this
    simpa using this
  · rcases h1.2 t ht with h2 | ⟨e, he, hb⟩
    · exact .inl h2
    · exact .inr ⟨e, by simpa using he, hb⟩
theorem ssa_apart {wr : Nat → Nat} (h : ssaB md ops wr = true) {i j : Nat} {oi oj : Oper} (hi : ops[i]? = some oi) (hj : ops[j]? = some oj) (hne : j ≠ i) (h1 : ∀ e ∈ oj.after, Region.binds md e = true → e.on ≠ i) (h2 : ∀ e ∈ oi.after, Region.binds md e = true → e.on ≠ j) : oi.apart ops oj = true := by
  obtain ⟨a1, a2⟩ := ssa_at h hi
  obtain ⟨b1, b2⟩ := ssa_at h hj
  have li := (Array.getElem?_eq_some_iff.1 hi).1
  have lj := (Array.getElem?_eq_some_iff.1 hj).1
  have e1 : ∀ d, oi.dst = some d → d ∉ oj.looksAt ops := fun d hd hm => by
    rcases b2 d hm with h | ⟨e, he, hb, ho⟩
    · rw [a1 d hd] at h; omega
    · exact h1 e he hb (by rw [ho, a1 d hd])
  have e2 : ∀ d, oi.dst = some d → oj.dst ≠ some d := fun d hd hd' => hne (by rw [← b1 d hd', a1 d hd])
  have e3 : ∀ d, oj.dst = some d → d ∉ oi.looksAt ops := fun d hd hm => by
    rcases a2 d hm with h | ⟨e, he, hb, ho⟩
    · rw [b1 d hd] at h; omega
    · exact h2 e he hb (by rw [ho, b1 d hd])
  unfold Oper.apart
  rw [Bool.and_eq_true]
  constructor
  · cases hd : oi.dst with
    | none => rfl
    | some d => simp [e1 d hd, e2 d hd]
  · cases hd : oj.dst with
    | none => rfl
    | some d => simp [e3 d hd]
/-- What the operations of a list yield, one by one. -/
def Ys (P : Program) (ops : Array Oper) (S : World → Prop) (K : Act → Prop) : List Nat → Act → Prop
  | [], a => K a
  | i :: r, a => ∃ oi v, ops[i]? = some oi ∧ YieldsIf P ops S oi v a ∧ Ys P ops S K r (a.put oi.dst v)
theorem Ys_cons {K : Act → Prop} {i : Nat} {r : List Nat} {a : Act} {oi : Oper} {v : Value} (hi : ops[i]? = some oi) (hy : YieldsIf P ops S oi v a) (h : Ys P ops S K r (a.put oi.dst v)) : Ys P ops S K (i :: r) a := ⟨oi, v, hi, hy, h⟩
theorem wpAnyH_pures {w : World} {wr : Nat → Nat} (hssa : ssaB md ops wr = true) (hs : Region.noSelect ops = true) (hQ : ∀ c a d v w, Q (.panic c) (Act.put a d v) w → Q (.panic c) a w) (hw : S w) :
    ∀ (L : List Nat) (fuel : Nat) (listed : Array Bool) (a : Act), takesB md ops L listed = true →
      Ys P ops S (fun a => wpAnyH P md ops Q S fuel (L.foldl (fun l r => l.setIfInBounds r true) listed) a w) L a → wpAnyH P md ops Q S (fuel + L.length) listed a w
  | [], _, _, _, _, h => h
  | i :: r, fuel, listed, a, hT, h => by
    obtain ⟨oi, v, hi, hy, h⟩ := h
    unfold takesB at hT
    rw [hi] at hT
    simp only [Bool.and_eq_true, Bool.not_eq_true', List.all_eq_true, Bool.or_eq_true] at hT
    obtain ⟨⟨hT1, hT2⟩, hT3⟩ := hT
    have hready : ∀ e ∈ oi.after, Region.binds md e = true → listed.getD e.on false = true := fun e he hb => by
      rcases hT2 e (by simpa using he) with h | h
      · rw [hb] at h; cases h
      · exact h
    have hr : i ∈ Region.ready md ops listed := mem_ready.2 ⟨hT1, oi, hi, hready⟩
    show wpAnyH P md ops Q S (fuel + r.length + 1) listed a w
    refine wpAnyH_first hi (Region.noSelect_spec hs) (fun c a w hq => hQ c a _ _ w hq) (fuel + r.length) listed a w (fun j oj hj hne hun hno => ssa_apart hssa hi hj hne hno (fun e he hb heq => ?_)) hr hy hw ?_
    · have h1 := hready e he hb
      rw [heq] at h1
      rcases Nat.lt_or_ge j listed.size with h' | h'
      · simp [h'] at hun h1; rw [hun] at h1; cases h1
      · simp [Array.getElem?_eq_none h'] at h1
    · exact wpAnyH_pures hssa hs hQ hw r fuel _ _ hT3 h
theorem wpAnyH_pures' {w : World} (wr : Nat → Nat) (L : List Nat) (fuel : Nat) {listed : Array Bool} {a : Act} (hssa : ssaB md ops wr = true) (hs : Region.noSelect ops = true) (hT : takesB md ops L listed = true) (hQ : ∀ c a d v w, Q (.panic c) (Act.put a d v) w → Q (.panic c) a w) (hw : S w)
    (h : ∀ K : Act → Prop, Shut (∀ a, wpAnyH P md ops Q S fuel (L.foldl (fun l r => l.setIfInBounds r true) listed) a w → K a) → Ys P ops S K L a) : wpAnyH P md ops Q S (fuel + L.length) listed a w :=
  wpAnyH_pures hssa hs hQ hw L fuel listed a hT (h _ (fun _ h => h))
end
end Go.Proofs.YtfjdhdeiaakbaaaGreatDoor
