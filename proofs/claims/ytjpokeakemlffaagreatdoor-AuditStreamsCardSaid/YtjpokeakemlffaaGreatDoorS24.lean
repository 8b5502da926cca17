/-
  Walks and laws, one behind the other (part 24).
-/
import Derived.Deep.RegionHeld3
import Derived.OrdersHeld
set_option linter.unusedSimpArgs false
set_option linter.unusedVariables false
/-
  Operations of a region that only look and reckon, taken many at once.
-/
namespace Go.Proofs.YtjpokeakemlffaaGreatDoor
open Go
def ssaB (md : Region.Mode) (ops : Array Oper) (wr : Nat → Nat) : Bool :=
  (List.range ops.size).all fun j => match ops[j]? with
    | none => true
    | some o => (match o.dst with | some d => wr d == j | none => true) && (o.looksAt ops).all fun t => decide (ops.size ≤ wr t) || o.after.toList.any fun e => Region.binds md e && e.on == wr t
def takesB (md : Region.Mode) (ops : Array Oper) : List Nat → Array Bool → Bool
  | [], _ => true
  | i :: r, listed => (!listed.getD i true && match ops[i]? with | some o => o.after.toList.all (fun e => !Region.binds md e || listed.getD e.on false) | none => false) && takesB md ops r (listed.setIfInBounds i true)
section
variable {P : Program} {ops : Array Oper} {Q : Exit → Act → World → Prop} {md : Region.Mode} {S : World → Prop}
theorem ssa_at {wr : Nat → Nat} (h : ssaB md ops wr = true) {j : Nat} {o : Oper} (hj : ops[j]? = some o) : (∀ d, o.dst = some d → wr d = j) ∧ ∀ t ∈ o.looksAt ops, ops.size ≤ wr t ∨ ∃ e ∈ o.after, Region.binds md e = true ∧ e.on = wr t := by
  unfold ssaB at h
  rw [List.all_eq_true] at h
  have h1 := h j (List.mem_range.2 (Array.getElem?_eq_some_iff.1 hj).1)
  rw [hj] at h1
  simp only [Bool.and_eq_true, List.all_eq_true, Bool.or_eq_true, decide_eq_true_eq, List.any_eq_true, beq_iff_eq] at h1
  refine ⟨fun d hd => ?_, fun t ht => ?_⟩
  · have := h1.1
    rw [hd] at this
    simpa using this
  · rcases h1.2 t ht with h2 | ⟨e, he, hb⟩
    · exact .inl h2
    · exact .inr ⟨e, by simpa using he, hb⟩
theorem ssa_apart {wr : Nat → Nat} (h : ssaB md ops wr = true) {i j : Nat} {oi oj : Oper} (hi : ops[i]? = some oi) (hj : ops[j]? = some oj) (hne : j ≠ i) (h1 : ∀ e ∈ oj.after, Region.binds md e = true → e.on ≠ i) (h2 : ∀ e ∈ oi.after, Region.binds md e = true → e.on ≠ j) : oi.apart ops oj = true := by
  obtain ⟨a1, a2⟩ := ssa_at h hi
  obtain ⟨b1, b2⟩ := ssa_at h hj
  have li := (Array.getElem?_eq_some_iff.1 hi).1
  have lj := (Array.getElem?_eq_some_iff.1 hj).1
  have e1 : ∀ d, oi.dst = some d → d ∉ oj.looksAt ops := fun d hd hm => by
    rcases b2 d hm with h | ⟨e, he, hb, ho⟩
    · rw [a1 d hd] at h; omega
    · exact h1 e he hb (by rw [ho, a1 d hd])
  have e2 : ∀ d, oi.dst = some d → oj.dst ≠ some d := fun d hd hd' => hne (by rw [← b1 d hd', a1 d hd])
  have e3 : ∀ d, oj.dst = some d → d ∉ oi.looksAt ops := fun d hd hm => by
    rcases a2 d hm with h | ⟨e, he, hb, ho⟩
    · rw [b1 d hd] at h; omega
    · exact h2 e he hb (by rw [ho, b1 d hd])
  unfold Oper.apart
  rw [Bool.and_eq_true]
  constructor
  · cases hd : oi.dst with
    | none => rfl
    | some d => simp [e1 d hd, e2 d hd]
  · cases hd : oj.dst with
    | none => rfl
    | some d => simp [e3 d hd]
def Ys (P : Program) (ops : Array Oper) (S : World → Prop) (K : Act → Prop) : List Nat → Act → Prop
  | [], a => K a
  | i :: r, a => ∃ oi v, ops[i]? = some oi ∧ YieldsIf P ops S oi v a ∧ Ys P ops S K r (a.put oi.dst v)
theorem Ys_cons {K : Act → Prop} {i : Nat} {r : List Nat} {a : Act} {oi : Oper} {v : Value} (hi : ops[i]? = some oi) (hy : YieldsIf P ops S oi v a) (h : Ys P ops S K r (a.put oi.dst v)) : Ys P ops S K (i :: r) a := ⟨oi, v, hi, hy, h⟩
theorem wpAnyH_pures {w : World} {wr : Nat → Nat} (hssa : ssaB md ops wr = true) (hs : Region.noSelect ops = true) (hQ : ∀ c a d v w, Q (.panic c) (Act.put a d v) w → Q (.panic c) a w) (hw : S w) :
    ∀ (L : List Nat) (fuel : Nat) (listed : Array Bool) (a : Act), takesB md ops L listed = true →
      Ys P ops S (fun a => wpAnyH P md ops Q S fuel (L.foldl (fun l r => l.setIfInBounds r true) listed) a w) L a → wpAnyH P md ops Q S (fuel + L.length) listed a w
  | [], _, _, _, _, h => h
  | i :: r, fuel, listed, a, hT, h => by
    obtain ⟨oi, v, hi, hy, h⟩ := h
    unfold takesB at hT
    rw [hi] at hT
    simp only [Bool.and_eq_true, Bool.not_eq_true', List.all_eq_true, Bool.or_eq_true] at hT
    obtain ⟨⟨hT1, hT2⟩, hT3⟩ := hT
    have hready : ∀ e ∈ oi.after, Region.binds md e = true → listed.getD e.on false = true := fun e he hb => by
      rcases hT2 e (by simpa using he) with h | h
      · rw [hb] at h; cases h
      · exact h
    have hr : i ∈ Region.ready md ops listed := mem_ready.2 ⟨hT1, oi, hi, hready⟩
    show wpAnyH P md ops Q S (fuel + r.length + 1) listed a w
    refine wpAnyH_first hi (Region.noSelect_spec hs) (fun c a w hq => hQ c a _ _ w hq) (fuel + r.length) listed a w (fun j oj hj hne hun hno => ssa_apart hssa hi hj hne hno (fun e he hb heq => ?_)) hr hy hw ?_
    · have h1 := hready e he hb
      rw [heq] at h1
      rcases Nat.lt_or_ge j listed.size with h' | h'
      · simp [h'] at hun h1; rw [hun] at h1; cases h1
      · simp [Array.getElem?_eq_none h'] at h1
    · exact wpAnyH_pures hssa hs hQ hw r fuel _ _ hT3 h
theorem wpAnyH_pures' {w : World} (wr : Nat → Nat) (L : List Nat) (fuel : Nat) {listed : Array Bool} {a : Act} (hssa : ssaB md ops wr = true) (hs : Region.noSelect ops = true) (hT : takesB md ops L listed = true) (hQ : ∀ c a d v w, Q (.panic c) (Act.put a d v) w → Q (.panic c) a w) (hw : S w)
    (h : ∀ K : Act → Prop, Shut (∀ a, wpAnyH P md ops Q S fuel (L.foldl (fun l r => l.setIfInBounds r true) listed) a w → K a) → Ys P ops S K L a) : wpAnyH P md ops Q S (fuel + L.length) listed a w :=
  wpAnyH_pures hssa hs hQ hw L fuel listed a hT (h _ (fun _ h => h))
end
end Go.Proofs.YtjpokeakemlffaaGreatDoor
/-
  A region that draws its order, whose operations that change the world come one behind the other: two conditions on the world, one that stands to the end, one that stands till an operation that writes.
-/
namespace Go.Proofs.YtjpokeakemlffaaGreatDoor
open Go
def waitsB (md : Region.Mode) (ops : Array Oper) : Nat → Nat → Nat → Bool
  | 0, _, _ => false
  | n + 1, d, i => match ops[d]? with
    | none => false
    | some o => o.after.toList.any fun e => Region.binds md e && (e.on == i || waitsB md ops n e.on i)
def closedL (md : Region.Mode) (ops : Array Oper) (listed : Array Bool) : Prop := ∀ (j : Nat) (o : Oper), ops[j]? = some o → listed.getD j false = true → ∀ e ∈ o.after, Region.binds md e = true → listed.getD e.on false = true
section
variable {P : Program} {ops : Array Oper} {Q : Exit → Act → World → Prop} {md : Region.Mode} {C1 C2 : World → Prop} {d : Nat}
theorem closed_waits {listed : Array Bool} (hc : closedL md ops listed) : ∀ (n d i : Nat), waitsB md ops n d i = true → listed.getD d false = true → listed.getD i false = true
  | 0, _, _, h, _ => by simp [waitsB] at h
  | n + 1, d, i, h, hd => by
    unfold waitsB at h
    split at h
    · cases h
    · rename_i o ho
      rw [List.any_eq_true] at h
      obtain ⟨e, he, h⟩ := h
      simp only [Bool.and_eq_true, Bool.or_eq_true, beq_iff_eq] at h
      have h1 := hc d o ho hd e (by simpa using he) h.1
      rcases h.2 with h2 | h2
      · rw [h2] at h1; exact h1
      · exact closed_waits hc n e.on i h2 h1
theorem getD_set_self {listed : Array Bool} {j k : Nat} {b : Bool} (h : listed.getD k b = true) : (listed.setIfInBounds j true).getD k b = true := by
  by_cases e : j = k
  · subst e
    rcases Nat.lt_or_ge j listed.size with h' | h'
    · simp [h']
    · simp [Array.getD, Nat.not_lt.2 h'] at h ⊢; exact h
  · rw [getD_set_ne b e]; exact h
theorem closed_set {listed : Array Bool} (hc : closedL md ops listed) {i : Nat} (hr : i ∈ Region.ready md ops listed) : closedL md ops (listed.setIfInBounds i true) := by
  intro j o ho hj e he hb
  by_cases hji : i = j
  · subst hji
    obtain ⟨_, o', ho', hall⟩ := mem_ready.1 hr
    rw [ho] at ho'; cases ho'
    exact getD_set_self (hall e he hb)
  · rw [getD_set_ne false hji] at hj
    exact getD_set_self (hc j o ho hj e he hb)
def wpAnyL (P : Program) (md : Region.Mode) (ops : Array Oper) (Q : Exit → Act → World → Prop) (C1 C2 : World → Prop) (d : Nat) : Nat → Array Bool → Act → World → Prop
  | 0, listed, a, w => Region.ready md ops listed = [] ∧ Q .normal a w
  | fuel + 1, listed, a, w => closedL md ops listed → (Region.ready md ops listed = [] → Q .normal a w) ∧
    ∀ i ∈ Region.ready md ops listed, wpOp P ops Q i (fun a' w' => (C1 w' ∧ ((listed.setIfInBounds i true).getD d false = false → C2 w')) ∧ wpAnyL P md ops Q C1 C2 d fuel (listed.setIfInBounds i true) a' w') a w
theorem wpAny_of_line : ∀ (fuel : Nat) (listed : Array Bool) (a : Act) (w : World), closedL md ops listed → wpAnyL P md ops Q C1 C2 d fuel listed a w → wpAny P md ops Q fuel listed a w
  | 0, _, _, _, _, h => h
  | fuel + 1, _, _, _, hc, h => ⟨(h hc).1, fun i hi => wpOp_mono (fun a' w' h' => wpAny_of_line fuel _ a' w' (closed_set hc hi) h'.2) ((h hc).2 i hi)⟩
theorem wpAnyL_first {i : Nat} {oi : Oper} {v : Value} {t : Bool} (hi : ops[i]? = some oi) (hsel : ∀ (j : Nat) (o : Oper) cs b, ops[j]? = some o → o.op ≠ .select cs b)
    (hQ : ∀ c a w, Q (.panic c) (a.put oi.dst v) w → Q (.panic c) a w) (ht : t = true → waitsB md ops ops.size d i = true) (hid : i ≠ d) :
    ∀ (fuel : Nat) (listed : Array Bool) (a : Act) (w : World),
      (∀ j oj, ops[j]? = some oj → j ≠ i → listed.getD j true = false → (∀ e ∈ oj.after, Region.binds md e = true → e.on ≠ i) → oi.apart ops oj = true) →
      i ∈ Region.ready md ops listed → YieldsIf P ops (fun w => C1 w ∧ (t = true → C2 w)) oi v a → C1 w → (listed.getD d false = false → C2 w) →
      wpAnyL P md ops Q C1 C2 d fuel (listed.setIfInBounds i true) (a.put oi.dst v) w → wpAnyL P md ops Q C1 C2 d (fuel + 1) listed a w := by
  intro fuel
  have hun : ∀ listed : Array Bool, closedL md ops listed → i ∈ Region.ready md ops listed → t = true → listed.getD d false = false := fun listed hc hr h => by
    cases e : listed.getD d false with
    | false => rfl
    | true =>
      have h1 := closed_waits hc _ _ _ (ht h) e
      have h0 := (mem_ready.1 hr).1
      rcases Nat.lt_or_ge i listed.size with h' | h'
      · simp [h'] at h0 h1; rw [h0] at h1; cases h1
      · simp [Array.getElem?_eq_none h'] at h1
  have low : ∀ {listed : Array Bool} {w : World}, (listed.getD d false = false → C2 w) → ((listed.setIfInBounds i true).getD d false = false → C2 w) := fun {listed w} h h' => h (by
    cases e : listed.getD d false with
    | false => rfl
    | true => rw [getD_set_self e] at h'; cases h')
  induction fuel with
  | zero =>
    intro listed a w _ hr hy h1 h2 H hc
    refine ⟨fun h => (by rw [h] at hr; cases hr), fun j hj => ?_⟩
    by_cases hji : j = i
    · subst hji; exact hy.wpOp hi ⟨h1, fun h => h2 (hun _ hc hr h)⟩ ⟨⟨h1, low h2⟩, H⟩
    · have := ready_mono hj hji
      rw [H.1] at this
      cases this
  | succ fuel ih =>
    intro listed a w hfree hr hy h1 h2 H hc
    refine ⟨fun h => (by rw [h] at hr; cases hr), fun j hj => ?_⟩
    by_cases hji : j = i
    · subst hji; exact hy.wpOp hi ⟨h1, fun h => h2 (hun _ hc hr h)⟩ ⟨⟨h1, low h2⟩, H⟩
    · have g1 := (H (closed_set hc hr)).2 j (ready_mono hj hji)
      obtain ⟨hjun, oj, hoj, hall⟩ := mem_ready.1 hj
      have hnot : ∀ e ∈ oj.after, Region.binds md e = true → e.on ≠ i := fun e he hb heq => by
        have h1 := hall e he hb
        have h0 := (mem_ready.1 hr).1
        rw [heq] at h1
        rcases Nat.lt_or_ge i listed.size with h' | h'
        · simp [h'] at h0 h1; rw [h0] at h1; cases h1
        · simp [Array.getElem?_eq_none h'] at h1
      have g2 := wpOp_putIf hoj (hfree j oj hoj hji hjun hnot) (fun cs b => hsel i oi cs b hi) (fun cs b => hsel j oj cs b hoj) hQ hy g1
      have hfree' : ∀ k ok, ops[k]? = some ok → k ≠ i → (listed.setIfInBounds j true).getD k true = false →
          (∀ e ∈ ok.after, Region.binds md e = true → e.on ≠ i) → oi.apart ops ok = true := fun k ok hk hki hun hno => by
        refine hfree k ok hk hki ?_ hno
        by_cases hjk : j = k
        · subst hjk; exact hjun
        · rw [getD_set_ne true hjk] at hun; exact hun
      have back : ∀ {w : World}, (((listed.setIfInBounds i true).setIfInBounds j true).getD d false = false → C2 w) → ((listed.setIfInBounds j true).getD d false = false → C2 w) := fun {w} h h' => h (by
        rw [Array.setIfInBounds_comm _ _ (Ne.symm hji), getD_set_ne false hid]
        exact h')
      refine wpOp_mono (fun a' w' h3 => ⟨⟨h3.2.1.1, back h3.2.1.2⟩, ih (listed.setIfInBounds j true) a' w' hfree' (ready_mono hr (Ne.symm hji)) h3.1 h3.2.1.1 (back h3.2.1.2) ?_⟩) g2
      rw [Array.setIfInBounds_comm _ _ hji]
      exact h3.2.2
def YsL (P : Program) (ops : Array Oper) (md : Region.Mode) (C1 C2 : World → Prop) (d : Nat) (K : Act → Prop) : List Nat → Act → Prop
  | [], a => K a
  | i :: r, a => ∃ oi v t, ops[i]? = some oi ∧ (t = true → waitsB md ops ops.size d i = true) ∧ YieldsIf P ops (fun w => C1 w ∧ (t = true → C2 w)) oi v a ∧ YsL P ops md C1 C2 d K r (a.put oi.dst v)
theorem Ysp {K : Act → Prop} {i : Nat} {r : List Nat} {a : Act} {oi : Oper} {v : Value} (hi : ops[i]? = some oi) (hw : Region.wanted oi (yielded ops a.tmps) = true) (hy : ∀ w, C1 w → (execOp a.eval oi).run P w = .ok (.value v) w) (h : YsL P ops md C1 C2 d K r (a.put oi.dst v)) : YsL P ops md C1 C2 d K (i :: r) a :=
  ⟨oi, v, false, hi, (fun h => by cases h), .inl ⟨hw, fun w hS => hy w hS.1⟩, h⟩
theorem Yst {K : Act → Prop} {i : Nat} {r : List Nat} {a : Act} {oi : Oper} {v : Value} (hi : ops[i]? = some oi) (hd : waitsB md ops ops.size d i = true) (hw : Region.wanted oi (yielded ops a.tmps) = true) (hy : ∀ w, C1 w ∧ C2 w → (execOp a.eval oi).run P w = .ok (.value v) w) (h : YsL P ops md C1 C2 d K r (a.put oi.dst v)) : YsL P ops md C1 C2 d K (i :: r) a :=
  ⟨oi, v, true, hi, (fun _ => hd), .inl ⟨hw, fun w hS => hy w ⟨hS.1, hS.2 rfl⟩⟩, h⟩
theorem Ysn {K : Act → Prop} {i : Nat} {r : List Nat} {a : Act} {oi : Oper} (hi : ops[i]? = some oi) (hw : Region.wanted oi (yielded ops a.tmps) = false) (h : YsL P ops md C1 C2 d K r (a.put oi.dst undef)) : YsL P ops md C1 C2 d K (i :: r) a :=
  ⟨oi, undef, false, hi, (fun h => by cases h), .inr ⟨hw, rfl⟩, h⟩
theorem wpAnyL_batch {w : World} {wr : Nat → Nat} (hssa : ssaB md ops wr = true) (hs : Region.noSelect ops = true) (hQ : ∀ c a d v w, Q (.panic c) (Act.put a d v) w → Q (.panic c) a w) (h1 : C1 w) :
    ∀ (L : List Nat) (fuel : Nat) (listed : Array Bool) (a : Act), (listed.getD d false = false → C2 w) → takesB md ops L listed = true → L.contains d = false →
      YsL P ops md C1 C2 d (fun a => wpAnyL P md ops Q C1 C2 d fuel (L.foldl (fun l r => l.setIfInBounds r true) listed) a w) L a → wpAnyL P md ops Q C1 C2 d (fuel + L.length) listed a w
  | [], _, _, _, _, _, _, h => h
  | i :: r, fuel, listed, a, h2, hT, hD, h => by
    obtain ⟨oi, v, t, hi, ht, hy, h⟩ := h
    unfold takesB at hT
    rw [hi] at hT
    simp only [Bool.and_eq_true, Bool.not_eq_true', List.all_eq_true, Bool.or_eq_true] at hT
    obtain ⟨⟨hT1, hT2⟩, hT3⟩ := hT
    simp only [List.contains_cons, Bool.or_eq_false_iff, beq_eq_false_iff_ne] at hD
    have hready : ∀ e ∈ oi.after, Region.binds md e = true → listed.getD e.on false = true := fun e he hb => by
      rcases hT2 e (by simpa using he) with h | h
      · rw [hb] at h; cases h
      · exact h
    have hr : i ∈ Region.ready md ops listed := mem_ready.2 ⟨hT1, oi, hi, hready⟩
    show wpAnyL P md ops Q C1 C2 d (fuel + r.length + 1) listed a w
    refine wpAnyL_first hi (Region.noSelect_spec hs) (fun c a w hq => hQ c a _ _ w hq) ht (Ne.symm hD.1) (fuel + r.length) listed a w (fun j oj hj hne hun hno => ssa_apart hssa hi hj hne hno (fun e he hb heq => ?_)) hr hy h1 h2 ?_
    · have h1 := hready e he hb
      rw [heq] at h1
      rcases Nat.lt_or_ge j listed.size with h' | h'
      · simp [h'] at hun h1; rw [hun] at h1; cases h1
      · simp [Array.getElem?_eq_none h'] at h1
    · exact wpAnyL_batch hssa hs hQ h1 r fuel _ _ (fun h => h2 (by rw [getD_set_ne false (Ne.symm hD.1)] at h; exact h)) hT3 hD.2 h
theorem wpL_looks {w : World} (wr : Nat → Nat) (L : List Nat) (fuel : Nat) {listed : Array Bool} {a : Act} (hssa : ssaB md ops wr = true) (hs : Region.noSelect ops = true) (hT : takesB md ops L listed = true) (hD : L.contains d = false) (hQ : ∀ c a d v w, Q (.panic c) (Act.put a d v) w → Q (.panic c) a w) (hw : C1 w ∧ (listed.getD d false = false → C2 w))
    (h : ∀ K : Act → Prop, Shut (∀ a, wpAnyL P md ops Q C1 C2 d fuel (L.foldl (fun l r => l.setIfInBounds r true) listed) a w → K a) → YsL P ops md C1 C2 d K L a) : wpAnyL P md ops Q C1 C2 d (fuel + L.length) listed a w :=
  wpAnyL_batch hssa hs hQ hw.1 L fuel listed a hw.2 hT hD (h _ (fun _ h => h))
theorem wpL_next {i : Nat} {o : Oper} {fuel : Nat} {listed : Array Bool} {a : Act} {w : World} (hr : Region.ready md ops listed = [i]) (ho : ops[i]? = some o)
    (h : ∀ K' : Act → World → Prop, Shut (∀ a w, C1 w ∧ ((listed.setIfInBounds i true).getD d false = false → C2 w) → (C1 w ∧ ((listed.setIfInBounds i true).getD d false = false → C2 w) → wpAnyL P md ops Q C1 C2 d fuel (listed.setIfInBounds i true) a w) → K' a w) → if Region.wanted o (yielded ops a.tmps) = true then Oper.wp P o a w K' Q else K' (a.put o.dst undef) w) : wpAnyL P md ops Q C1 C2 d (fuel + 1) listed a w :=
  fun _ => ⟨(fun h0 => by rw [hr] at h0; cases h0), fun j hj => by
    rw [hr] at hj
    obtain rfl := List.mem_singleton.1 hj
    exact wpOp_step ho (fun K' hK => h K' (fun a w hS hW => hK a w ⟨hS, hW hS⟩))⟩
def AllReadyL (P : Program) (md : Region.Mode) (ops : Array Oper) (Q : Exit → Act → World → Prop) (C1 C2 : World → Prop) (d : Nat) (fuel : Nat) (listed : Array Bool) (a : Act) (w : World) (rs : List Nat) : Prop :=
  ∀ i ∈ rs, wpOp P ops Q i (fun a' w' => (C1 w' ∧ ((listed.setIfInBounds i true).getD d false = false → C2 w')) ∧ wpAnyL P md ops Q C1 C2 d fuel (listed.setIfInBounds i true) a' w') a w
theorem AllReadyL.nil {fuel : Nat} {listed : Array Bool} {a : Act} {w : World} : AllReadyL P md ops Q C1 C2 d fuel listed a w [] := fun _ h => by cases h
theorem AllReadyL.cons {fuel : Nat} {listed : Array Bool} {a : Act} {w : World} {i : Nat} {o : Oper} {rs : List Nat} (ho : ops[i]? = some o)
    (h : ∀ K' : Act → World → Prop, Shut (∀ a w, C1 w ∧ ((listed.setIfInBounds i true).getD d false = false → C2 w) → (C1 w ∧ ((listed.setIfInBounds i true).getD d false = false → C2 w) → wpAnyL P md ops Q C1 C2 d fuel (listed.setIfInBounds i true) a w) → K' a w) → if Region.wanted o (yielded ops a.tmps) = true then Oper.wp P o a w K' Q else K' (a.put o.dst undef) w)
    (hs : AllReadyL P md ops Q C1 C2 d fuel listed a w rs) : AllReadyL P md ops Q C1 C2 d fuel listed a w (i :: rs) := fun j hj => by
  rcases List.mem_cons.1 hj with rfl | hj
  · exact wpOp_step ho (fun K' hK => h K' (fun a w hS hW => hK a w ⟨hS, hW hS⟩))
  · exact hs j hj
theorem wpL_done {listed : Array Bool} {a : Act} {w : World} (hr : Region.ready md ops listed = []) (h : Q .normal a w) : ∀ fuel, wpAnyL P md ops Q C1 C2 d fuel listed a w
  | 0 => ⟨hr, h⟩
  | _ + 1 => fun _ => ⟨fun _ => h, by rw [hr]; simp⟩
theorem wpL_begin {id : Nat} {a : Act} {w : World} (C1 C2 : World → Prop) (d : Nat) (hm : P.follows .mixedOrders = true) (hS : C1 w.drew ∧ C2 w.drew)
    (h : C1 w.drew ∧ ((Array.replicate ops.size false).getD d false = false → C2 w.drew) → wpAnyL P .any ops Q C1 C2 d ops.size (Array.replicate ops.size false) a w.drew) : (Code.region id ops true).wp P Q a w :=
  wp_region_any hm (wpAny_of_line _ _ _ _ (fun j o _ hj => by
    rcases Nat.lt_or_ge j ops.size with h' | h'
    · simp [Array.getD, h'] at hj
    · simp [Array.getD, Nat.not_lt.2 h'] at hj) (h ⟨hS.1, fun _ => hS.2⟩))
end
end Go.Proofs.YtjpokeakemlffaaGreatDoor
