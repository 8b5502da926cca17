/-
  Walks and laws, one behind the other (part 36).
-/
import Derived.ProofKit
set_option linter.unusedSimpArgs false
set_option linter.unusedVariables false
/-
  The plain law of the states of a connection: what some moves lead to, by a list that grows, against what the document says, by a search to a depth of eight. No program in sight.
-/
namespace Go.Proofs.YtfjdhdeiaakbaaaGreatDoor

/-- The moves. -/
def mvL : List (Int × Int × Int) := [(0, 0, 1), (1, 1, 2), (1, 3, 4), (2, 2, 3), (2, 3, 5), (3, 3, 7), (4, 1, 6), (5, 2, 7), (6, 2, 7), (7, 4, 8)]
def fndM (s e : Int) : List (Int × Int × Int) → Option Int
  | [] => none
  | m :: r => if m.1 = s ∧ m.2.1 = e then some m.2.2 else fndM s e r
/-- Where a move leads. -/
def stp (s e : Int) : Option Int := if e = 5 ∧ 0 ≤ s ∧ s < 8 then some 8 else fndM s e mvL
/-- The document's move: below 0: none. -/
def toR (s e : Int) : Int :=
  if e = 5 ∧ 0 ≤ s ∧ s < 8 then 8
  else if s = 0 ∧ e = 0 then 1
  else if s = 1 ∧ e = 1 then 2
  else if s = 1 ∧ e = 3 then 4
  else if s = 2 ∧ e = 2 then 3
  else if s = 2 ∧ e = 3 then 5
  else if (s = 3 ∧ e = 3) ∨ (s = 5 ∧ e = 2) ∨ (s = 6 ∧ e = 2) then 7
  else if s = 4 ∧ e = 1 then 6
  else if s = 7 ∧ e = 4 then 8
  else -1
theorem toR_out {s : Int} (h : ¬ (0 ≤ s ∧ s < 8)) (e : Int) : toR s e = -1 := by
  unfold toR
  repeat rw [if_neg (by omega)]
theorem stp_out {s : Int} (h : ¬ (0 ≤ s ∧ s < 8)) (e : Int) : stp s e = none := by
  unfold stp
  rw [if_neg (by omega)]
  simp only [mvL, fndM]
  repeat rw [if_neg (by omega)]
/-- One move's state is added, if it is new. -/
def addE (out : List Int) (x : Int) (e : Nat) : List Int :=
  match stp x e with
  | some t => if t ∈ out then out else out ++ [t]
  | none => out
def evs (out : List Int) (x : Int) : Nat → List Int
  | 0 => out
  | e + 1 => addE (evs out x e) x e
/-- The list when its first i have been looked at. -/
def outAt (a : Int) : Nat → List Int
  | 0 => [a]
  | i + 1 => match (outAt a i)[i]? with
    | some x => evs (outAt a i) x 6
    | none => outAt a i
def fromL (a : Int) : List Int := outAt a 9
theorem evs_out {a : Int} (h : ¬ (0 ≤ a ∧ a < 8)) (out : List Int) : ∀ e, evs out a e = out
  | 0 => rfl
  | e + 1 => by rw [evs, evs_out h out e, addE, stp_out h]
theorem outAt_out {a : Int} (h : ¬ (0 ≤ a ∧ a < 8)) : ∀ i, outAt a i = [a]
  | 0 => rfl
  | i + 1 => by
    rw [outAt, outAt_out h i]
    cases i with
    | zero => exact evs_out h [a] 6
    | succ i => rfl
theorem eight {a : Int} (h : 0 ≤ a ∧ a < 8) : a = 0 ∨ a = 1 ∨ a = 2 ∨ a = 3 ∨ a = 4 ∨ a = 5 ∨ a = 6 ∨ a = 7 := by omega
/-- It has no more than nine. -/
theorem outAt_len (a : Int) (i : Nat) (hi : i ≤ 9) : (outAt a i).length ≤ 9 ∧ (∀ e, e ≤ 6 → ∀ x, (outAt a i)[i]? = some x → (evs (outAt a i) x e).length ≤ 9) := by
  by_cases h : 0 ≤ a ∧ a < 8
  · have hall : ∀ a ∈ [(0 : Int), 1, 2, 3, 4, 5, 6, 7], ∀ i ∈ List.range 10, (outAt a i).length ≤ 9 ∧ ∀ e ∈ List.range 7, ∀ x ∈ (outAt a i)[i]?.toList, (evs (outAt a i) x e).length ≤ 9 := by decide +kernel
    obtain ⟨h1, h2⟩ := hall a (by have := eight h; simp only [List.mem_cons, List.not_mem_nil, or_false]; exact this) i (List.mem_range.2 (by omega))
    exact ⟨h1, fun e he x hx => h2 e (List.mem_range.2 (by omega)) x (by rw [hx]; simp)⟩
  · rw [outAt_out h]
    refine ⟨by simp, fun e _ x hx => ?_⟩
    obtain rfl : x = a := by
      cases i with
      | zero => simpa using hx.symm
      | succ i => simp at hx
    rw [evs_out h]; simp
/-- It is done when none is left. -/
theorem outAt_done (a : Int) (i : Nat) (hi : i ≤ 9) (h : (outAt a i).length ≤ i) : outAt a i = fromL a := by
  have : ∀ j, outAt a (i + j) = outAt a i := by
    intro j
    induction j with
    | zero => rfl
    | succ j ih =>
      rw [← Nat.add_assoc, outAt, ih, List.getElem?_eq_none (by omega)]
  have h9 := this (9 - i)
  rw [show i + (9 - i) = 9 by omega] at h9
  exact h9.symm
/-- The document's search. -/
def leadsR : Nat → Int → Int → Bool
  | 0, a, b => decide (a = b)
  | n + 1, a, b => decide (a = b) || (List.range 6).any fun (e : Nat) => decide (0 ≤ toR a e) && leadsR n (toR a e) b
def leadsL : Nat → Int → List Int
  | 0, a => [a]
  | n + 1, a => a :: (List.range 6).flatMap fun (e : Nat) => if 0 ≤ toR a e then leadsL n (toR a e) else []
theorem leadsR_iff : ∀ (n : Nat) (a b : Int), leadsR n a b = true ↔ b ∈ leadsL n a
  | 0, a, b => by simp [leadsR, leadsL, eq_comm]
  | n + 1, a, b => by
    rw [leadsR, leadsL, Bool.or_eq_true, List.mem_cons, decide_eq_true_iff, List.any_eq_true, List.mem_flatMap]
    refine or_congr eq_comm (exists_congr fun e => and_congr_right fun _ => ?_)
    rw [Bool.and_eq_true, decide_eq_true_iff, leadsR_iff n]
    by_cases h : 0 ≤ toR a e
    · rw [if_pos h]; simp [h]
    · rw [if_neg h]; simp [h]
theorem leadsL_out {a : Int} (h : ¬ (0 ≤ a ∧ a < 8)) : ∀ n, leadsL n a = [a]
  | 0 => rfl
  | n + 1 => by
    rw [leadsL]
    simp only [toR_out h]
    rfl
/-- The law of the moves. -/
theorem moves_law (a b : Int) : decide (b ∈ fromL a) = leadsR 8 a b := by
  rw [Bool.eq_iff_iff, decide_eq_true_iff, leadsR_iff]
  by_cases h : 0 ≤ a ∧ a < 8
  · have hall : ∀ a ∈ [(0 : Int), 1, 2, 3, 4, 5, 6, 7], (∀ x ∈ fromL a, x ∈ leadsL 8 a) ∧ (∀ x ∈ leadsL 8 a, x ∈ fromL a) := by decide +kernel
    obtain ⟨h1, h2⟩ := hall a (by have := eight h; simp only [List.mem_cons, List.not_mem_nil, or_false]; exact this)
    exact ⟨h1 b, h2 b⟩
  · rw [leadsL_out h, fromL, outAt_out h]
end Go.Proofs.YtfjdhdeiaakbaaaGreatDoor
