/-
  Walks and laws, one behind the other (part 9).
-/
set_option linter.unusedSimpArgs false
set_option linter.unusedVariables false
/-
  The plain law of the wheel, first part: in which list a timer stands, and how that turns from tick to tick. No program in sight.
-/
namespace Go.Proofs.YtjpokeakemlffaaGreatDoor
abbrev Due := Int × Int
def pl (now t : Int) : Nat :=
  if t / 16 = now / 16 then (t % 16).toNat
  else if t / 16 / 16 = now / 16 / 16 then 16 + (t / 16 % 16).toNat
  else if t / 16 / 16 / 16 = now / 16 / 16 / 16 then 32 + (t / 16 / 16 % 16).toNat
  else 48
theorem pl_lt (now t : Int) : pl now t < 49 := by
  unfold pl; split
  · omega
  · split
    · omega
    · split <;> omega
theorem pl_cases (now t : Int) :
    (t / 16 = now / 16 ∧ pl now t = (t % 16).toNat) ∨ (t / 16 ≠ now / 16 ∧ t / 16 / 16 = now / 16 / 16 ∧ pl now t = 16 + (t / 16 % 16).toNat) ∨
    (t / 16 / 16 ≠ now / 16 / 16 ∧ t / 16 / 16 / 16 = now / 16 / 16 / 16 ∧ pl now t = 32 + (t / 16 / 16 % 16).toNat) ∨
    (t / 16 / 16 / 16 ≠ now / 16 / 16 / 16 ∧ pl now t = 48) := by
  unfold pl
  by_cases a : t / 16 = now / 16
  · exact .inl ⟨a, if_pos a⟩
  · by_cases b : t / 16 / 16 = now / 16 / 16
    · exact .inr (.inl ⟨a, b, by rw [if_neg a, if_pos b]⟩)
    · by_cases c : t / 16 / 16 / 16 = now / 16 / 16 / 16
      · exact .inr (.inr (.inl ⟨b, c, by rw [if_neg a, if_neg b, if_pos c]⟩))
      · exact .inr (.inr (.inr ⟨c, by rw [if_neg a, if_neg b, if_neg c]⟩))
theorem pl_next {now t : Int} (h : now < t) :
    pl (now + 1) t = pl now t ∨ ((now + 1) % 4096 = 0 ∧ pl now t = 48) ∨ ((now + 1) % 256 = 0 ∧ pl now t = 32 + ((now + 1) / 16 / 16 % 16).toNat) ∨ ((now + 1) % 16 = 0 ∧ pl now t = 16 + ((now + 1) / 16 % 16).toNat) := by
  by_cases h1 : (now + 1) % 16 = 0
  · have e1 : now / 16 = (now + 1) / 16 - 1 := by omega
    have g1 : (now + 1) / 16 ≤ t / 16 := by omega
    have p := pl_cases now t
    have q := pl_cases (now + 1) t
    generalize pl now t = u at *
    generalize pl (now + 1) t = v at *
    have f1 : (now + 1) % 256 = 0 ↔ (now + 1) / 16 % 16 = 0 := by omega
    have f2 : (now + 1) % 4096 = 0 ↔ (now + 1) / 16 % 16 = 0 ∧ (now + 1) / 16 / 16 % 16 = 0 := by omega
    rw [f1, f2]
    generalize hA : (now + 1) / 16 = A at *
    generalize hT : t / 16 = T at *
    rw [e1] at p
    clear f1 f2 hT hA h
    by_cases h2 : A % 16 = 0
    · have e2 : (A - 1) / 16 = A / 16 - 1 := by omega
      have g2 : A / 16 ≤ T / 16 := by omega
      rw [e2] at p
      have k1 : T ≠ A - 1 := by omega
      have k2 : T / 16 ≠ A / 16 - 1 := by omega
      simp only [k1, k2, h2, false_and, false_or, true_and, ne_eq, not_false_eq_true] at p ⊢
      by_cases h3 : A / 16 % 16 = 0
      · have e3 : (A / 16 - 1) / 16 = A / 16 / 16 - 1 := by omega
        have g3 : A / 16 / 16 ≤ T / 16 / 16 := by omega
        rw [e3] at p
        have k3 : T / 16 / 16 ≠ A / 16 / 16 - 1 := by omega
        simp only [k3, h3, false_and, false_or, true_and, not_false_eq_true] at p ⊢
        exact .inr (.inl p)
      · have e3 : (A / 16 - 1) / 16 = A / 16 / 16 := by omega
        rw [e3] at p
        simp only [h3, false_and, false_or]
        rcases p with ⟨a, p⟩ | ⟨a, p⟩ <;> rcases q with ⟨c, q⟩ | ⟨c, d, q⟩ | ⟨c, d, q⟩ | ⟨c, q⟩ <;> omega
    · have e2 : (A - 1) / 16 = A / 16 := by omega
      rw [e2] at p
      have k1 : T ≠ A - 1 := by omega
      simp only [k1, h2, false_and, false_or, true_and, ne_eq, not_false_eq_true] at p ⊢
      rcases p with ⟨a, p⟩ | ⟨a, b, p⟩ | ⟨a, p⟩ <;> rcases q with ⟨c, q⟩ | ⟨c, d, q⟩ | ⟨c, d, q⟩ | ⟨c, q⟩ <;> omega
  · left
    have e1 : now / 16 = (now + 1) / 16 := by omega
    unfold pl
    rw [e1]
end Go.Proofs.YtjpokeakemlffaaGreatDoor
/-
  SHA-256 over words of 32 bits: the plain functions. No program in sight.
-/
namespace Go.Proofs.YtjpokeakemlffaaGreatDoor
abbrev W32 := BitVec 32
def rr (x : W32) (k : Nat) : W32 := (x <<< (32 - k)) ||| (x >>> k)
def trn (x : W32) (a b c : Nat) : W32 := rr x a ^^^ rr x b ^^^ rr x c
def rUp (s : Nat → W32) (x : W32) : W32 := s 7 + trn (s 4) 6 11 25 + (s 6 ^^^ s 4 &&& (s 5 ^^^ s 6)) + x
def rTop (s : Nat → W32) (x : W32) : W32 := rUp s x + trn (s 0) 2 13 22 + (s 0 &&& s 1 ^^^ s 0 &&& s 2 ^^^ s 1 &&& s 2)
def rnd (s : Nat → W32) (x : W32) : Nat → W32
  | 0 => rTop s x
  | 1 => s 0
  | 2 => s 1
  | 3 => s 2
  | 4 => s 3 + rUp s x
  | 5 => s 4
  | 6 => s 5
  | _ => s 6
end Go.Proofs.YtjpokeakemlffaaGreatDoor
