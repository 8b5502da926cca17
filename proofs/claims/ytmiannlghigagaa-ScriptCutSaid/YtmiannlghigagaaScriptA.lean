/-
  The contracts of script.Right, script.byteful and the reference's Right: for every entry they answer rightB; nothing that was there is written.
-/
import Derived.Test.YtmiannlghigagaaProg
import Derived.Test.YtmiannlghigagaaBase
import Derived.WalkKit
import Derived.LoopTactic
import Derived.Outline
import Derived.BigQuiet
import Derived.Deep.QuietTactic
namespace Go.Proofs.Ytmiannlghigagaa
open Go.RowKit

/-- An entry. -/
structure Ent where
  k : Int
  s : Int
  a : Int
  b : Int
  c : Int
def Ent.cells (e : Ent) : List Value := [.int .i64 e.k, .int .i64 e.s, .int .i64 e.a, .int .i64 e.b, .int .i64 e.c]
theorem Ent.cells_length (e : Ent) : e.cells.length = 5 := rfl

def byB (n : Int) : Bool := decide (0 ≤ n ∧ n ≤ 255)
def rightB (e : Ent) : Bool := decide (0 ≤ e.k ∧ e.k < 16 ∧ (e.s = 0 ∨ e.s = 1)) && (byB e.a && byB e.b && byB e.c)
theorem byB_no1 {n : Int} (h : n < 0) : byB n = false := by simp [byB]; omega
theorem byB_no2 {n : Int} (h : 255 < n) : byB n = false := by simp [byB]; omega
theorem byB_yes {n : Int} (h : 0 ≤ n) (h2 : n ≤ 255) : byB n = true := by simp [byB]; omega

theorem refByteful_any (n : Int) (w : World) :
    Calls Try.prog 18 #[.int .i64 n] w fun e w' => e = .returned (.bool (byB n)) ∧ w = w' := by
  by_cases h : 0 ≤ n
  · go_enter Try.func18, Try.ntmps18
    go_wp2
    go_ret
    exact ⟨ret_bool (by simp [byB, h]), rfl⟩
  · go_enter Try.func18, Try.ntmps18
    go_wp2
    go_ret
    exact ⟨ret_bool (by simp [byB]; omega), rfl⟩

def at3 (x y z : Int) (k : Nat) : Int := if k = 0 then x else if k = 1 then y else z
theorem at3_all {x y z : Int} (h : ∀ j, j < 3 → byB (at3 x y z j) = true) : (byB x && byB y && byB z) = true := by
  have h0 := h 0 (by omega)
  have h1 := h 1 (by omega)
  have h2 := h 2 (by omega)
  simp [at3] at h0 h1 h2
  simp [h0, h1, h2]
theorem at3_no {x y z : Int} {k : Nat} (hk : k < 3) (h : byB (at3 x y z k) = false) : (byB x && byB y && byB z) = false := by
  match k, hk with
  | 0, _ => simp [at3] at h; simp [h]
  | 1, _ => simp [at3] at h; simp [h]
  | 2, _ => simp [at3] at h; simp [h]

theorem byteful_any (b : Nat) (x y z : Int) (w : World) (c0 : w.cell? ⟨b, 0, none⟩ = some (.int .i64 x)) (c1 : w.cell? ⟨b, 1, none⟩ = some (.int .i64 y)) (c2 : w.cell? ⟨b, 2, none⟩ = some (.int .i64 z)) :
    Calls Try.prog 17 #[.slice (some ⟨b, 0, none⟩) 3 3] w fun e w' => e = .returned (.bool (byB x && byB y && byB z)) ∧ w = w' := by
  have hc : ∀ k : Nat, k < 3 → w.cell? ⟨b, 0 + k, none⟩ = some (.int .i64 (at3 x y z k)) := by
    intro k hk
    match k, hk with
    | 0, _ => exact c0
    | 1, _ => exact c1
    | 2, _ => exact c2
  clear c0 c1 c2
  have hcH := Lib.hid hc
  clear hc
  go_enter Try.func17, Try.ntmps17
  go_wp2
  go_loop [4, 7] (fun _ i => ∃ k : Nat, k ≤ 3 ∧ i = .int .i64 k ∧ ∀ j, j < k → byB (at3 x y z j) = true) (fun _ i => 3 - (intOf i).toNat)
  case atStart => exact ⟨0, by omega, rfl, fun j h => absurd h (by omega)⟩
  case round =>
    obtain ⟨k, hk, rfl, hall⟩ := hrel
    have hallH := Lib.hid hall
    clear hall
    by_cases hlt : k < 3
    · have hx := hcH.out k hlt
      simp only [Nat.zero_add] at hx
      by_cases h0 : at3 x y z k < 0
      · go_wp2
        go_ret
        exact ⟨ret_bool (at3_no hlt (byB_no1 h0)).symm, rfl⟩
      · by_cases h1 : 255 < at3 x y z k
        · go_wp2
          go_ret
          exact ⟨ret_bool (at3_no hlt (byB_no2 h1)).symm, rfl⟩
        · go_wp2
          go_round
          case rel =>
            refine ⟨k+1, by omega, by go_num, fun j hj => ?_⟩
            by_cases e : j = k
            · subst e; exact byB_yes (by omega) (by omega)
            · exact hallH.out j (by omega)
          case measure => simp [intOf]; omega
    · go_wp2
      go_ret
      exact ⟨ret_bool (at3_all fun j hj => hallH.out j (by omega)).symm, rfl⟩

theorem right_any (e : Ent) (w : World) :
    Calls Try.prog 9 #[.agg #[.int .i64 e.k, .int .i64 e.s, .int .i64 e.a, .int .i64 e.b, .int .i64 e.c]] w fun r w' => r = .returned (.bool (rightB e)) ∧ Below w.heap.size w w' := by
  obtain ⟨k, s, a, b, c⟩ := e
  dsimp only
  by_cases h1 : 0 ≤ k
  · by_cases h2 : k < 16
    · by_cases h3 : s = 0 ∨ s = 1
      · have hs : rightB ⟨k, s, a, b, c⟩ = (byB a && byB b && byB c) := by simp [rightB, h1, h2, h3]
        have HS := Lib.hid hs
        clear hs
        rcases h3 with rfl | rfl
        all_goals
          go_enter Try.func9, Try.ntmps9
          go_wp2_with (go_at_call 17; refine (byteful_any _ a b c _ (by go_simp) (by go_simp) (by go_simp)).mono ?_; rintro e w' ⟨rfl, rfl⟩)
          go_ret
          exact ⟨ret_bool HS.out.symm, ((Below.refl _ _).alloc (Nat.le_refl _) _).alloc (by simp) _⟩
      · have hs : rightB ⟨k, s, a, b, c⟩ = false := by simp [rightB]; intros; omega
        have HS := Lib.hid hs
        clear hs
        have hs0 : (s == 0) = false := by rw [beq_eq_false_iff_ne]; omega
        have hs1 : (s == 1) = false := by rw [beq_eq_false_iff_ne]; omega
        clear h3
        go_enter Try.func9, Try.ntmps9
        go_wp2
        go_ret
        exact ⟨ret_bool HS.out.symm, ((Below.refl _ _).alloc (Nat.le_refl _) _)⟩
    · have hs : rightB ⟨k, s, a, b, c⟩ = false := by simp [rightB]; intros; omega
      have HS := Lib.hid hs
      clear hs
      go_enter Try.func9, Try.ntmps9
      go_wp2
      go_ret
      exact ⟨ret_bool HS.out.symm, ((Below.refl _ _).alloc (Nat.le_refl _) _)⟩
  · have hs : rightB ⟨k, s, a, b, c⟩ = false := by simp [rightB]; intros; omega
    have HS := Lib.hid hs
    clear hs
    go_enter Try.func9, Try.ntmps9
    go_wp2
    go_ret
    exact ⟨ret_bool HS.out.symm, ((Below.refl _ _).alloc (Nat.le_refl _) _)⟩
end Go.Proofs.Ytmiannlghigagaa
