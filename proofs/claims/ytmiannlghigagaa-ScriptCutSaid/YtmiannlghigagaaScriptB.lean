/-
  The contracts of the reference's Right and of the two Sames.
-/
import Derived.Test.YtmiannlghigagaaScriptA
namespace Go.Proofs.Ytmiannlghigagaa
open Go.RowKit

theorem refRight_any (e : Ent) (w : World) :
    Calls Try.prog 13 #[.agg #[.int .i64 e.k, .int .i64 e.s, .int .i64 e.a, .int .i64 e.b, .int .i64 e.c]] w fun r w' => r = .returned (.bool (rightB e)) ∧ Below w.heap.size w w' := by
  obtain ⟨k, s, a, b, c⟩ := e
  dsimp only
  by_cases h1 : 0 ≤ k ∧ k ≤ 15 ∧ 0 ≤ s ∧ s ≤ 1
  · obtain ⟨h1, h2, h3, h4⟩ := h1
    have hs : rightB ⟨k, s, a, b, c⟩ = (byB a && byB b && byB c) := by
      have : s = 0 ∨ s = 1 := by omega
      simp [rightB, h1, this]; omega
    have HS := Lib.hid hs
    clear hs
    rcases ha : byB a <;> rcases hb : byB b <;> rcases hc : byB c
    all_goals
      go_enter Try.func13, Try.ntmps13
      go_wp2_with (go_at_call 18; refine (refByteful_any _ _).mono ?_; rintro e w' ⟨rfl, rfl⟩)
      go_ret
      exact ⟨ret_bool (by rw [HS.out]; simp [ha, hb, hc]), (Below.refl _ _).alloc (Nat.le_refl _) _⟩
  · have hs : rightB ⟨k, s, a, b, c⟩ = false := by simp [rightB]; intros; omega
    have HS := Lib.hid hs
    clear hs
    by_cases g1 : 0 ≤ k
    · by_cases g2 : k ≤ 15
      · by_cases g3 : 0 ≤ s
        · have g4 : ¬ s ≤ 1 := by omega
          clear h1
          go_enter Try.func13, Try.ntmps13
          go_wp2
          go_ret
          exact ⟨ret_bool HS.out.symm, ((Below.refl _ _).alloc (Nat.le_refl _) _)⟩
        · clear h1
          go_enter Try.func13, Try.ntmps13
          go_wp2
          go_ret
          exact ⟨ret_bool HS.out.symm, ((Below.refl _ _).alloc (Nat.le_refl _) _)⟩
      · clear h1
        go_enter Try.func13, Try.ntmps13
        go_wp2
        go_ret
        exact ⟨ret_bool HS.out.symm, ((Below.refl _ _).alloc (Nat.le_refl _) _)⟩
    · clear h1
      go_enter Try.func13, Try.ntmps13
      go_wp2
      go_ret
      exact ⟨ret_bool HS.out.symm, ((Below.refl _ _).alloc (Nat.le_refl _) _)⟩

def sameInts (l m : List Int) : Bool := decide (l = m)
theorem refSame_any (A C : Option Addr) (l m : List Int) (ca cc : Nat) (w : World) (hl : Rd w w.heap.size 1 encB A l) (hm : Rd w w.heap.size 1 encB C m) (h1 : l.length ≤ 140737488351232) (h2 : m.length ≤ 140737488351232) :
    Calls Try.prog 14 #[.slice A l.length ca, .slice C m.length cc] w fun r w' => r = .returned (.bool (decide (l = m))) ∧ ∃ n, w' = w.drewN n := by
  by_cases hn : l.length = m.length
  · have hnH := Lib.hid hn
    have hle : l.length ≤ m.length := by omega
    have hge : m.length ≤ l.length := by omega
    have hB : (((l.length : Nat) : Int) != ((m.length : Nat) : Int)) = false := by simp [hn]
    clear hn
    go_enter Try.func14, Try.ntmps14
    go_wp2
    go_loopw [5] (fun i wr => ∃ k n : Nat, k ≤ l.length ∧ i = .int .i64 k ∧ wr = w.drewN n ∧ ∀ (j : Nat) (hj : j < k) (h : j < l.length) (h' : j < m.length), l[j] = m[j]) (fun i _ => l.length - (intOf i).toNat)
    case atStart => exact ⟨0, 0, by omega, rfl, rfl, fun j h => absurd h (by omega)⟩
    case round =>
      obtain ⟨k, n, hk, rfl, rfl, hall⟩ := hrel
      have hallH := Lib.hid hall
      clear hall
      by_cases hlt : k < l.length
      · obtain ⟨b, off, rfl, _, hc⟩ := hl.byte (List.ne_nil_of_length_pos (by omega))
        obtain ⟨b', off', rfl, _, hc'⟩ := hm.byte (List.ne_nil_of_length_pos (by omega))
        have c1 := hc k hlt
        have c2 := hc' k (by omega)
        clear hc hc'
        by_cases he : l[k] = m[k]'(by omega)
        · have heH := Lib.hid he
          have heB : (l[k] != m[k]'(by omega)) = false := by simp [he]
          clear he
          go_wp2
          go_quiet (fail)
          go_wp2
          go_roundw
          case rel =>
            refine ⟨k + 1, _, by omega, by go_num, rfl, fun j hj h h' => ?_⟩
            by_cases e : j = k
            · subst e; exact heH.out
            · exact hallH.out j (by omega) h h'
          case measure => simp [intOf]; omega
        · have heH := Lib.hid he
          have heB : (l[k] != m[k]'(by omega)) = true := by simp [he]
          clear he
          go_wp2
          go_quiet (fail)
          go_wp2
          go_ret
          refine ⟨ret_bool ?_, n + _, by rw [World.drewN_drewN]⟩
          symm; rw [decide_eq_false_iff_not]
          intro e; subst e; exact heH.out rfl
      · go_wp2
        go_ret
        refine ⟨ret_bool ?_, _, rfl⟩
        symm; rw [decide_eq_true_iff]
        exact List.ext_getElem hnH.out fun j h h' => hallH.out j (by omega) h h'
  · have hB : (((l.length : Nat) : Int) != ((m.length : Nat) : Int)) = true := by simp; omega
    have hnH := Lib.hid hn
    clear hn
    go_enter Try.func14, Try.ntmps14
    go_wp2
    go_ret
    refine ⟨ret_bool ?_, 0, rfl⟩
    symm; rw [decide_eq_false_iff_not]
    intro e; exact hnH.out (by rw [e])

theorem Rd.ent {w : World} {B : Nat} {A : Option Addr} {l : List Ent} (h : Rd w B 5 Ent.cells A l) (hl : l ≠ []) : ∃ b off, A = some ⟨b, off, none⟩ ∧ b < B ∧ ∀ k (hk : k < l.length),
    w.cell? ⟨b, off + k * 5, none⟩ = some (.int .i64 l[k].k) ∧ w.cell? ⟨b, off + k * 5 + 1, none⟩ = some (.int .i64 l[k].s) ∧ w.cell? ⟨b, off + k * 5 + 2, none⟩ = some (.int .i64 l[k].a) ∧
    w.cell? ⟨b, off + k * 5 + 3, none⟩ = some (.int .i64 l[k].b) ∧ w.cell? ⟨b, off + k * 5 + 4, none⟩ = some (.int .i64 l[k].c) := by
  obtain ⟨b, off, e, hb, hc⟩ := h hl
  refine ⟨b, off, e, hb, fun k hk => ?_⟩
  have := hc k _ (List.getElem?_eq_getElem hk)
  exact ⟨this 0 _ rfl, this 1 _ rfl, this 2 _ rfl, this 3 _ rfl, this 4 _ rfl⟩
theorem ent_eq {x y : Ent} (h : (x.k == y.k) = true) (h1 : (x.s == y.s) = true) (h2 : (x.a == y.a) = true) (h3 : (x.b == y.b) = true) (h4 : (x.c == y.c) = true) : x = y := by
  cases x; cases y; simp_all

theorem sameEnts_any (A C : Option Addr) (l m : List Ent) (ca cc : Nat) (w : World) (hl : Rd w w.heap.size 5 Ent.cells A l) (hm : Rd w w.heap.size 5 Ent.cells C m) (h1 : l.length ≤ 140737488351232) (h2 : m.length ≤ 140737488351232) (hn : l = m) :
    Calls Try.prog 10 #[.slice A l.length ca, .slice C m.length cc] w fun r w' => r = .returned (.bool true) ∧ ∃ n, w' = w.drewN n := by
  subst hn
  have hB : (((l.length : Nat) : Int) != ((l.length : Nat) : Int)) = false := by simp
  go_enter Try.func10, Try.ntmps10
  go_wp2
  go_loopw [5] (fun i wr => ∃ k n : Nat, k ≤ l.length ∧ i = .int .i64 k ∧ wr = w.drewN n) (fun i _ => l.length - (intOf i).toNat)
  case atStart => exact ⟨0, 0, by omega, rfl, rfl⟩
  case round =>
    obtain ⟨k, n, hk, rfl, rfl⟩ := hrel
    by_cases hlt : k < l.length
    · obtain ⟨b, off, rfl, _, hc⟩ := hl.ent (List.ne_nil_of_length_pos (by omega))
      obtain ⟨b', off', rfl, _, hc'⟩ := hm.ent (List.ne_nil_of_length_pos (by omega))
      obtain ⟨c0, c1, c2, c3, c4⟩ := hc k hlt
      obtain ⟨d0, d1, d2, d3, d4⟩ := hc' k hlt
      clear hc hc'
      go_wp2
      go_quiet (fail)
      go_wp2
      go_roundw
      case rel => exact ⟨k + 1, _, by omega, by go_num, rfl⟩
      case measure => simp [intOf]; omega
    · go_wp2
      go_ret
      exact ⟨rfl, _, rfl⟩
end Go.Proofs.Ytmiannlghigagaa
