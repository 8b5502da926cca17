/-
  The reference's First.
-/
import Derived.BigQuiet
import Derived.Deep.RegionHeld3
import Derived.Test.YtmjmiadogniopaaRfB
import Derived.Test.YtmjmiadogniopaaRfP
namespace Go.Proofs.Ytmjmiadogniopaa
open Go.RowKit

set_option maxRecDepth 100000 in
set_option maxHeartbeats 6400000 in
theorem rfirst_any (base rb : Nat) (v : Value) (n : Int) (L : List Due) (w : World) (hR : Rf w base rb v n L) (hL : L.length ≤ 10000) :
    Calls Try.prog 22 #[.pointer (some ⟨rb, 0, none⟩)] w fun e w' => ∃ i, e = .returned (.int .i64 i) ∧ IsFirst L i ∧ ∃ q, w' = w.drewN q := by
  obtain ⟨A, c, rfl, -⟩ := own_slice hR.own
  have HR := Lib.hid hR
  have HLL := Keep.mk hL
  clear hR
  go_enter Try.func22, Try.ntmps22
  go_wp2
  go_loopw [3, 4] (fun best i wr => ∃ (k : Nat) (bi : Int), k ≤ L.length ∧ i = .int .i64 k ∧ best = .int .i64 bi ∧ Keep (FirstUp L k bi) ∧ ∃ q, wr = w.drewN q) (fun _ i _ => L.length - (intOf i).toNat)
  case atStart => exact ⟨0, -1, by omega, rfl, rfl, ⟨.inl ⟨rfl, rfl⟩⟩, 0, rfl⟩
  case round =>
    obtain ⟨k, bi, hk, rfl, rfl, HF, q, hq⟩ := hrel
    have HQ := Keep.mk hq
    clear hq
    have c1 : wr.cell? ⟨rb, 1, none⟩ = some (.slice A L.length c) := by rw [HQ.out]; exact HR.out.listC
    by_cases hlt : k < L.length
    · obtain ⟨⟨d1, d2⟩, hd⟩ : ∃ d, L[k] = d := ⟨_, rfl⟩
      have hLd : L[k]? = some (d1, d2) := by rw [List.getElem?_eq_getElem hlt, hd]
      clear hd
      obtain ⟨g, off, hA, hg, hc⟩ := Rd.of_own dueC_length (by decide) HR.out.own (List.ne_nil_of_length_pos (by omega))
      have p0 : wr.cell? ⟨g, off + k * 2, none⟩ = some (.int .i64 d1) := by rw [HQ.out]; exact hc k _ hLd 0 _ rfl
      have p1 : wr.cell? ⟨g, off + k * 2 + 1, none⟩ = some (.int .i64 d2) := by rw [HQ.out]; exact hc k _ hLd 1 _ rfl
      subst hA
      have hki : ((k : Nat) : Int) < (L.length : Int) := by omega
      rcases HF.out with ⟨h1, rfl⟩ | ⟨kb, cb, rfl, hkb, hLb, hall⟩
      · have HN : Keep (FirstUp L (k + 1) k) := ⟨by subst h1; exact FirstUp.one hLd⟩
        clear hc hg hLd h1
        go_wp2_with fail
        go_big_quiet (fail)
        go_wp2_with fail
        go_roundw
        case rel => exact ⟨k + 1, k, by omega, by go_num, rfl, HN, q + nq, by rw [HQ.out]; exact World.drewN_drewN _ _ _⟩
        case measure => simp [intOf] <;> omega
      · obtain ⟨a1, a2⟩ := cb
        have b0 : wr.cell? ⟨g, off + kb * 2, none⟩ = some (.int .i64 a1) := by rw [HQ.out]; exact hc kb _ hLb 0 _ rfl
        have b1 : wr.cell? ⟨g, off + kb * 2 + 1, none⟩ = some (.int .i64 a2) := by rw [HQ.out]; exact hc kb _ hLb 1 _ rfl
        have hkbi : ((kb : Nat) : Int) < (L.length : Int) := by omega
        have hkd : decide (((kb : Nat) : Int) < 0) = false := decide_eq_false (by omega)
        rcases Int.lt_trichotomy d2 a2 with h1 | rfl | h1
        · have x1 : decide (d2 < a2) = true := decide_eq_true h1
          have HN : Keep (FirstUp L (k + 1) k) := ⟨FirstUp.turn hLd hall (by unfold lexle; show _ ∨ _; simp only; omega)⟩
          clear hc hg hLd hall hLb h1
          go_wp2_with fail
          go_big_quiet (fail)
          go_wp2_with fail
          go_roundw
          case rel => exact ⟨k + 1, k, by omega, by go_num, rfl, HN, q + nq, by rw [HQ.out]; exact World.drewN_drewN _ _ _⟩
          case measure => simp [intOf] <;> omega
        · rcases Int.lt_or_le d1 a1 with h2 | h2
          · have x1 : decide (d2 < d2) = false := decide_eq_false (by omega)
            have x2 : decide (d1 < a1) = true := decide_eq_true h2
            have HN : Keep (FirstUp L (k + 1) k) := ⟨FirstUp.turn hLd hall (.inr ⟨rfl, Int.le_of_lt h2⟩)⟩
            clear hc hg hLd hall hLb h2
            go_wp2_with fail
            go_big_quiet (fail)
            go_wp2_with fail
            go_roundw
            case rel => exact ⟨k + 1, k, by omega, by go_num, rfl, HN, q + nq, by rw [HQ.out]; exact World.drewN_drewN _ _ _⟩
            case measure => simp [intOf] <;> omega
          · have x1 : decide (d2 < d2) = false := decide_eq_false (by omega)
            have x2 : decide (d1 < a1) = false := decide_eq_false (by omega)
            have HN : Keep (FirstUp L (k + 1) kb) := ⟨FirstUp.stay hLd hkb hLb hall (.inr ⟨rfl, h2⟩)⟩
            clear hc hg hLd hall hLb h2
            go_wp2_with fail
            go_big_quiet (fail)
            go_wp2_with fail
            go_roundw
            case rel => exact ⟨k + 1, kb, by omega, by go_num, rfl, HN, q + nq, by rw [HQ.out]; exact World.drewN_drewN _ _ _⟩
            case measure => simp [intOf] <;> omega
        · have x1 : decide (d2 < a2) = false := decide_eq_false (by omega)
          have x3 : (d2 == a2) = false := by simp; omega
          have HN : Keep (FirstUp L (k + 1) kb) := ⟨FirstUp.stay hLd hkb hLb hall (by unfold lexle; show _ ∨ _; simp only; omega)⟩
          clear hc hg hLd hall hLb h1
          go_wp2_with fail
          go_big_quiet (fail)
          go_wp2_with fail
          go_roundw
          case rel => exact ⟨k + 1, kb, by omega, by go_num, rfl, HN, q + nq, by rw [HQ.out]; exact World.drewN_drewN _ _ _⟩
          case measure => simp [intOf] <;> omega
    · have hke : k = L.length := by omega
      subst hke
      have HD := Keep.mk HF.out.done
      clear hk
      go_wp2_with fail
      go_ret
      exact ⟨bi, rfl, HD.out, q, HQ.out⟩
end Go.Proofs.Ytmjmiadogniopaa
