/-
  Walks and laws, one behind the other (part 19).
-/
import Derived.Deep.RegionHeld3
import Derived.Laws.BitsAllLaws
import Derived.StillTactics
import Derived.WalkSpells
import Derived.Test.YtjpokeakemlffaaGreatDoorS5
set_option linter.unusedSimpArgs false
set_option linter.unusedVariables false
/-
  The contracts of octet.Cut and octet.Take.
-/
namespace Go.Proofs.YtjpokeakemlffaaGreatDoor
open Go.RowKit
set_option maxHeartbeats 2000000 in
set_option maxRecDepth 100000 in
theorem cut_any (A : Option Addr) (n c k : Nat) (l : List Int) (w : World) (ha : Arg w 1 encB A n c l) (hn : n ≤ 1000000) (hk : k ≤ n) :
    Calls Tryz.prog 119 #[.slice A n c, .int .i64 k] w fun r w' => ∃ A1 c1 A2 c2, r = .returned (.tuple #[.slice A1 k c1, .slice A2 (n - k) c2, .int .i64 0]) ∧ Arg w' 1 encB A1 k c1 (l.take k) ∧ Arg w' 1 encB A2 (n - k) c2 (l.drop k) ∧ Below w.heap.size w w' := by
  have h1 := Lib.hid (ha.take hk)
  have h2' := ha.drop hk
  simp only [Nat.mul_one] at h2'
  obtain ⟨D, hD⟩ : ∃ D, (if c = k then A else Option.map (fun x => x.add k) A) = D := ⟨_, rfl⟩
  rw [hD] at h2'
  have h2 := Lib.hid h2'
  clear h2'
  have hcap := ha.hcap
  have hmax := ha.hmax
  unfold maxLen at hmax
  clear ha
  have k0 : (0 : Int) ≤ (k : Int) := by omega
  have k1 : (k : Int) ≤ (n : Int) := by omega
  have k2 : (k : Int) ≤ (c : Int) := by omega
  go_enter Tryz.func119, Tryz.ntmps119
  go_wp2
  go_region_held3 (fun _ => True) (trivial) (first
    | (go_at_call 173
       have _t := hbw1
       refine (join_one _ D (n - k) (c - k) (l.drop k) _ ?_ ?_ ?_).mono ?_
       · go_simp; done
       · first | exact h2.out.below hbw1 | exact (h2.out.below hbw1).alloc _
       · omega
       rintro e w2 ⟨A2, c2, rfl, ha2, hb2⟩)
    | (go_at_call 173
       refine (join_one _ A k c (l.take k) _ ?_ ?_ ?_).mono ?_
       · go_simp; done
       · first | exact (h1.out.alloc _).drew | exact ((h1.out.alloc _).alloc _).drew
       · omega
       rintro e w1 ⟨A1, c1, rfl, ha1, hb1⟩
       have hcc := (bcell hb1).1
       have hbw1 : Below w.heap.size w w1 := by
         first
         | exact (((Below.refl _ w).alloc (Nat.le_refl _) _).drew).trans (hb1.mono (by simp))
         | exact ((((Below.refl _ w).alloc (Nat.le_refl _) _).alloc (by simp) _).drew).trans (hb1.mono (by simp; omega)))
    | fail)
  all_goals go_wp2
  all_goals
    go_ret3
    refine ⟨A1, c1, A2, c2, rfl, ?_, ha2, ?_⟩
    · first | exact ha1.below hb2 | exact (ha1.alloc _).below hb2
    · first | exact hbw1.trans (hb2.mono hbw1.size) | exact (hbw1.alloc hbw1.size _).trans (hb2.mono (by have := hbw1.size; simp; omega))
def beN (l : List Int) : Int := l.foldl (fun a b => a * 256 + b) 0
theorem beN_snoc (l : List Int) (b : Int) : beN (l ++ [b]) = beN l * 256 + b := by simp [beN]
theorem beN_from : ∀ (l : List Int) (a : Int) (m : Nat), (∀ z ∈ l, 0 ≤ z ∧ z ≤ 255) → 0 ≤ a → a < 256 ^ m → 0 ≤ l.foldl (fun a b => a * 256 + b) a ∧ l.foldl (fun a b => a * 256 + b) a < 256 ^ (m + l.length)
  | [], a, m, _, h0, h1 => ⟨h0, h1⟩
  | b :: r, a, m, h, h0, h1 => by
    obtain ⟨b0, b1⟩ := h b (by simp)
    have := beN_from r (a * 256 + b) (m + 1) (fun z hz => h z (by simp [hz])) (by omega) (by rw [Int.pow_succ]; omega)
    rw [List.foldl_cons, List.length_cons, show m + (r.length + 1) = m + 1 + r.length by omega]
    exact this
theorem beN_bd (l : List Int) (h : ∀ z ∈ l, 0 ≤ z ∧ z ≤ 255) : 0 ≤ beN l ∧ beN l < 256 ^ l.length := by
  have := beN_from l 0 0 h (by omega) (by decide)
  rwa [Nat.zero_add] at this
theorem pow7 {n : Nat} (h : n ≤ 7) : (256 : Int) ^ n ≤ 72057594037927936 := by
  have : n = 0 ∨ n = 1 ∨ n = 2 ∨ n = 3 ∨ n = 4 ∨ n = 5 ∨ n = 6 ∨ n = 7 := by omega
  rcases this with h | h | h | h | h | h | h | h <;> rw [h] <;> decide
theorem or_low (x c : Nat) (h : c < 256) : x * 256 ||| c = x * 256 + c := by
  have := Nat.shiftLeft_add_eq_or_of_lt (i := 8) (b := c) (by omega) x
  rw [Nat.shiftLeft_eq] at this
  exact this.symm
theorem or_u64 {x c : Int} (x0 : 0 ≤ x) (x1 : x < 72057594037927936) (c0 : 0 ≤ c) (c1 : c ≤ 255) : bits .or .u64 (x * 256) c = x * 256 + c := by
  rw [u64_or _ _ (by omega) (by omega) c0 (by omega)]
  obtain ⟨x, rfl⟩ := Int.eq_ofNat_of_zero_le x0
  obtain ⟨c, rfl⟩ := Int.eq_ofNat_of_zero_le c0
  rw [show ((x : Int) * 256).toNat = x * 256 by omega, Int.toNat_natCast, or_low x c (by omega)]
  omega
set_option maxHeartbeats 1000000 in
theorem take_any (A : Option Addr) (n c k : Nat) (l : List Int) (w : World) (ha : Arg w 1 encB A n c l) (hn : n ≤ 1000000) (hk : k ≤ n) (h1 : 1 ≤ k) (h8 : k ≤ 8) (hall : ∀ z ∈ l, 0 ≤ z ∧ z ≤ 255) :
    Calls Tryz.prog 176 #[.slice A n c, .int .i64 k] w fun r w' => ∃ A2 c2, r = .returned (.tuple #[.int .u64 (beN (l.take k)), .slice A2 (n - k) c2, .int .i64 0]) ∧ Arg w' 1 encB A2 (n - k) c2 (l.drop k) ∧ Below w.heap.size w w' := by
  have haH := Lib.hid ha
  have hallH := Lib.hid hall
  clear ha hall
  go_enter Tryz.func176, Tryz.ntmps176
  go_wp2_with (first
    | (go_at_call 232; refine (width_any _ _ (by omega) (by omega)).mono ?_; rintro e w' ⟨rfl, rfl⟩)
    | (go_at_call 119; refine (cut_any A n c k l _ haH.out hn hk).mono ?_; rintro e w1 ⟨A1, c1, A2, c2, rfl, ha1, ha2, hb1⟩; have H1 := Lib.hid ha1; have H2 := Lib.hid ha2; clear ha1 ha2))
  have hlen := H1.out.hlen
  have hlenH := Lib.hid hlen
  have hle : (l.take k).length ≤ k := by omega
  have hge : k ≤ (l.take k).length := by omega
  clear hlen
  go_loop [10, 23] (fun x i => ∃ j : Nat, j ≤ k ∧ i = .int .i64 j ∧ x = .int .u64 (beN ((l.take k).take j))) (fun _ i => k - (intOf i).toNat)
  case atStart => exact ⟨0, by omega, rfl, rfl⟩
  case round =>
    obtain ⟨j, hj, rfl, rfl⟩ := hrel
    by_cases hlt : j < k
    · obtain ⟨b, off, rfl, hbl, hc⟩ := H1.out.rd.byte (List.ne_nil_of_length_pos (by omega))
      have c0 := hc j (by omega)
      clear hc
      have hjl : j < l.length := by have := H1.out.hlen; rw [List.length_take] at this; omega
      rw [List.getElem_take] at c0
      have hall1 : ∀ z ∈ l.take k, 0 ≤ z ∧ z ≤ 255 := fun z hz => hallH.out z (List.mem_of_mem_take hz)
      obtain ⟨z0, z1⟩ := hallH.out l[j] (List.getElem_mem _)
      have hbd := beN_bd ((l.take k).take j) (fun z hz => hall1 z (List.mem_of_mem_take hz))
      have hp : (256 : Int) ^ ((l.take k).take j).length ≤ 72057594037927936 := pow7 (by rw [List.length_take]; omega)
      have hx0 := hbd.1
      have hx1 : beN ((l.take k).take j) < 72057594037927936 := by have := hbd.2; omega
      clear hbd hp hall1
      have hsn : beN ((l.take k).take (j + 1)) = beN ((l.take k).take j) * 256 + l[j] := by
        rw [List.take_succ_eq_append_getElem (by omega), beN_snoc, List.getElem_take]
      have hor := or_u64 hx0 hx1 z0 z1
      have HS := Lib.hid hsn
      have HOr := Lib.hid hor
      clear hsn hor
      generalize beN ((l.take k).take j) = x at *
      go_wp2
      go_round
      case rel => exact ⟨j + 1, by omega, by go_num, by rw [HS.out, HOr.out]⟩
      case measure => simp [intOf]; omega
    · go_wp2
      go_ret3
      obtain rfl : j = k := by omega
      have : (l.take j).take j = l.take j := List.take_of_length_le (by omega)
      rw [this]
      exact ⟨A2, c2, rfl, H2.out, hb1⟩
end Go.Proofs.YtjpokeakemlffaaGreatDoor
