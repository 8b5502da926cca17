/-
  Put again, any bytes' entries are got again: the walk of the law ScriptMany.
-/
import Derived.Test.YtmiannlghigagaaLawGets
namespace Go.Proofs.Ytmiannlghigagaa
open Go.RowKit

theorem putS_length (l : List Ent) : (putS l).length = l.length * 4 := by
  induction l with
  | nil => rfl
  | cons e r ih => rw [putS, List.flatMap_cons, List.length_append, show (r.flatMap entBytes).length = r.length * 4 from ih, List.length_cons, show (entBytes e).length = 4 from rfl]; omega
theorem putS_cons (e : Ent) (r : List Ent) : putS (e :: r) = (2 * e.k + e.s) :: e.a :: e.b :: e.c :: putS r := rfl
theorem getS_putS : ∀ {l : List Ent}, (∀ e ∈ l, rightB e = true) → getS (putS l) = l
  | [], _ => rfl
  | e :: r, h => by
    rw [putS_cons, getS, getS_putS (l := r) fun x hx => h x (by simp [hx])]
    obtain ⟨⟨k0, k1⟩, ⟨s0, s1⟩, _⟩ := right_bd (h e (by simp))
    obtain ⟨k, s, a, b, c⟩ := e
    dsimp only at k0 k1 s0 s1 ⊢
    rw [show (2 * k + s) / 2 % 16 = k by omega, show (2 * k + s) % 2 = s by omega]
theorem putS_bytes {l : List Ent} (h : ∀ e ∈ l, rightB e = true) : ∀ z ∈ putS l, 0 ≤ z ∧ z ≤ 255 := by
  intro z hz
  obtain ⟨e, he, hz⟩ := List.mem_flatMap.1 hz
  obtain ⟨⟨k0, k1⟩, ⟨s0, s1⟩, ⟨a0, a1⟩, ⟨b0, b1⟩, c0, c1⟩ := right_bd (h e he)
  simp only [entBytes, List.mem_cons, List.not_mem_nil, or_false] at hz
  rcases hz with rfl | rfl | rfl | rfl <;> omega

set_option maxHeartbeats 1000000 in
theorem scriptMany_walk (A : Option Addr) (len ca : Nat) (l : List Int) (w : World) (ha : Arg w 1 encB A len ca l) (hall : ∀ z ∈ l, 0 ≤ z ∧ z ≤ 255) :
    Calls Try.prog 6 #[.slice A len ca] w fun e w' => e = .returned (.bool true) ∧ Below w.heap.size w w' := by
  obtain ⟨rfl, hcap, hmax, hnil, hl⟩ := ha
  unfold maxLen at hmax
  have hgl : (getS l).length ≤ l.length := by rw [getS_length]; omega
  have hgB : (((getS l).length : Int) == (l.length : Int) / 4) = true := by rw [getS_length]; simp
  have hpl : (putS (getS l)).length ≤ l.length := by rw [putS_length, getS_length]; omega
  have hpB : (((putS (getS l)).length : Int) == 4 * ((getS l).length : Int)) = true := by rw [putS_length]; simp; omega
  have hpe : (getS l).length * 4 = (putS (getS l)).length := by rw [putS_length]
  have hpH := Lib.hid hpe
  clear hpe
  have hgr := getS_right hall
  have hgp : getS (putS (getS l)) = getS l := getS_putS hgr
  have hpb := putS_bytes hgr
  have hlH := Lib.hid hl
  have hallH := Lib.hid hall
  have hgrH := Lib.hid hgr
  have hgpH := Lib.hid hgp
  have hpbH := Lib.hid hpb
  clear hl hall hnil hgr hgp hpb
  by_cases h1 : 1000 < l.length
  · go_enter Try.func6, Try.ntmps6
    go_wp2_with (go_at_call 7; refine (wakes_any _).mono ?_; rintro e w1 ⟨rfl, hb1⟩)
    go_ret
    exact ⟨rfl, hb1⟩
  · go_enter Try.func6, Try.ntmps6
    go_wp2_with (first
      | (go_at_call 7; refine (wakes_any _).mono ?_; rintro e w1 ⟨rfl, hb1⟩)
      | (go_at_call 8; go_loud (refine (get_any A3 (putS (getS l)) c3 _ (Rd.of_own (fun _ => rfl) (by decide) HO3.out) (by omega) hc3 hpbH.out).mono ?_); rintro e w4 ⟨v4, rfl, hown4, hb4⟩; rw [hgpH.out] at hown4; obtain ⟨A4, c4, rfl, hc4⟩ := own_slice hown4; have HO4 := Lib.hid hown4; clear hown4)
      | (go_at_call 12; go_loud (refine (put_any A2 (getS l) c2 _ (Rd.of_own Ent.cells_length (by decide) HO2.out) (by omega) hgrH.out).mono ?_); rintro e w3 ⟨v3, rfl, hown3, hb3⟩; rw [hpH.out] at hown3; obtain ⟨A3, c3, rfl, hc3⟩ := own_slice hown3; have HO3 := Lib.hid hown3; clear hown3)
      | (go_at_call 8; refine (get_any A l ca _ ((hlH.out.below hb1).more hb1.size) (by omega) hcap hallH.out).mono ?_; rintro e w2 ⟨v2, rfl, hown2, hb2⟩; obtain ⟨A2, c2, rfl, hc2⟩ := own_slice hown2; have HO2 := Lib.hid hown2; clear hown2)
      | (go_at_call 10; go_loud (refine (sameEnts_any A4 A2 (getS l) (getS l) c4 c2 _ (Rd.of_own Ent.cells_length (by decide) HO4.out) (((Rd.of_own Ent.cells_length (by decide) HO2.out).below hb3 |>.more hb3.size).below hb4 |>.more hb4.size) (by omega) (by omega) rfl).mono ?_); rintro e w6 ⟨rfl, nd, rfl⟩))
    go_ret
    exact ⟨rfl, below_drewN ((hb1.trans (hb2.mono hb1.size)).trans ((hb3.mono (Nat.le_trans hb1.size hb2.size)).trans (hb4.mono (Nat.le_trans hb1.size (Nat.le_trans hb2.size hb3.size))))) nd⟩
end Go.Proofs.Ytmiannlghigagaa
