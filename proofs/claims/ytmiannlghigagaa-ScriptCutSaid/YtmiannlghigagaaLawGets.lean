/-
  script.Get and the reference's Get answer the same entries for any bytes, all of them right: the walks of the laws ScriptGets and ScriptMany.
-/
import Derived.Test.YtmiannlghigagaaGet
namespace Go.Proofs.Ytmiannlghigagaa
open Go.RowKit

theorem Rd.new (w : World) (t : TypeId) {α : Type} (sz : Nat) (enc : α → List Value) (henc : ∀ x, (enc x).length = sz) (l : List α) : Rd (w.alloc (.cells (l.flatMap enc).toArray t)) (w.heap.size + 1) sz enc (some ⟨w.heap.size, 0, none⟩) l := fun _ =>
  ⟨_, 0, rfl, by omega, fun i x hx j v hv => by
    rw [World.cell?_alloc_new, Nat.zero_add]
    simpa using flat_at henc l i x hx j v hv⟩

theorem wakes_any (w : World) :
    Calls Try.prog 7 #[] w fun e w' => e = .returned (.bool true) ∧ Below w.heap.size w w' := by
  go_enter Try.func7, Try.ntmps7
  go_wp2_with (go_at_call 8; refine (get_any _ [8, 1, 0, 0] _ _ ((Rd.new w 5 1 encB (fun _ => rfl) [8, 1, 0, 0]).more (by simp)) (by decide) (by decide) (by decide)).mono ?_; rintro e w1 ⟨v, rfl, hown, hb⟩; obtain ⟨g, c, rfl⟩ := ownsRow_succ (k := 0) hown; have q0 : w1.cell? ⟨g, 0, none⟩ = some (.int .i64 4) := hown.cellAt 0 (by decide); have q1 : w1.cell? ⟨g, 1, none⟩ = some (.int .i64 0) := hown.cellAt 1 (by decide); have q2 : w1.cell? ⟨g, 2, none⟩ = some (.int .i64 1) := hown.cellAt 2 (by decide); have q3 : w1.cell? ⟨g, 3, none⟩ = some (.int .i64 0) := hown.cellAt 3 (by decide); have q4 : w1.cell? ⟨g, 4, none⟩ = some (.int .i64 0) := hown.cellAt 4 (by decide); clear hown)
  go_ret
  exact ⟨rfl, ((Below.refl _ _).alloc (Nat.le_refl _) _).trans (hb.mono (by simp))⟩

def encE (e : Ent) : List Value := e.cells
theorem cellsOne (x : Ent) : ∀ u ∈ x.cells, u.oneCell' = true := by simp [Ent.cells, Value.oneCell']

theorem getS_right : ∀ {zs : List Int}, (∀ z ∈ zs, 0 ≤ z ∧ z ≤ 255) → ∀ e ∈ getS zs, rightB e = true
  | a :: b :: c :: d :: r, h, e, he => by
    rw [getS, List.mem_cons] at he
    rcases he with rfl | he
    · obtain ⟨a0, a1⟩ := h a (by simp)
      obtain ⟨b0, b1⟩ := h b (by simp)
      obtain ⟨c0, c1⟩ := h c (by simp)
      obtain ⟨d0, d1⟩ := h d (by simp)
      simp [rightB, byB]
      omega
    · exact getS_right (fun z hz => h z (by simp [hz])) e he
  | [], _, e, he => by simp [getS] at he
  | [_], _, e, he => by simp [getS] at he
  | [_, _], _, e, he => by simp [getS] at he
  | [_, _, _], _, e, he => by simp [getS] at he

set_option maxHeartbeats 1000000 in
theorem scriptGets_walk (A : Option Addr) (len ca : Nat) (l : List Int) (w : World) (ha : Arg w 1 encB A len ca l) (hall : ∀ z ∈ l, 0 ≤ z ∧ z ≤ 255) :
    Calls Try.prog 3 #[.slice A len ca] w fun e w' => e = .returned (.bool true) ∧ Below w.heap.size w w' := by
  obtain ⟨rfl, hcap, hmax, hnil, hl⟩ := ha
  unfold maxLen at hmax
  have hgl : (getS l).length ≤ l.length := by rw [getS_length]; omega
  obtain ⟨i0, hi, hz0, hz1, hz2⟩ := info_parts info5
  have hlH := Lib.hid hl
  have hallH := Lib.hid hall
  have hnilH := Lib.hid hnil
  clear hl hall hnil
  by_cases h1 : 1000 < l.length
  · go_enter Try.func3, Try.ntmps3
    go_wp2_with (go_at_call 7; refine (wakes_any _).mono ?_; rintro e w1 ⟨rfl, hb1⟩)
    go_ret
    exact ⟨rfl, hb1⟩
  · go_enter Try.func3, Try.ntmps3
    go_wp2_with (first
      | (go_at_call 7; refine (wakes_any _).mono ?_; rintro e w1 ⟨rfl, hb1⟩)
      | (at_builtin; go_loud (refine wpList_append_rd rfl _ _ 22 rfl w.heap.size 5 i0 (.int .u8 0) 1 1 Try.underlying22 hi hz0 hz1 hz2 rfl (by decide) (.slice (some ⟨w1.heap.size, 0, none⟩) 0 0) 0 [] rfl (World.ownsRow_made w1 #[] 0 hb1.size (by decide) rfl) A l.length ca _ encB l rfl hnilH.out rfl (fun _ => rfl) ((hlH.out.below hb1).alloc hb1.size _) encBOne (by simp only [maxLen]; omega) (by omega) (by have := hb1.size; simp; omega) ?_); intro v2 w2 hown2 hgrow2 hat2; simp only [Nat.zero_add, List.nil_append] at hown2; obtain ⟨A2, c2, rfl, hc2⟩ := own_slice hown2; have hb2 : Below w.heap.size w w2 := (hb1.alloc hb1.size _).grown hgrow2 (by have := hb1.size; simp; omega) (fun k e => by have := hb1.size; simp [Value.ownBlock] at e; omega); have HO2 := Lib.hid hown2; clear hown2 hgrow2 hat2)
      | (go_at_call 8; go_loud (refine (get_any A2 l c2 _ (Rd.of_own (fun _ => rfl) (by decide) HO2.out) (by omega) hc2 hallH.out).mono ?_); rintro e w3 ⟨v3, rfl, hown3, hb3⟩; obtain ⟨A3, c3, rfl, hc3⟩ := own_slice hown3; have HO3 := Lib.hid hown3; clear hown3))
    go_loopw [17] (fun i wr => ∃ k : Nat, k ≤ (getS l).length ∧ i = .int .i64 k ∧ Below w3.heap.size w3 wr) (fun i _ => (getS l).length - (intOf i).toNat)
    case atStart => exact ⟨0, by omega, rfl, Below.refl _ _⟩
    case round =>
      obtain ⟨k, hk, rfl, hb⟩ := hrel
      have hr3 := (Rd.of_own Ent.cells_length (by decide) HO3.out).below hb
      by_cases hlt : k < (getS l).length
      · obtain ⟨b, off, rfl, hbl, hc⟩ := hr3.ent (List.ne_nil_of_length_pos (by omega))
        obtain ⟨c0, c1, c2', c3', c4⟩ := hc k hlt
        clear hc
        have hrt := getS_right hallH.out (getS l)[k] (List.getElem_mem hlt)
        go_wp2_with (go_at_call 9; refine (right_any (getS l)[k] _).mono ?_; rintro e w4 ⟨rfl, hb4⟩)
        go_roundw
        case rel => exact ⟨k + 1, by omega, by go_num, (hb.alloc hb.size _).trans (hb4.mono (by have := hb.size; simp; omega))⟩
        case measure => simp [intOf]; omega
      · have hb3' : Below w.heap.size w wr := (hb2.trans (hb3.mono hb2.size)).trans (hb.mono (Nat.le_trans hb2.size hb3.size))
        go_wp2_with (first
          | (go_at_call 11; go_loud (refine (refGet_any A l ca _ ((hlH.out.below hb3').more hb3'.size) (by omega) hallH.out).mono ?_); rintro e w5 ⟨v5, rfl, hown5, hb5⟩; obtain ⟨A5, c5, rfl, hc5⟩ := own_slice hown5; have HO5 := Lib.hid hown5; clear hown5)
          | (go_at_call 10; go_loud (refine (sameEnts_any A3 A5 (getS l) (getS l) c3 c5 _ ((hr3.more hb.size).below hb5 |>.more hb5.size) (Rd.of_own Ent.cells_length (by decide) HO5.out) (by omega) (by omega) rfl).mono ?_); rintro e w6 ⟨rfl, nd, rfl⟩))
        go_ret
        exact ⟨rfl, below_drewN (hb3'.trans (hb5.mono hb3'.size)) nd⟩
end Go.Proofs.Ytmiannlghigagaa
