/-
  Any entries have the bytes that the reference says, or are refused; what is put is got: the walk of the law ScriptPuts.
-/
import Derived.Test.YtmiannlghigagaaLawMany
namespace Go.Proofs.Ytmiannlghigagaa
open Go.RowKit

theorem all_snoc {l : List Ent} {k : Nat} (h : k < l.length) {v : Bool} (hv : v = (l.take k).all rightB) : (v && rightB l[k]) = (l.take (k + 1)).all rightB := by
  rw [List.take_succ_eq_append_getElem h, List.all_append, ← hv]
  simp

set_option maxHeartbeats 2000000 in
set_option maxRecDepth 100000 in
theorem scriptPuts_walk (A : Option Addr) (len ca : Nat) (l : List Ent) (w : World) (ha : Arg w 5 Ent.cells A len ca l) :
    Calls Try.prog 4 #[.slice A len ca] w fun e w' => e = .returned (.bool true) ∧ Below w.heap.size w w' := by
  obtain ⟨rfl, hcap, hmax, hnil, hl⟩ := ha
  unfold maxLen at hmax
  have hlH := Lib.hid hl
  clear hl hnil
  by_cases h1 : 200 < l.length
  · go_enter Try.func4, Try.ntmps4
    go_wp2_with (go_at_call 7; refine (wakes_any _).mono ?_; rintro e w1 ⟨rfl, hb1⟩)
    go_ret
    exact ⟨rfl, hb1⟩
  · by_cases hall : ∀ e ∈ l, rightB e = true
    · have hgp := getS_putS hall
      have hpb := putS_bytes hall
      have hpe : l.length * 4 = (putS l).length := by rw [putS_length]
      have hpl : (putS l).length ≤ 800 := by omega
      have hpH := Lib.hid hpe
      have hgpH := Lib.hid hgp
      have hpbH := Lib.hid hpb
      have hallH := Lib.hid hall
      clear hall hgp hpb hpe
      go_enter Try.func4, Try.ntmps4
      go_wp2_with (first
        | (go_at_call 7; refine (wakes_any _).mono ?_; rintro e w1 ⟨rfl, hb1⟩)
        | (go_at_call 12; go_loud (refine (put_any A l ca _ ((hlH.out.below hb1).more hb1.size) (by omega) hallH.out).mono ?_); rintro e w3 ⟨v3, rfl, hown3, hb3⟩; rw [hpH.out] at hown3; obtain ⟨A3, c3, rfl, hc3⟩ := own_slice hown3; have HO3 := Lib.hid hown3; clear hown3))
      go_loopw [5, 20] (fun v i wr => ∃ k : Nat, k ≤ l.length ∧ i = .int .i64 k ∧ v = .bool true ∧ Below w3.heap.size w3 wr) (fun _ i _ => l.length - (intOf i).toNat)
      case atStart => exact ⟨0, by omega, rfl, rfl, Below.refl _ _⟩
      case round =>
        obtain ⟨k, hk, rfl, rfl, hb⟩ := hrel
        have hb13 : Below w.heap.size w wr := (hb1.trans (hb3.mono hb1.size)).trans (hb.mono (Nat.le_trans hb1.size hb3.size))
        by_cases hlt : k < l.length
        · obtain ⟨b, off, rfl, hbl, hc⟩ := (hlH.out.below hb13).ent (List.ne_nil_of_length_pos (by omega))
          obtain ⟨c0, c1, c2', c3', c4⟩ := hc k hlt
          clear hc
          have hrt := hallH.out l[k] (List.getElem_mem hlt)
          go_wp2
          go_region_held3 (fun W => W.cell? ⟨wr.heap.size, 0, none⟩ = some (.int .i64 l[k].k) ∧ W.cell? ⟨wr.heap.size, 1, none⟩ = some (.int .i64 l[k].s) ∧ W.cell? ⟨wr.heap.size, 2, none⟩ = some (.int .i64 l[k].a) ∧ W.cell? ⟨wr.heap.size, 3, none⟩ = some (.int .i64 l[k].b) ∧ W.cell? ⟨wr.heap.size, 4, none⟩ = some (.int .i64 l[k].c))
            (first
              | go_keep
              | (go_split_ands
                 refine ⟨?_, ?_, ?_, ?_, ?_⟩ <;> (first | (rw [hk5]; assumption) | (rw [hk4]; assumption))))
            (first
              | (go_at_call 9; refine (right_any l[k] _).mono ?_; rintro e w4 ⟨rfl, hb4⟩; have hz4 : wr.heap.size < w4.heap.size := Nat.lt_of_lt_of_le (by first | assumption | simp) hb4.size; have hk4 := fun o => hb4.cell (p := ⟨wr.heap.size, o, none⟩) (by first | assumption | simp))
              | (go_at_call 13; refine (refRight_any l[k] _).mono ?_; rintro e w5 ⟨rfl, hb5⟩; have hz5 : wr.heap.size < w5.heap.size := Nat.lt_of_lt_of_le (by first | assumption | simp) hb5.size; have hk5 := fun o => hb5.cell (p := ⟨wr.heap.size, o, none⟩) (by first | assumption | simp)))
          clear hk4 hk5
          go_wp2_with (go_at_call 13; refine (refRight_any l[k] _).mono ?_; rintro e w6 ⟨rfl, hb6⟩)
          go_roundw
          case rel =>
            have hs3 := hb.size
            exact ⟨k + 1, by omega, by go_num, rfl, (((hb.alloc hs3 _).drew.trans (hb4.mono (by simp; omega))).trans (hb5.mono (by omega))).trans (hb6.mono (by omega))⟩
          case measure => simp [intOf]; omega
        · have hr3 : Rd wr wr.heap.size 1 encB A3 (putS l) := ((Rd.of_own encB_length (by decide) HO3.out).below hb).more hb.size
          go_wp2_with (first
            | (go_at_call 15; go_loud (refine (bytes_any A l ca _ ((hlH.out.below hb13).more hb13.size) (by omega) hallH.out).mono ?_); rintro e w5 ⟨v5, rfl, hown5, hb5⟩; rw [hpH.out] at hown5; obtain ⟨A5, c5, rfl, hc5⟩ := own_slice hown5; have HO5 := Lib.hid hown5; clear hown5)
            | (go_at_call 14; go_loud (refine (refSame_any A3 A5 (putS l) (putS l) c3 c5 _ ((hr3.below hb5).more hb5.size) (Rd.of_own encB_length (by decide) HO5.out) (by omega) (by omega)).mono ?_); rintro e w6 ⟨rfl, n6, rfl⟩)
            | (go_at_call 8; go_loud (refine (get_any A3 (putS l) c3 _ (((hr3.below hb5).more hb5.size).drewN n6) (by omega) hc3 hpbH.out).mono ?_); rintro e w7 ⟨v7, rfl, hown7, hb7⟩; rw [hgpH.out] at hown7; obtain ⟨A7, c7, rfl, hc7⟩ := own_slice hown7; have HO7 := Lib.hid hown7; clear hown7)
            | (go_at_call 10; go_loud (refine (sameEnts_any A7 A l l c7 ca _ (Rd.of_own Ent.cells_length (by decide) HO7.out) ((((hlH.out.below hb13).more hb13.size |>.below hb5).more hb5.size |>.drewN n6).below hb7 |>.more hb7.size) (by omega) (by omega) rfl).mono ?_); rintro e w8 ⟨rfl, n8, rfl⟩))
          go_ret
          exact ⟨rfl, below_drewN ((below_drewN (hb13.trans (hb5.mono hb13.size)) n6).trans (hb7.mono (Nat.le_trans hb13.size hb5.size))) n8⟩
    · have hnoH := Lib.hid hall
      clear hall
      go_enter Try.func4, Try.ntmps4
      go_wp2_with (first
        | (go_at_call 7; refine (wakes_any _).mono ?_; rintro e w1 ⟨rfl, hb1⟩)
        | (go_at_call 12; go_loud (refine (put_no A l ca _ ((hlH.out.below hb1).more hb1.size) (by omega) hnoH.out).mono ?_); rintro e w3 ⟨rfl, hb3⟩))
      go_loopw [5, 20] (fun v i wr => ∃ (k : Nat) (x : Bool), k ≤ l.length ∧ i = .int .i64 k ∧ v = .bool x ∧ Hid (x = (l.take k).all rightB) ∧ Below w3.heap.size w3 wr) (fun _ i _ => l.length - (intOf i).toNat)
      case atStart => exact ⟨0, true, by omega, rfl, rfl, rfl, Below.refl _ _⟩
      case round =>
        obtain ⟨k, x, hk, rfl, rfl, hx, hb⟩ := hrel
        have hb13 : Below w.heap.size w wr := (hb1.trans (hb3.mono hb1.size)).trans (hb.mono (Nat.le_trans hb1.size hb3.size))
        by_cases hlt : k < l.length
        · obtain ⟨b, off, rfl, hbl, hc⟩ := (hlH.out.below hb13).ent (List.ne_nil_of_length_pos (by omega))
          obtain ⟨c0, c1, c2', c3', c4⟩ := hc k hlt
          clear hc
          have hsn := Lib.hid (all_snoc hlt hx.out)
          cases x <;> rcases hrt : rightB l[k]
          all_goals
            go_wp2
            go_region_held3 (fun W => W.cell? ⟨wr.heap.size, 0, none⟩ = some (.int .i64 l[k].k) ∧ W.cell? ⟨wr.heap.size, 1, none⟩ = some (.int .i64 l[k].s) ∧ W.cell? ⟨wr.heap.size, 2, none⟩ = some (.int .i64 l[k].a) ∧ W.cell? ⟨wr.heap.size, 3, none⟩ = some (.int .i64 l[k].b) ∧ W.cell? ⟨wr.heap.size, 4, none⟩ = some (.int .i64 l[k].c))
              (first
                | go_keep
                | (go_split_ands
                   refine ⟨?_, ?_, ?_, ?_, ?_⟩ <;> (first | (rw [hk5]; assumption) | (rw [hk4]; assumption))))
              (first
                | (go_at_call 9; refine (right_any l[k] _).mono ?_; rintro e w4 ⟨rfl, hb4⟩; have hz4 : wr.heap.size < w4.heap.size := Nat.lt_of_lt_of_le (by first | assumption | simp) hb4.size; have hk4 := fun o => hb4.cell (p := ⟨wr.heap.size, o, none⟩) (by first | assumption | simp))
                | (go_at_call 13; refine (refRight_any l[k] _).mono ?_; rintro e w5 ⟨rfl, hb5⟩; have hz5 : wr.heap.size < w5.heap.size := Nat.lt_of_lt_of_le (by first | assumption | simp) hb5.size; have hk5 := fun o => hb5.cell (p := ⟨wr.heap.size, o, none⟩) (by first | assumption | simp)))
            clear hk4 hk5
            go_wp2_with (go_at_call 13; refine (refRight_any l[k] _).mono ?_; rintro e w6 ⟨rfl, hb6⟩)
            go_roundw
            case rel =>
              have hs3 := hb.size
              refine ⟨k + 1, _, by omega, by go_num, rfl, ?_, ?_⟩
              · have := hsn.out
                simpa [Hid, hrt] using this
              · first
                | exact (((hb.alloc hs3 _).drew.trans (hb4.mono (by simp; omega))).trans (hb5.mono (by omega))).trans (hb6.mono (by omega))
                | exact ((hb.alloc hs3 _).drew.trans (hb4.mono (by simp; omega))).trans (hb5.mono (by omega))
            case measure => simp [intOf]; omega
        · have hxf : x = false := by
            have := hx.out
            rw [List.take_of_length_le (by omega)] at this
            cases x
            · rfl
            · exact absurd (fun e he => (List.all_eq_true.1 this.symm) e he) hnoH.out
          clear hx
          subst hxf
          go_wp2
          go_ret
          exact ⟨rfl, hb13⟩
end Go.Proofs.Ytmiannlghigagaa
