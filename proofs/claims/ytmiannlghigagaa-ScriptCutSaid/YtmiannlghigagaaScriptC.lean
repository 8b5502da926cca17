/-
  The contracts of script.Put and of the reference's Bytes.
-/
import Derived.OwnWalk
import Derived.Deep.DeepMust
import Derived.Test.YtmiannlghigagaaScriptB
namespace Go.Proofs.Ytmiannlghigagaa
open Go.RowKit

theorem info5 : (Try.prog.info? 5).map (fun i => (i.zero, i.size, i.bytes)) = some (some (.int .u8 0), 1, 1) := by kernel_rfl

def entBytes (e : Ent) : List Int := [2 * e.k + e.s, e.a, e.b, e.c]
def putS (l : List Ent) : List Int := l.flatMap entBytes
theorem right_bd {e : Ent} (h : rightB e = true) : (0 ≤ e.k ∧ e.k < 16) ∧ (0 ≤ e.s ∧ e.s ≤ 1) ∧ (0 ≤ e.a ∧ e.a ≤ 255) ∧ (0 ≤ e.b ∧ e.b ≤ 255) ∧ (0 ≤ e.c ∧ e.c ≤ 255) := by
  simp [rightB, byB] at h
  omega

theorem or_fin : ∀ k : Fin 16, ∀ s : Fin 2, bits .or .i64 ((k.val : Int) * 2) (s.val : Int) % 256 = 2 * (k.val : Int) + (s.val : Int) := by decide +kernel
theorem or_256 {k s : Int} (h0 : 0 ≤ k) (h1 : k < 16) (h2 : 0 ≤ s) (h3 : s ≤ 1) : bits .or .i64 (k * 2) s % 256 = 2 * k + s := by
  obtain ⟨k, rfl⟩ := Int.eq_ofNat_of_zero_le h0
  obtain ⟨s, rfl⟩ := Int.eq_ofNat_of_zero_le h2
  exact or_fin ⟨k, by omega⟩ ⟨s, by omega⟩
theorem putS_snoc (l : List Ent) (k : Nat) (h : k < l.length) : putS (l.take (k + 1)) = putS (l.take k) ++ entBytes l[k] := by
  rw [List.take_succ_eq_append_getElem h]
  simp only [putS, List.flatMap_append, List.flatMap_cons, List.flatMap_nil, List.append_nil]

set_option maxHeartbeats 1000000 in
theorem put_any (A : Option Addr) (l : List Ent) (ca : Nat) (w : World) (hl : Rd w w.heap.size 5 Ent.cells A l) (h1 : l.length ≤ 100000) (hall : ∀ e ∈ l, rightB e = true) :
    Calls Try.prog 12 #[.slice A l.length ca] w fun r w' => ∃ v, r = .returned (.tuple #[v, .int .i64 0]) ∧ w'.ownsRow w.heap.size 5 1 v (l.length * 4) ((putS l).flatMap encB) ∧ Below w.heap.size w w' := by
  obtain ⟨i0, hi, hz0, hz1, hz2⟩ := info_parts info5
  have hallH := Lib.hid hall
  clear hall
  have hlH := Lib.hid hl
  clear hl
  go_enter Try.func12, Try.ntmps12
  go_wp2
  go_loopw [4, 9] (fun v i wr => ∃ k : Nat, k ≤ l.length ∧ i = .int .i64 k ∧ wr.ownsRow w.heap.size 5 1 v (k * 4) ((putS (l.take k)).flatMap encB) ∧ Below w.heap.size w wr) (fun _ i _ => l.length - (intOf i).toNat)
  case atStart => exact ⟨0, by omega, rfl, World.ownsRow_nil _ _ _ _, Below.refl _ _⟩
  case round =>
    obtain ⟨k, hk, rfl, hown, hb⟩ := hrel
    by_cases hlt : k < l.length
    · obtain ⟨b, off, rfl, hbl, hc⟩ := (hlH.out.below hb).ent (List.ne_nil_of_length_pos (by omega))
      obtain ⟨c0, c1, c2, c3, c4⟩ := hc k hlt
      clear hc
      have hr := hallH.out l[k] (List.getElem_mem hlt)
      obtain ⟨⟨bk0, bk1⟩, ⟨bs0, bs1⟩, ⟨ba0, ba1⟩, ⟨bb0, bb1⟩, bc0, bc1⟩ := right_bd hr
      go_wp2_with (first | (go_at_call 9; refine (right_any l[k] _).mono ?_; rintro e w' ⟨rfl, hb1⟩; obtain ⟨hcc, hff⟩ := bcell hb1) | (at_builtin; go_loud (refine wpList_append_own _ rfl _ _ 22 rfl w.heap.size 5 i0 (.int .u8 0) 1 1 Try.underlying22 hi hz0 hz1 hz2 rfl (by decide) u4 (k * 4) _ rfl ((own_below (hown.alloc _) hb1).alloc _) ⟨w'.heap.size, 0, none⟩ 4 4 _ rfl (by exact rfl) (new_row _ _ _) (by simp [Value.oneCell']) (by simp only [maxLen]; omega) (by omega) (by have := hb.size; have := hb1.size; simp at this ⊢; omega) ?_); intro v' w1 hown' hgrow _; have HO := Lib.hid hown'; have HG := Lib.hid hgrow; clear hown' hgrow hcc hff))
      go_roundw
      case rel =>
        refine ⟨k + 1, by omega, by go_num, ?_, ?_⟩
        · have e1 : (k + 1) * 4 = k * 4 + 4 := by omega
          rw [e1, putS_snoc l k hlt, List.flatMap_append]
          have h2 := HO.out
          rw [or_256 bk0 bk1 bs0 bs1] at h2
          exact h2
        · exact (((hb.alloc hb.size _).trans (hb1.mono (by have := hb.size; simp; omega))).alloc (by have := hb.size; have := hb1.size; simp at this ⊢; omega) _).grown HG.out (by have := hb.size; have := hb1.size; simp at this ⊢; omega) (fun j e => (hown.lt j e).1)
      case measure => simp [intOf]; omega
    · go_wp2
      go_ret2
      obtain rfl : k = l.length := by omega
      exact ⟨_, rfl, by simpa using hown, hb⟩
end Go.Proofs.Ytmiannlghigagaa
