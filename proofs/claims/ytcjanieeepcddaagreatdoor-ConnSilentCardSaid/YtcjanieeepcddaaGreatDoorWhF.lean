/-
  The contracts of Cancel's closure, and of slices.IndexFunc with it.
-/
import Derived.Test.YtcjanieeepcddaaGreatDoorWhD
namespace Go.Proofs.YtcjanieeepcddaaGreatDoor
open Go.RowKit

theorem same_any (g : Nat) (h : Int) (d : Due) (w : World) (hg : g < w.heap.size) (hc : w.cell? ⟨g, 0, none⟩ = some (.int .i64 h)) :
    Calls Tryz.prog 157 #[.agg #[.int .i64 d.1, .int .i64 d.2], .pointer (some ⟨g, 0, none⟩)] w fun e w' => e = .returned (.bool (decide (d.1 = h))) ∧ Below w.heap.size w w' := by
  have hne : g ≠ w.heap.size := by omega
  by_cases hd : d.1 = h
  · go_enter Tryz.func157, Tryz.ntmps157
    go_wp2_with fail
    go_ret
    exact ⟨by simp [hd], (Below.refl _ w).alloc (Nat.le_refl _) _⟩
  · go_enter Tryz.func157, Tryz.ntmps157
    go_wp2_with fail
    go_ret
    exact ⟨by simp [hd], (Below.refl _ w).alloc (Nat.le_refl _) _⟩

set_option maxHeartbeats 1600000 in
theorem index_any (g : Nat) (h : Int) (A : Option Addr) (c : Nat) (l : List Due) (w : World) (hg : g < w.heap.size) (hc : w.cell? ⟨g, 0, none⟩ = some (.int .i64 h))
    (hr : Rd w w.heap.size 2 dueC A l) (hl : l.length ≤ 1000000) :
    Calls Tryz.prog 206 #[.slice A l.length c, .func (.func 157) #[] #[.pointer (some ⟨g, 0, none⟩)]] w fun e w' => Below w.heap.size w w' ∧ ∃ i : Int, e = .returned (.int .i64 i) ∧
      ((i = -1 ∧ ∀ d ∈ l, d.1 ≠ h) ∨ ∃ k, k < l.length ∧ i = (k : Int) ∧ (∃ d, l[k]? = some d ∧ d.1 = h) ∧ ∀ d ∈ l.take k, d.1 ≠ h) := by
  have HR := Lib.hid hr
  have HC := Keep.mk hc
  clear hr hc
  go_enter Tryz.func206, Tryz.ntmps206
  go_wp2
  go_loopw [5, 8] (fun _ i wr => ∃ k : Nat, k ≤ l.length ∧ i = .int .i64 k ∧ Below w.heap.size w wr ∧ Keep (∀ d ∈ l.take k, d.1 ≠ h)) (fun _ i _ => l.length - (intOf i).toNat)
  case atStart => exact ⟨0, by omega, rfl, Below.refl _ _, ⟨by simp⟩⟩
  case round =>
    obtain ⟨k, hk, rfl, hb, HT⟩ := hrel
    by_cases hlt : k < l.length
    · obtain ⟨g1, off, rfl, hg1, hcs⟩ := HR.out (List.ne_nil_of_length_pos (by omega))
      obtain ⟨d, hd⟩ : ∃ d, l[k] = d := ⟨_, rfl⟩
      have hlk : l[k]? = some d := by rw [List.getElem?_eq_getElem hlt, hd]
      have c0 : wr.cell? ⟨g1, off + k * 2, none⟩ = some (.int .i64 d.1) := (hb.cell hg1).trans (hcs k d hlk 0 _ rfl)
      have c1 : wr.cell? ⟨g1, off + k * 2 + 1, none⟩ = some (.int .i64 d.2) := (hb.cell hg1).trans (hcs k d hlk 1 _ rfl)
      have hs := same_any g h d wr (Nat.lt_of_lt_of_le hg hb.size) ((hb.cell hg).trans HC.out)
      have HLK := Keep.mk hlk
      have HB := Keep.mk hb
      have hlti : ((k : Nat) : Int) < (l.length : Int) := by omega
      clear hcs hb hlk hd
      by_cases he : d.1 = h
      · rw [decide_eq_true he] at hs
        have HS := Keep.mk hs
        have HE := Keep.mk he
        clear hs he
        go_wp2_with (first | (go_at_call 157; go_loud (refine HS.out.mono ?_; rintro e w' ⟨rfl, hb'⟩); have HB' := Keep.mk hb'; clear hb') | fail)
        go_ret
        exact ⟨HB.out.trans (HB'.out.mono HB.out.size), k, rfl, .inr ⟨k, hlt, rfl, ⟨d, HLK.out, HE.out⟩, HT.out⟩⟩
      · rw [decide_eq_false he] at hs
        have HS := Keep.mk hs
        have HE := Keep.mk he
        clear hs he
        go_wp2_with (first | (go_at_call 157; go_loud (refine HS.out.mono ?_; rintro e w' ⟨rfl, hb'⟩); have HB' := Keep.mk hb'; clear hb') | fail)
        go_roundw
        case rel =>
          refine ⟨k + 1, by omega, by go_num, HB.out.trans (HB'.out.mono HB.out.size), ⟨fun x hx => ?_⟩⟩
          have ht : l.take (k + 1) = l.take k ++ [d] := by
            rw [List.take_add_one, HLK.out]; rfl
          rw [ht, List.mem_append] at hx
          rcases hx with hx | hx
          · exact HT.out x hx
          · simp only [List.mem_singleton] at hx; subst hx; exact HE.out
        case measure => simp [intOf] <;> omega
    · have hge : k = l.length := by omega
      subst hge
      go_wp2
      go_ret
      exact ⟨hb, -1, rfl, .inl ⟨rfl, by have := HT.out; rwa [List.take_length] at this⟩⟩
end Go.Proofs.YtcjanieeepcddaaGreatDoor
