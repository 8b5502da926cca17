/-
  The contracts of the reference's Bytes, and of Put where an entry is not right.
-/
import Derived.StillTailTactics
import Derived.Deep.RegionHeld3
import Derived.Deep.AppendLies
import Derived.WalkSpells
import Derived.StillTactics
import Derived.Test.YtmiannlghigagaaScriptC
namespace Go.Proofs.Ytmiannlghigagaa
open Go.RowKit

theorem wrap_byte {a : Int} (h0 : 0 ≤ a) (h1 : a ≤ 255) : IntKind.u8.wrap a = a := by
  rw [IntKind.wrap_u8]; omega
theorem wrap_bytes {k s : Int} (h0 : 0 ≤ k) (h1 : k < 16) (h2 : 0 ≤ s) (h3 : s ≤ 1) : IntKind.u8.wrap (IntKind.i64.wrap (IntKind.i64.wrap (2 * k) + s)) = 2 * k + s := by
  rw [IntKind.wrap_u8, IntKind.wrap_i64, IntKind.wrap_i64]; omega
set_option maxHeartbeats 1000000 in
set_option maxRecDepth 100000 in
theorem bytes_any (A : Option Addr) (l : List Ent) (ca : Nat) (w : World) (hl : Rd w w.heap.size 5 Ent.cells A l) (h1 : l.length ≤ 100000) (hall : ∀ e ∈ l, rightB e = true) :
    Calls Try.prog 15 #[.slice A l.length ca] w fun r w' => ∃ v, r = .returned v ∧ w'.ownsRow w.heap.size 5 1 v (l.length * 4) ((putS l).flatMap encB) ∧ Below w.heap.size w w' := by
  obtain ⟨i0, hi, hz0, hz1, hz2⟩ := info_parts info5
  have hallH := Lib.hid hall
  clear hall
  have hlH := Lib.hid hl
  clear hl
  go_enter Try.func15, Try.ntmps15
  go_wp2
  go_loopw [3, 4] (fun v i wr => ∃ k : Nat, k ≤ l.length ∧ i = .int .i64 k ∧ wr.ownsRow w.heap.size 5 1 v (k * 4) ((putS (l.take k)).flatMap encB) ∧ Below w.heap.size w wr) (fun _ i _ => l.length - (intOf i).toNat)
  case atStart => exact ⟨0, by omega, rfl, World.ownsRow_nil _ _ _ _, Below.refl _ _⟩
  case round =>
    obtain ⟨k, hk, rfl, hown, hb⟩ := hrel
    by_cases hlt : k < l.length
    · obtain ⟨b, off, rfl, hbl, hc⟩ := (hlH.out.below hb).ent (List.ne_nil_of_length_pos (by omega))
      obtain ⟨c0, c1, c2, c3, c4⟩ := hc k hlt
      clear hc
      have hr := hallH.out l[k] (List.getElem_mem hlt)
      obtain ⟨⟨bk0, bk1⟩, ⟨bs0, bs1⟩, ⟨ba0, ba1⟩, ⟨bb0, bb1⟩, bc0, bc1⟩ := right_bd hr
      clear hr
      go_wp2
      have hbs := hb.size
      have ab : u3.ownBlock ≠ some b := fun e => by have := (hown.lt _ e).1; omega
      go_region_held3 (fun w' => w'.cell? ⟨b, off + k * 5, none⟩ = some (.int .i64 l[k].k) ∧ w'.cell? ⟨b, off + k * 5 + 1, none⟩ = some (.int .i64 l[k].s) ∧ w'.cell? ⟨b, off + k * 5 + 2, none⟩ = some (.int .i64 l[k].a) ∧ w'.cell? ⟨b, off + k * 5 + 3, none⟩ = some (.int .i64 l[k].b) ∧ w'.cell? ⟨b, off + k * 5 + 4, none⟩ = some (.int .i64 l[k].c))
        (first
          | go_keep
          | (go_split_ands
             refine ⟨?_, ?_, ?_, ?_, ?_⟩ <;> (rw [hgrow.cell_far _ (by simp; omega) (Ne.symm ab)]; assumption)))
        ((refine step_append_lies _ (by rfl) _ _ _ (by rfl) w.heap.size 5 i0 _ 1 1 Try.underlying22 hi hz0 hz1 hz2 rfl (by omega) u3 (k * 4) _ (by rfl) ((hown.alloc _).drew) ⟨wr.heap.size, 0, none⟩ 4 4 [.int .u8 (IntKind.u8.wrap (IntKind.i64.wrap (IntKind.i64.wrap (2 * l[k].k) + l[k].s))), .int .u8 (IntKind.u8.wrap l[k].a), .int .u8 (IntKind.u8.wrap l[k].b), .int .u8 (IntKind.u8.wrap l[k].c)] (by rfl) (by rfl) (by exact new_row _ _ _) (by simp [Value.oneCell']) (by omega) (by simp only [maxLen]; omega) (by omega) (by have := hb.size; simp; omega) (wr.heap.size + 1) (by simp) ?_; intro gg cap w1 hown1 hgrow hat hlt1))
      have HO := Lib.hid hown1
      have HG := Lib.hid hgrow
      clear hown1 hgrow hat hlt1 ab
      go_wp2
      go_roundw
      case rel =>
        refine ⟨k + 1, by omega, by go_num, ?_, ?_⟩
        · have e1 : (k + 1) * 4 = k * 4 + 4 := by omega
          rw [e1, putS_snoc l k hlt, List.flatMap_append]
          have h2 := HO.out
          rw [wrap_bytes bk0 bk1 bs0 bs1, wrap_byte ba0 ba1, wrap_byte bb0 bb1, wrap_byte bc0 bc1] at h2
          exact h2
        · exact ((hb.alloc hb.size _).drew).grown HG.out (by have := hb.size; simp at this ⊢; omega) (fun j e => (hown.lt j e).1)
      case measure => simp [intOf]; omega
    · go_wp2
      go_ret
      obtain rfl : k = l.length := by omega
      exact ⟨_, rfl, by simpa using hown, hb⟩
end Go.Proofs.Ytmiannlghigagaa
