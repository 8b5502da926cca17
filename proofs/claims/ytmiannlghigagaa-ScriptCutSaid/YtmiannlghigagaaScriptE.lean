/-
  The contracts of Put where an entry is not right, and of the reference's Get.
-/
import Derived.IntWalk
import Derived.Test.YtmiannlghigagaaScriptD
namespace Go.Proofs.Ytmiannlghigagaa
open Go.RowKit

set_option maxHeartbeats 1000000 in
theorem put_no (A : Option Addr) (l : List Ent) (ca : Nat) (w : World) (hl : Rd w w.heap.size 5 Ent.cells A l) (h1 : l.length ≤ 100000) (hno : ¬ ∀ e ∈ l, rightB e = true) :
    Calls Try.prog 12 #[.slice A l.length ca] w fun r w' => r = .returned (.tuple #[.slice none 0 0, .int .i64 1]) ∧ Below w.heap.size w w' := by
  obtain ⟨i0, hi, hz0, hz1, hz2⟩ := info_parts info5
  have hnoH := Lib.hid hno
  clear hno
  have hlH := Lib.hid hl
  clear hl
  go_enter Try.func12, Try.ntmps12
  go_wp2
  go_loopw [4, 9] (fun v i wr => ∃ k xs, k ≤ l.length ∧ i = .int .i64 k ∧ wr.ownsRow w.heap.size 5 1 v (k * 4) xs ∧ Below w.heap.size w wr ∧ ∀ (j : Nat) (h : j < l.length), j < k → rightB l[j] = true) (fun _ i _ => l.length - (intOf i).toNat)
  case atStart => exact ⟨0, _, by omega, rfl, World.ownsRow_nil _ _ _ _, Below.refl _ _, fun j _ h => absurd h (by omega)⟩
  case round =>
    obtain ⟨k, xs, hk, rfl, hown, hb, hall⟩ := hrel
    have hallH := Lib.hid hall
    clear hall
    by_cases hlt : k < l.length
    · obtain ⟨b, off, rfl, hbl, hc⟩ := (hlH.out.below hb).ent (List.ne_nil_of_length_pos (by omega))
      obtain ⟨c0, c1, c2, c3, c4⟩ := hc k hlt
      clear hc
      by_cases hr : rightB l[k] = true
      · obtain ⟨⟨bk0, bk1⟩, ⟨bs0, bs1⟩, ⟨ba0, ba1⟩, ⟨bb0, bb1⟩, bc0, bc1⟩ := right_bd hr
        go_wp2_with (first | (go_at_call 9; refine (right_any l[k] _).mono ?_; rintro e w' ⟨rfl, hb1⟩; obtain ⟨hcc, hff⟩ := bcell hb1) | (at_builtin; go_loud (refine wpList_append_own _ rfl _ _ 22 rfl w.heap.size 5 i0 (.int .u8 0) 1 1 Try.underlying22 hi hz0 hz1 hz2 rfl (by decide) u4 (k * 4) _ rfl ((own_below (hown.alloc _) hb1).alloc _) ⟨w'.heap.size, 0, none⟩ 4 4 _ rfl (by exact rfl) (new_row _ _ _) (by simp [Value.oneCell']) (by simp only [maxLen]; omega) (by omega) (by have := hb.size; have := hb1.size; simp at this ⊢; omega) ?_); intro v' w1 hown' hgrow _; have HO := Lib.hid hown'; have HG := Lib.hid hgrow; clear hown' hgrow hcc hff))
        have hrH := Lib.hid hr
        clear hr
        go_roundw
        case rel =>
          have e1 : (k + 1) * 4 = k * 4 + 4 := by omega
          obtain ⟨ys, hys⟩ : ∃ ys, w1.ownsRow w.heap.size 5 1 v' ((k + 1) * 4) ys := ⟨_, by rw [e1]; exact HO.out⟩
          refine ⟨k + 1, ys, by omega, by go_num, hys, ?_, fun j h hj => ?_⟩
          · exact (((hb.alloc hb.size _).trans (hb1.mono (by have := hb.size; simp; omega))).alloc (by have := hb.size; have := hb1.size; simp at this ⊢; omega) _).grown HG.out (by have := hb.size; have := hb1.size; simp at this ⊢; omega) (fun j e => (hown.lt j e).1)
          · by_cases e : j = k
            · subst e; exact hrH.out
            · exact hallH.out j h (by omega)
        case measure => simp [intOf]; omega
      · have hr' : rightB l[k] = false := by simpa using hr
        clear hr
        go_wp2_with (first | (go_at_call 9; refine (right_any l[k] _).mono ?_; rintro e w' ⟨rfl, hb1⟩))
        go_ret2
        exact ⟨rfl, (hb.alloc hb.size _).trans (hb1.mono (by have := hb.size; simp; omega))⟩
    · exfalso
      refine hnoH.out fun e he => ?_
      obtain ⟨j, hj, rfl⟩ := List.mem_iff_getElem.1 he
      exact hallH.out j hj (by omega)

def getS : List Int → List Ent
  | a :: b :: c :: d :: r => ⟨a / 2 % 16, a % 2, b, c, d⟩ :: getS r
  | _ => []
theorem getS_length : ∀ zs : List Int, (getS zs).length = zs.length / 4
  | a :: b :: c :: d :: r => by rw [getS, List.length_cons, getS_length r]; simp only [List.length_cons]; omega
  | [] => rfl
  | [_] => by simp [getS]
  | [_, _] => by simp [getS]
  | [_, _, _] => by simp [getS]
theorem getS_at : ∀ (zs : List Int) (k : Nat) (h : 4 * k + 4 ≤ zs.length), (getS zs)[k]? = some ⟨zs[4 * k] / 2 % 16, zs[4 * k] % 2, zs[4 * k + 1], zs[4 * k + 2], zs[4 * k + 3]⟩
  | a :: b :: c :: d :: r, 0, _ => rfl
  | a :: b :: c :: d :: r, k + 1, h => by
    have := getS_at r k (by simp only [List.length_cons] at h; omega)
    rw [getS, List.getElem?_cons_succ, this]
    rfl
  | [], k, h => by simp at h
  | [_], k, h => by simp only [List.length_cons, List.length_nil] at h; omega
  | [_, _], k, h => by simp only [List.length_cons, List.length_nil] at h; omega
  | [_, _, _], k, h => by simp only [List.length_cons, List.length_nil] at h; omega
theorem getS_take {zs : List Int} {k : Nat} (h : 4 * k + 4 ≤ zs.length) : (getS zs).take (k + 1) = (getS zs).take k ++ [⟨zs[4 * k] / 2 % 16, zs[4 * k] % 2, zs[4 * k + 1], zs[4 * k + 2], zs[4 * k + 3]⟩] := by
  have h1 := getS_at zs k h
  obtain ⟨hk, he⟩ := List.getElem?_eq_some_iff.1 h1
  rw [List.take_succ_eq_append_getElem hk, he]

theorem infoEnt : (Try.prog.info? 27).map (fun i => (i.zero, i.size, i.bytes)) = some (some (.agg #[.int .i64 0, .int .i64 0, .int .i64 0, .int .i64 0, .int .i64 0]), 5, 40) := by kernel_rfl

set_option maxHeartbeats 1000000 in
set_option maxRecDepth 100000 in
theorem refGet_any (A : Option Addr) (zs : List Int) (ca : Nat) (w : World) (hl : Rd w w.heap.size 1 encB A zs) (h1 : zs.length ≤ 100000) (hall : ∀ z ∈ zs, 0 ≤ z ∧ z ≤ 255) :
    Calls Try.prog 11 #[.slice A zs.length ca] w fun r w' => ∃ v, r = .returned v ∧ w'.ownsRow w.heap.size 27 5 v (getS zs).length ((getS zs).flatMap Ent.cells) ∧ Below w.heap.size w w' := by
  obtain ⟨i0, hi, hz0, hz1, hz2⟩ := info_parts infoEnt
  have hallH := Lib.hid hall
  clear hall
  have hlH := Lib.hid hl
  clear hl
  have hgl := getS_length zs
  go_enter Try.func11, Try.ntmps11
  go_wp2
  go_loopw [3, 4] (fun v i wr => ∃ k n : Nat, n ≤ zs.length ∧ Hid (n = 4 * k) ∧ i = .int .i64 n ∧ wr.ownsRow w.heap.size 27 5 v k (((getS zs).take k).flatMap Ent.cells) ∧ Below w.heap.size w wr) (fun _ i _ => zs.length - (intOf i).toNat)
  case atStart => exact ⟨0, 0, by omega, rfl, rfl, World.ownsRow_nil _ _ _ _, Below.refl _ _⟩
  case round =>
    obtain ⟨k, n, hn, hnk, rfl, hown, hb⟩ := hrel
    by_cases hlt : n + 4 ≤ zs.length
    · obtain ⟨b, off, rfl, hbl, hc⟩ := (hlH.out.below hb).byte (List.ne_nil_of_length_pos (by omega))
      have c0 := hc n (by omega)
      have c1 := hc (n + 1) (by omega)
      have c2 := hc (n + 2) (by omega)
      have c3 := hc (n + 3) (by omega)
      clear hc
      obtain ⟨b0, b0'⟩ := hallH.out zs[n] (List.getElem_mem _)
      have hkl : k + 1 ≤ 100000 := by have := hnk.out; omega
      have hbs := hb.size
      have ab : u3.ownBlock ≠ some b := fun e => by have := (hown.lt _ e).1; omega
      have hB : decide ((n : Int) + 4 ≤ (zs.length : Int)) = true := by simp; omega
      go_wp2
      have e1 : (0 : Int) ≤ (n : Int) + 1 := by omega
      have f1 : ((n : Int) + 1) < (zs.length : Int) := by omega
      have e2 : (0 : Int) ≤ (n : Int) + 2 := by omega
      have f2 : ((n : Int) + 2) < (zs.length : Int) := by omega
      have e3 : (0 : Int) ≤ (n : Int) + 3 := by omega
      have f3 : ((n : Int) + 3) < (zs.length : Int) := by omega
      have h63 : k + 1 ≤ maxLen := by simp only [maxLen]; omega
      have hby : (k + 1) * 40 ≤ 140737488355328 := by omega
      obtain ⟨g1, g1'⟩ := hallH.out zs[n + 1] (List.getElem_mem _)
      obtain ⟨g2, g2'⟩ := hallH.out zs[n + 2] (List.getElem_mem _)
      obtain ⟨g3, g3'⟩ := hallH.out zs[n + 3] (List.getElem_mem _)
      have v1 : IntKind.i64.wrap zs[n + 1] = zs[n + 1] := IntWalk.i64_in _ (by omega)
      have v2 : IntKind.i64.wrap zs[n + 2] = zs[n + 2] := IntWalk.i64_in _ (by omega)
      have v3 : IntKind.i64.wrap zs[n + 3] = zs[n + 3] := IntWalk.i64_in _ (by omega)
      have q0 : zs[n].tdiv 2 = zs[n] / 2 := Int.tdiv_eq_ediv_of_nonneg b0
      have q1 : IntKind.i64.wrap (zs[n] / 2) = zs[n] / 2 := IntWalk.i64_in _ (by omega)
      have q2 : (zs[n] / 2).tmod 16 = zs[n] / 2 % 16 := Int.tmod_eq_emod_of_nonneg (by omega)
      have q3 : zs[n].tmod 2 = zs[n] % 2 := Int.tmod_eq_emod_of_nonneg b0
      have x1 : IntKind.i64.wrap ((n : Int) + 1) = (n : Int) + 1 := IntWalk.i64_in _ (by omega)
      have x2 : IntKind.i64.wrap ((n : Int) + 2) = (n : Int) + 2 := IntWalk.i64_in _ (by omega)
      have x3 : IntKind.i64.wrap ((n : Int) + 3) = (n : Int) + 3 := IntWalk.i64_in _ (by omega)
      have t1 : ((n : Int) + 1).toNat = n + 1 := by omega
      have t2 : ((n : Int) + 2).toNat = n + 2 := by omega
      have t3 : ((n : Int) + 3).toNat = n + 3 := by omega
      go_region_held3 (fun w' => w'.cell? ⟨b, off + (n + 1), none⟩ = some (.int .u8 zs[n + 1]) ∧ w'.cell? ⟨b, off + (n + 2), none⟩ = some (.int .u8 zs[n + 2]) ∧ w'.cell? ⟨b, off + (n + 3), none⟩ = some (.int .u8 zs[n + 3]))
        (first
          | go_keep
          | (go_split_ands
             refine ⟨?_, ?_, ?_⟩ <;> (rw [hgrow.cell_far _ (by simp; omega) (Ne.symm ab)]; assumption)))
        ((refine step_append_lies _ (by rfl) _ _ _ (by rfl) w.heap.size 27 i0 _ 5 40 Try.underlying24 hi hz0 hz1 hz2 rfl (by omega) u3 k _ (by rfl) ((hown.alloc _).drew) ⟨wr.heap.size, 0, none⟩ 1 1 (Ent.cells ⟨zs[n] / 2 % 16, zs[n] % 2, zs[n + 1], zs[n + 2], zs[n + 3]⟩) (by rfl) (by rfl) (by exact new_row _ _ _) (by simp [Value.oneCell', Ent.cells]) (by decide) h63 hby (Nat.le_trans hbs (by simp)) (wr.heap.size + 1) (by simp) ?_; intro gg cap w1 hown1 hgrow hat hlt1))
      have HO := Lib.hid hown1
      have HG := Lib.hid hgrow
      clear hat hlt1 ab
      go_wp2
      go_roundw
      case rel =>
        have hnk' := hnk.out
        subst hnk'
        refine ⟨k + 1, 4 * k + 4, by omega, show 4 * k + 4 = 4 * (k + 1) by omega, by go_num, ?_, ?_⟩
        · rw [getS_take hlt, List.flatMap_append]
          have h2 := HO.out
          simpa using h2
        · exact ((hb.alloc hb.size _).drew).grown HG.out (by have := hb.size; simp at this ⊢; omega) (fun j e => (hown.lt j e).1)
      case measure => simp [intOf]; omega
    · have hB : decide ((n : Int) + 4 ≤ (zs.length : Int)) = false := by simp; omega
      go_wp2
      go_ret
      have hkk : k = (getS zs).length := by have := hnk.out; have := getS_length zs; omega
      subst hkk
      exact ⟨_, rfl, by simpa using hown, hb⟩
end Go.Proofs.Ytmiannlghigagaa
