/-
  The contracts of script.fours, of the iterator that it hands back, and of script.Get.
-/
import Derived.Test.YtmiannlghigagaaRange
import Derived.Test.YtmiannlghigagaaScriptE
import Derived.Shelf.Abstract
import Derived.OwnWalkIn
import Derived.TacticsInMore
import Derived.LoopNIn
import Derived.LoopIn
import Derived.Laws.Cover3
namespace Go.Proofs.Ytmiannlghigagaa
open Go.RowKit Go.Shelf
attribute [local go_sem] Oper.semAt_some

abbrev Quad := Int × Int × Int × Int
def quads : List Int → List Quad
  | a :: b :: c :: d :: r => (a, b, c, d) :: quads r
  | _ => []
def encQ (x : Quad) : Array Value := #[.agg #[.int .u8 x.1, .int .u8 x.2.1, .int .u8 x.2.2.1, .int .u8 x.2.2.2]]
theorem quads_length : ∀ zs : List Int, (quads zs).length = zs.length / 4
  | a :: b :: c :: d :: r => by rw [quads, List.length_cons, quads_length r]; simp only [List.length_cons]; omega
  | [] => rfl
  | [_] => by simp [quads]
  | [_, _] => by simp [quads]
  | [_, _, _] => by simp [quads]
theorem quads_at : ∀ (zs : List Int) (k : Nat) (h : 4 * k + 4 ≤ zs.length), (quads zs)[k]? = some (zs[4 * k], zs[4 * k + 1], zs[4 * k + 2], zs[4 * k + 3])
  | a :: b :: c :: d :: r, 0, _ => rfl
  | a :: b :: c :: d :: r, k + 1, h => by
    have := quads_at r k (by simp only [List.length_cons] at h; omega)
    rw [quads, List.getElem?_cons_succ, this]
    rfl
  | [], k, h => by simp at h
  | [_], k, h => by simp only [List.length_cons, List.length_nil] at h; omega
  | [_, _], k, h => by simp only [List.length_cons, List.length_nil] at h; omega
  | [_, _, _], k, h => by simp only [List.length_cons, List.length_nil] at h; omega
theorem quads_take {zs : List Int} {k : Nat} (h : 4 * k + 4 ≤ zs.length) : (quads zs).take (k + 1) = (quads zs).take k ++ [(zs[4 * k], zs[4 * k + 1], zs[4 * k + 2], zs[4 * k + 3])] := by
  obtain ⟨hk, he⟩ := List.getElem?_eq_some_iff.1 (quads_at zs k h)
  rw [List.take_succ_eq_append_getElem hk, he]

def boxLen (W : World) (B : Nat) : Nat := match W.cell? ⟨B, 0, none⟩ with | some (.slice _ n _) => n | _ => 0
theorem boxLen_eq {W : World} {B : Nat} {A : Option Addr} {n c : Nat} (h : W.cell? ⟨B, 0, none⟩ = some (.slice A n c)) : boxLen W B = n := by simp [boxLen, h]

def keepsBox (n₀ Bs : Nat) (V V' : World) : Prop := Below n₀ V V' ∧ V'.heap[Bs]? = V.heap[Bs]?

set_option maxRecDepth 100000 in
set_option maxHeartbeats 2000000 in
theorem fours1_in (F : Fence) (n : Nat) (hF : F.fn 19) (hro : F.round = none) (hn : 1 ≤ n) (Bs n₀ : Nat) (hBs : n₀ ≤ Bs) (zs : List Int) :
    SeqBox F n Try.prog 19 #[.pointer (some ⟨Bs, 0, none⟩)] encQ (keepsBox n₀ Bs) Bs (quads zs) (fun W => ∃ A c, Boxed W Bs 22 (.slice A zs.length c) ∧ zs.length ≤ c ∧ Rd W n₀ 1 encB A zs) := by
  rintro l J W hJs ⟨A, c, hbox, hcap, hrd⟩ hY h0
  refine callsIn_of_wp Try.func19 rfl hF ?_ hro
  simp only [Try.ntmps19, List.size_toArray, List.length_cons, List.length_nil, Nat.reduceAdd, Nat.reduceSub, Array.replicate_succ, Array.replicate_zero, List.push_toArray, List.append_toArray, List.nil_append, List.cons_append]
  gi_wp2
  gi_loopw [3] (fun _ wr => ∃ (k m c' : Nat) (A' : Option Addr), Hid (m + 4 * k = zs.length) ∧ J ((quads zs).take k) wr ∧ Boxed wr Bs 22 (.slice A' m c') ∧ m ≤ c' ∧ Rd wr n₀ 1 encB A' (zs.drop (4 * k)))
    (fun _ wr => boxLen wr Bs)
  case atStart => exact ⟨0, _, c, A, rfl, h0, hbox, hcap, hrd⟩
  case round =>
    obtain ⟨k, m, c', A', hmk, hJ, hbx, hmc, hr⟩ := hrel
    have hc0 := hbx.cell
    have hf0 := hbx.frozen
    by_cases hlt : 4 ≤ m
    · have hlen : 4 * k + 4 ≤ zs.length := by have := hmk.out; omega
      obtain ⟨b, off, rfl, hbl, hc⟩ := hr.byte (List.ne_nil_of_length_pos (by rw [List.length_drop]; omega))
      have g0 := hc 0 (by rw [List.length_drop]; omega)
      have g1 := hc 1 (by rw [List.length_drop]; omega)
      have g2 := hc 2 (by rw [List.length_drop]; omega)
      have g3 := hc 3 (by rw [List.length_drop]; omega)
      clear hc
      simp only [List.getElem_drop, Nat.add_zero] at g0 g1 g2 g3
      have hp : (quads zs).take k ++ [(zs[4 * k], zs[4 * k + 1], zs[4 * k + 2], zs[4 * k + 3])] <+: quads zs := by
        rw [← quads_take hlen]; exact List.take_prefix _ _
      obtain ⟨fn, tmps, assign, body, hy, hR⟩ := hY _ _ wr hJ hp
      simp only [encQ] at hy
      clear hp
      have hat : ∀ w, (Instr.arrayAt 42 (.slice (some ⟨b, off, none⟩) 4 c')).run Try.prog w = .ok (.pointer (some ⟨b, off, none⟩)) w := fun w => run_arrayAt w 42 _ 4 _ 4 c' Try.underlying42 (by omega)
      gi_wp2
      refine hR.mono ?_
      rintro e W3 ⟨rfl, hJ3, hk3, hbb⟩
      have hbx3 : Boxed W3 Bs 22 (.slice (some ⟨b, off, none⟩) m c') := hbb.trans hbx
      have hc3 := hbx3.cell
      have hf3 := hbx3.frozen
      clear hbb hc0 hf0
      gi_wp2
      go_roundw
      case rel =>
        have hmm : m = (zs.drop (4 * k)).length := by have := hmk.out; rw [List.length_drop]; omega
        have hr3 := ((hr.below hk3).drop (k := 4) (cap := c') (by omega) (by omega)).setCell (p := ⟨Bs, 0, none⟩) hBs (.slice (if c' = 4 then some ⟨b, off, none⟩ else some ⟨b, off + 4, none⟩) (m - 4) (c' - 4))
        rw [List.drop_drop] at hr3
        refine ⟨k + 1, m - 4, c' - 4, _, show m - 4 + 4 * (k + 1) = zs.length by have := hmk.out; omega, ?_, hbx3.set _, by omega, hr3⟩
        rw [quads_take hlen]
        exact hJs _ _ _ hJ3
      case measure =>
        rw [boxLen_eq (hbx3.set _).cell, boxLen_eq hbx.cell]; omega
    · gi_wp2
      go_end0
      obtain rfl : k = (quads zs).length := by have := hmk.out; rw [quads_length]; omega
      exact ⟨⟨_, rfl⟩, by simpa using hJ⟩
end Go.Proofs.Ytmiannlghigagaa
