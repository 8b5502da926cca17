/-
  Walks and laws, one behind the other (part 5).
-/
import Derived.BigQuiet
import Derived.Deep.QuietTactic
import Derived.LoopTactic
import Derived.Outline
import Derived.OwnWalk
import Derived.Test.YtjpokeakemlffaaGreatDoorProg
import Derived.WalkKit
import Derived.Test.YtjpokeakemlffaaGreatDoorS2
set_option linter.unusedSimpArgs false
set_option linter.unusedVariables false
/-
  The contracts of the layer octet: width, Join.
-/
namespace Go.Proofs.YtjpokeakemlffaaGreatDoor
open Go.RowKit
theorem infoB : (Tryz.prog.info? 5).map (fun i => (i.zero, i.size, i.bytes)) = some (some (.int .u8 0), 1, 1) := by kernel_rfl
theorem width_any (n : Int) (w : World) (h0 : 1 ≤ n) (h1 : n ≤ 8) :
    Calls Tryz.prog 232 #[.int .i64 n] w fun e w' => e = .returned (.int .i64 n) ∧ w = w' := by
  rcases (show n = 1 ∨ 1 < n by omega) with rfl | h
  · go_enter Tryz.func232, Tryz.ntmps232
    go_wp2
    go_ret
    exact ⟨rfl, rfl⟩
  · go_enter Tryz.func232, Tryz.ntmps232
    go_wp2
    go_ret
    exact ⟨rfl, rfl⟩
structure Pc where
  A : Option Addr
  n : Nat
  c : Nat
  l : List Int
def encP (p : Pc) : List Value := [.slice p.A p.n p.c]
theorem encP_length (p : Pc) : (encP p).length = 1 := rfl
def PcsOk (w : World) (ps : List Pc) : Prop := ∀ p ∈ ps, Arg w 1 encB p.A p.n p.c p.l
theorem PcsOk.below {w w' : World} {ps : List Pc} (h : PcsOk w ps) (hb : Below w.heap.size w w') : PcsOk w' ps := fun p hp => (h p hp).below hb
def glue (ps : List Pc) : List Int := ps.flatMap (·.l)
theorem glue_snoc {ps : List Pc} {k : Nat} (h : k < ps.length) : glue (ps.take (k + 1)) = glue (ps.take k) ++ ps[k].l := by
  rw [glue, List.take_succ_eq_append_getElem h]
  simp only [glue, List.flatMap_append, List.flatMap_cons, List.flatMap_nil, List.append_nil]
theorem glue_le (ps : List Pc) (k : Nat) : (glue (ps.take k)).length ≤ (glue ps).length := by
  rw [show glue ps = glue (ps.take k) ++ glue (ps.drop k) from by rw [glue, glue, glue, ← List.flatMap_append, List.take_append_drop]]
  simp
theorem Rd.pc {w : World} {B : Nat} {A : Option Addr} {l : List Pc} (h : Rd w B 1 encP A l) (hl : l ≠ []) : ∃ b off, A = some ⟨b, off, none⟩ ∧ b < B ∧ ∀ k (hk : k < l.length), w.cell? ⟨b, off + k, none⟩ = some (.slice l[k].A l[k].n l[k].c) := by
  obtain ⟨b, off, e, hb, hc⟩ := h hl
  refine ⟨b, off, e, hb, fun k hk => ?_⟩
  have := hc k _ (List.getElem?_eq_getElem hk) 0 (.slice l[k].A l[k].n l[k].c) rfl
  simpa using this
set_option maxHeartbeats 1000000 in
theorem join_any (A : Option Addr) (n ca : Nat) (ps : List Pc) (w : World) (ha : Arg w 1 encP A n ca ps) (hok : PcsOk w ps) (hn : n ≤ 1000000) (hg : (glue ps).length ≤ 1000000000) :
    Calls Tryz.prog 173 #[.slice A n ca] w fun r w' => ∃ A' c', r = .returned (.slice A' (glue ps).length c') ∧ Arg w' 1 encB A' (glue ps).length c' (glue ps) ∧ w'.ownsRow w.heap.size 5 1 (.slice A' (glue ps).length c') (glue ps).length ((glue ps).flatMap encB) ∧ Below w.heap.size w w' := by
  obtain ⟨i0, hi, hz0, hz1, hz2⟩ := info_parts infoB
  obtain ⟨rfl, hcap, hmax, hnil, hrd⟩ := ha
  have hrdH := Lib.hid hrd
  have hokH := Lib.hid hok
  clear hrd hok hnil
  go_enter Tryz.func173, Tryz.ntmps173
  go_wp2
  go_loopw [3, 8] (fun v i wr => ∃ k m : Nat, k ≤ ps.length ∧ m ≤ 1000000000 ∧ Hid (m = (glue (ps.take k)).length) ∧ i = .int .i64 k ∧ wr.ownsRow w.heap.size 5 1 v m ((glue (ps.take k)).flatMap encB) ∧ Below w.heap.size w wr) (fun _ i _ => ps.length - (intOf i).toNat)
  case atStart => exact ⟨0, 0, by omega, by omega, rfl, rfl, World.ownsRow_nil _ _ _ _, Below.refl _ _⟩
  case round =>
    obtain ⟨k, m, hk, hm, hmg, rfl, hown, hb⟩ := hrel
    by_cases hlt : k < ps.length
    · obtain ⟨b, off, rfl, hbl, hc⟩ := (hrdH.out.below hb).pc (List.ne_nil_of_length_pos (by omega))
      have c0 := hc k hlt
      clear hc
      have hp := (hokH.out ps[k] (List.getElem_mem hlt)).below hb
      have hsn := glue_snoc hlt
      have hle := glue_le ps (k + 1)
      have hpl := hp.hlen
      have hm1 : m + ps[k].n ≤ 1000000000 := by have := hmg.out; rw [hsn, List.length_append] at hle; omega
      have hsnH := Lib.hid hsn
      have hpH := Lib.hid hp
      have hpn := Lib.hid hp.hnil
      have hplH := Lib.hid hpl
      clear hsn hle hp hpl
      go_wp2_with (at_builtin; go_loud (refine wpList_append_rd rfl _ _ 24 rfl w.heap.size 5 i0 (.int .u8 0) 1 1 Tryz.underlying24 hi hz0 hz1 hz2 rfl (by decide) u3 m _ rfl hown ps[k].A ps[k].n ps[k].c _ encB ps[k].l rfl hpn.out hplH.out encB_length hpH.out.rd encBOne (by simp only [maxLen]; omega) (by omega) hb.size ?_); intro v1 w1 hown1 hgrow1 hat1)
      have HO := Lib.hid hown1
      have HG := Lib.hid hgrow1
      clear hown1 hgrow1 hat1
      go_roundw
      case rel =>
        refine ⟨k + 1, m + ps[k].n, by omega, hm1, ?_, by go_num, ?_, hb.grown HG.out hb.size (fun j e => (hown.lt j e).1)⟩
        · show _ = _
          rw [hsnH.out, List.length_append, ← hmg.out, hplH.out]
        · rw [hsnH.out, List.flatMap_append]
          exact HO.out
      case measure => simp [intOf]; omega
    · have hkk : k = ps.length := by omega
      have hmm : m = (glue ps).length := by have := hmg.out; rw [List.take_of_length_le (by omega)] at this; exact this
      have hown' : wr.ownsRow w.heap.size 5 1 u3 (glue ps).length ((glue ps).flatMap encB) := by
        have := hown
        rw [List.take_of_length_le (by omega), hmm] at this
        exact this
      have HO := Lib.hid hown'
      clear hkk hmm hown'
      go_wp2
      go_ret
      obtain ⟨A', c', rfl, ha'⟩ := Arg.of_own (by decide) encB_length HO.out
      exact ⟨A', c', rfl, ha', HO.out, hb⟩
theorem Arg.one {W : World} {g n c : Nat} {A : Option Addr} (l : List Int) (h : W.cell? ⟨g, 0, none⟩ = some (.slice A n c)) : Arg W 1 encP (some ⟨g, 0, none⟩) 1 1 [⟨A, n, c, l⟩] :=
  ⟨rfl, Nat.le_refl _, by decide, by simp, fun _ => ⟨g, 0, rfl, World.block_lt_of_cell? W _ h, fun i x hx j v hv => by
    have hi : i = 0 := by have := (List.getElem?_eq_some_iff.1 hx).1; simp at this; exact this
    subst hi
    have : x = ⟨A, n, c, l⟩ := by simpa using hx.symm
    subst this
    have hj : j = 0 := by have := (List.getElem?_eq_some_iff.1 hv).1; simp [encP] at this; exact this
    subst hj
    have : v = .slice A n c := by simpa [encP] using hv.symm
    subst this
    simpa using h⟩⟩
theorem PcsOk.one {W : World} {A : Option Addr} {n c : Nat} {l : List Int} (h : Arg W 1 encB A n c l) : PcsOk W [⟨A, n, c, l⟩] := fun p hp => by
  have : p = ⟨A, n, c, l⟩ := by simpa using hp
  subst this
  exact h
theorem join_one (g : Nat) (A : Option Addr) (n c : Nat) (l : List Int) (W : World) (hc : W.cell? ⟨g, 0, none⟩ = some (.slice A n c)) (ha : Arg W 1 encB A n c l) (hn : n ≤ 1000000000) :
    Calls Tryz.prog 173 #[.slice (some ⟨g, 0, none⟩) 1 1] W fun r w' => ∃ A' c', r = .returned (.slice A' n c') ∧ Arg w' 1 encB A' n c' l ∧ Below W.heap.size W w' := by
  have hg : glue [⟨A, n, c, l⟩] = l := by simp [glue]
  refine (join_any _ 1 1 [⟨A, n, c, l⟩] W (Arg.one l hc) (PcsOk.one ha) (by decide) (by rw [hg, ha.hlen]; exact hn)).mono ?_
  rintro e w' ⟨A', c', rfl, ha', _, hb⟩
  rw [hg, ha.hlen] at ha' ⊢
  exact ⟨A', c', rfl, ha', hb⟩
end Go.Proofs.YtjpokeakemlffaaGreatDoor
