/-
  The contract of Wheel.Cancel, of one handle.
-/
import Derived.LoopN
import Derived.Test.YtcjanieeepcddaaGreatDoorWhI
namespace Go.Proofs.YtcjanieeepcddaaGreatDoor
open Go.RowKit Go.Maps

set_option maxHeartbeats 1600000 in
theorem cancel_miss (base b m nb k : Nat) (S : Nat → Value) (N : Nat → List Due) (now : Int) (M : Int → Option Int) (g c : Nat) (h : Int) (w : World) (hW : Whl w base b m nb S N now M k) (hg : g < w.heap.size) (hc : w.cell? ⟨g, 0, none⟩ = some (.int .i64 h)) (hh : wfI h) (hM : M h = none) :
    Calls Tryz.prog 100 #[.pointer (some ⟨b, 0, none⟩), .slice (some ⟨g, 0, none⟩) 1 c] w fun e w' => e = .returned (.int .i64 0) ∧ Below w.heap.size w w' := by
  have HW := Lib.hid hW
  have hcm := (hW.st.alloc (.cells #[.int .i64 h] 3)).mapC
  have hcb : (w.alloc (.cells #[.int .i64 h] 3)).cell? ⟨w.heap.size, 0, none⟩ = some (.int .i64 h) := by rw [World.cell?_alloc_new]; rfl
  obtain ⟨x, hx, -⟩ := ((hW.mp.alloc (.cells #[.int .i64 h] 3)).drew 1).look hh
  rw [hM, Option.isSome_none] at hx
  clear hW hM
  go_enter Tryz.func100, Tryz.ntmps100
  go_wp2
  refine wp_loop_rounds 2 ?_
  rw [rounds_succ]
  go_wp2_with fail
  go_region_held3 (fun W => W.cell? ⟨b, 50, none⟩ = some (.map (some m)) ∧ W.cell? ⟨w.heap.size, 0, none⟩ = some (.int .i64 h) ∧ (Instr.lookup 116 (.map (some m)) (.int .i64 h) true).run Tryz.prog W = .ok (.tuple #[.int .i64 x, .bool false]) W)
    (exact ⟨hcm, hcb, hx⟩)
    (fail)
  go_wp2_with fail
  rw [rounds_succ]
  go_wp2_with fail
  go_ret
  exact ⟨rfl, ((Below.refl _ w).alloc (Nat.le_refl _) _).drew⟩

set_option maxHeartbeats 1600000 in
theorem cancel_hit (base b m nb k : Nat) (S : Nat → Value) (N : Nat → List Due) (now : Int) (M : Int → Option Int) (g c : Nat) (h t : Int) (w : World) (hW : Whl w base b m nb S N now M k) (hbase : base ≤ w.heap.size) (hg : g < w.heap.size) (hc : w.cell? ⟨g, 0, none⟩ = some (.int .i64 h)) (hh : wfI h) (hM : M h = some t)
    (hn : 0 ≤ now) (hn2 : now < 4611686018427387904) (ht : 0 ≤ t) (ht2 : t < 4611686018427387904) (hK : ∀ i, (N i).length ≤ 1000000) :
    Calls Tryz.prog 100 #[.pointer (some ⟨b, 0, none⟩), .slice (some ⟨g, 0, none⟩) 1 c] w fun e w' => e = .returned (.int .i64 1) ∧
      ∃ S', Whl w' base b m nb S' (put N (pl now t) (dropH h (N (pl now t)))) now (setM M h none) (k - 1) ∧ Fm w w' b m S S' := by
  have HW := Lib.hid hW
  have HK := Lib.hid hK
  have hcm := (hW.st.alloc (.cells #[.int .i64 h] 3)).mapC
  have hcb : (w.alloc (.cells #[.int .i64 h] 3)).cell? ⟨w.heap.size, 0, none⟩ = some (.int .i64 h) := by rw [World.cell?_alloc_new]; rfl
  obtain ⟨x, hx, hxt⟩ := ((hW.mp.alloc (.cells #[.int .i64 h] 3)).drew 1).look hh
  obtain rfl := hxt t hM
  rw [hM, Option.isSome_some] at hx
  have HM := Keep.mk hM
  have hq := pl_lt now x
  obtain ⟨p, hpe⟩ : ∃ p, pl now x = p := ⟨_, rfl⟩
  have hPL := place_any b now x ((w.alloc (.cells #[.int .i64 h] 3)).drewN 1) hn hn2 ht ht2 ((hW.st.alloc (.cells #[.int .i64 h] 3)).drew 1).tickC
  rw [hpe] at hPL hq ⊢
  have HPL := Keep.mk hPL
  clear hW hM hxt hK hPL hpe
  have H1 := Lib.hid ((HW.out.st.alloc (.cells #[.int .i64 h] 3)).drew 1)
  have M1 := Lib.hid ((HW.out.mp.alloc (.cells #[.int .i64 h] 3)).drew 1)
  obtain ⟨A, c', hv⟩ : ∃ A c, S p = .slice A (N p).length c := by obtain ⟨A, c, e, _⟩ := own_slice (H1.out.rows p hq); exact ⟨A, c, e⟩
  have HV := Keep.mk hv
  have hrow := H1.out.rows p hq
  have hcp := H1.out.cell p hq
  rw [hv] at hrow hcp
  have HNE : Keep (some w.heap.size ≠ (Value.slice A (N p).length c').ownBlock) := ⟨fun e => by
    have := ((HW.out.st.rows p hq).lt w.heap.size (by rw [hv]; exact e.symm)).2
    omega⟩
  have HDL := Keep.mk (delete_any base w.heap.size h A c' (N p) _ hrow (by simp) (show ((w.alloc (.cells #[.int .i64 h] 3)).drewN 1).cell? ⟨w.heap.size, 0, none⟩ = some (.int .i64 h) from hcb) HNE.out (HK.out p))
  clear hv hrow
  go_enter Tryz.func100, Tryz.ntmps100
  go_wp2
  refine wp_loop_rounds 2 ?_
  rw [rounds_succ]
  go_wp2_with fail
  go_region_held3 (fun W => W.cell? ⟨b, 50, none⟩ = some (.map (some m)) ∧ W.cell? ⟨w.heap.size, 0, none⟩ = some (.int .i64 h) ∧ (Instr.lookup 116 (.map (some m)) (.int .i64 h) true).run Tryz.prog W = .ok (.tuple #[.int .i64 x, .bool true]) W)
    (exact ⟨hcm, hcb, hx⟩)
    (fail)
  generalize hW1 : (w.alloc (.cells #[.int .i64 h] 3)).drewN 1 = w1 at *
  have HW1 := Keep.mk hW1
  have hW1' : (w.alloc (.cells #[.int .i64 h] 3)).drew = w1 := hW1
  rw [hW1']
  have c1b : w1.cell? ⟨w.heap.size, 0, none⟩ = some (.int .i64 h) := by rw [← hW1]; exact hcb
  have hlt1 : w.heap.size < w1.heap.size := by rw [← hW1]; simp
  have FR0 : Keep (Below w.heap.size w w1) := ⟨by rw [← hW1]; exact ((Below.refl _ w).alloc (Nat.le_refl _) _).drew⟩
  clear hcb hcm hx hW1 hW1'
  go_wp2_with (first
    | (go_at_call 155; go_loud (refine HPL.out.mono ?_; rintro e w1 ⟨rfl, rfl⟩))
    | (go_at_call 156
       go_loud (refine HDL.out.mono ?_; rintro e w2 ⟨n', rfl, hn', ho2, hg2⟩)
       have f2 : w2.frozen? ⟨b, p, none⟩ = false := (World.frozen?_of_block (hg2.block b H1.out.blt (by rw [← HV.out]; exact fun e => (H1.out.off p hq).1 e.symm))).trans (H1.out.free p)
       have cp2 : w2.cell? ⟨b, p, none⟩ = some (.slice A (N p).length c') := (World.cell?_of_block (hg2.block b H1.out.blt (by rw [← HV.out]; exact fun e => (H1.out.off p hq).1 e.symm))).trans hcp
       have c2b : w2.cell? ⟨w.heap.size, 0, none⟩ = some (.int .i64 h) := (World.cell?_of_block (hg2.block w.heap.size hlt1 HNE.out)).trans c1b
       have HN := Keep.mk hn'
       have HO2 := Lib.hid ho2
       have HG2 := Keep.mk hg2
       clear hn' ho2 hg2 c1b)
    | fail)
  have hgV : w1.grownBy w2 (S p).ownBlock := by rw [HV.out]; exact HG2.out
  have hbl : (Value.slice A n' c').ownBlock = none ∨ (Value.slice A n' c').ownBlock = (S p).ownBlock ∨ (Value.slice A n' c').ownBlock = some w1.heap.size := .inr (.inl (by rw [HV.out]; cases A <;> rfl))
  have ho3 := HO2.out
  rw [HN.out] at ho3 hbl
  have H3 := Lib.hid (H1.out.appended hq ho3 hgV hbl)
  have F3 := Lib.hid (Fr.appended H1.out hq hgV hbl)
  have M3 := Lib.hid (M1.out.fr H1.out F3.out)
  rw [← HN.out] at H3 F3 M3
  have c3m := H3.out.mapC
  have c3b : (w2.setCell ⟨b, p, none⟩ (.slice A n' c')).cell? ⟨w.heap.size, 0, none⟩ = some (.int .i64 h) := (World.cell?_of_block (Below.heap_setCell w2 ⟨b, p, none⟩ _ w.heap.size (by have := HW.out.st.blt; show w.heap.size ≠ b; omega))).trans c2b
  generalize hW3 : w2.setCell ⟨b, p, none⟩ (.slice A n' c') = w3 at *
  obtain ⟨w4, hdel, m4, t4⟩ := (M3.out.drew 1).del hh 0
  rw [show w3.drewN 1 = w3.drew from rfl] at hdel
  have H4 := Lib.hid ((H3.out.drew 1).turned t4)
  have M4 := Lib.hid m4
  have T4 := Keep.mk t4
  have c4m := H4.out.mapC
  have hsz3 : w.heap.size < w3.heap.size := Nat.lt_of_lt_of_le hlt1 F3.out.size
  have c4b : w4.cell? ⟨w.heap.size, 0, none⟩ = some (.int .i64 h) := (World.cell?_of_block (t4.grown.block w.heap.size hsz3 (by have := HW.out.mp.lt; simp; omega))).trans c3b
  clear m4 t4 ho3 hgV hbl hW3 f2 cp2 c2b hcp
  go_region_held3 (fun W => W.cell? ⟨b, 50, none⟩ = some (.map (some m)) ∧ W.cell? ⟨w.heap.size, 0, none⟩ = some (.int .i64 h))
    (first | exact ⟨c3m, c3b⟩ | exact ⟨c4m, c4b⟩)
    (fail)
  go_wp2_with fail
  rw [rounds_succ]
  go_wp2_with fail
  go_ret
  have hk := M4.out
  rw [HM.out] at hk
  have F0 := Fm.quiet FR0.out b m S
  exact ⟨rfl, _, ⟨H4.out, by simpa using hk⟩, F0.trans ((F3.out.fm m).trans (((Fr.drew w3 b _ 1).fm m).trans (Fm.turned T4.out b _)))⟩
end Go.Proofs.YtcjanieeepcddaaGreatDoor
