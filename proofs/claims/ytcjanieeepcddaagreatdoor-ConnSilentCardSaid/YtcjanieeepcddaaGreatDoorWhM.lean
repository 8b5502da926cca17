/-
  The contracts of Arm and At.
-/
import Derived.Test.YtcjanieeepcddaaGreatDoorWhK
namespace Go.Proofs.YtcjanieeepcddaaGreatDoor
open Go.RowKit Go.Maps

theorem at_any (base b m nb k : Nat) (S : Nat → Value) (N : Nat → List Due) (now : Int) (M : Int → Option Int) (h : Int) (w : World) (hW : Whl w base b m nb S N now M k) (hh : wfI h) :
    Calls Tryz.prog 130 #[.pointer (some ⟨b, 0, none⟩), .int .i64 h] w fun e w' => ∃ c : Int, e = .returned (.tuple #[.int .i64 c, .bool (M h).isSome]) ∧ (∀ t, M h = some t → c = t) ∧ w' = w := by
  have hcm := hW.st.mapC
  obtain ⟨x, hx, hxt⟩ := hW.mp.look hh
  have HX := Lib.hid hxt
  generalize (M h).isSome = r at hx ⊢
  clear hW hxt
  go_enter Tryz.func130, Tryz.ntmps130
  go_wp2_with fail
  refine bodyPost_ret (results_tmp2 rfl _ _ _) rfl ?_
  exact ⟨x, rfl, HX.out, rfl⟩

theorem arm_no (base b m : Nat) (S : Nat → Value) (N : Nat → List Due) (now : Int) (h t : Int) (w : World) (hW : WSt w base b m S N now) (hn : 0 ≤ now) (hn2 : now < 2305843009213693952) (ht : t ≤ now ∨ now + 4096 < t) :
    Calls Tryz.prog 64 #[.pointer (some ⟨b, 0, none⟩), .int .i64 h, .int .i64 t] w fun e w' => e = .returned (.int .i64 1) ∧ w' = w := by
  have hc := hW.tickC
  have hw : IntKind.i64.wrap (now + 4096) = now + 4096 := IntWalk.i64_in _ (by omega)
  clear hW
  by_cases h1 : t ≤ now
  · go_enter Tryz.func64, Tryz.ntmps64
    go_wp2_with fail
    go_ret
    exact ⟨rfl, rfl⟩
  · have h2 : now + 4096 < t := by omega
    go_enter Tryz.func64, Tryz.ntmps64
    go_wp2_with fail
    go_ret
    exact ⟨rfl, rfl⟩

theorem setM_twice (M : Int → Option Int) (h : Int) (u v : Option Int) : setM (setM M h u) h v = setM M h v := by
  funext x
  by_cases e : x = h
  · subst e; rw [setM_same, setM_same]
  · rw [setM_other _ _ e, setM_other _ _ e, setM_other _ _ e]
theorem cutN_len {N : Nat → List Due} {K : Nat} (hK : ∀ i, (N i).length ≤ K) (now : Int) (M : Int → Option Int) (h : Int) : ∀ i, (cutN now M h N i).length ≤ K := fun i => by
  unfold cutN
  cases M h with
  | none => exact hK i
  | some t =>
    show (put N (pl now t) (dropH h (N (pl now t))) i).length ≤ K
    by_cases e : i = pl now t
    · subst e; rw [put_same]; exact Nat.le_trans (List.length_filter_le _ _) (hK _)
    · rw [put_other _ _ e]; exact hK i

set_option maxRecDepth 100000 in
set_option maxHeartbeats 1600000 in
theorem arm_yes (base b m nb k : Nat) (S : Nat → Value) (N : Nat → List Due) (now : Int) (M : Int → Option Int) (h t : Int) (w : World) (hW : Whl w base b m nb S N now M k) (hbase : base ≤ w.heap.size) (hh : wfI h) (hn : 0 ≤ now) (hn2 : now < 2305843009213693952) (h1 : now < t) (h2 : t ≤ now + 4096)
    (hT : ∀ t, M h = some t → 0 ≤ t ∧ t < 4611686018427387904) (K : Nat) (hK : ∀ i, (N i).length ≤ K) (hK2 : K + 1 ≤ 1000000) (hnb : nb < 1000000) :
    Calls Tryz.prog 64 #[.pointer (some ⟨b, 0, none⟩), .int .i64 h, .int .i64 t] w fun e w' => e = .returned (.int .i64 0) ∧
      ∃ S', Whl w' base b m (nb + 1) S' (layN now (cutN now M h N) [(h, t)]) now (setM M h (some t)) (k - one (M h) + 1) ∧ Fm w w' b m S S' := by
  have hc := hW.st.tickC
  have HW := Lib.hid hW
  have HK := Lib.hid (cutN_len hK now M h)
  have hw : IntKind.i64.wrap (now + 4096) = now + 4096 := IntWalk.i64_in _ (by omega)
  have hcn := (cancel_any base b m nb k S N now M w.heap.size 1 h (w.alloc (.cells #[.int .i64 h] 3)) (hW.below ((Below.refl _ w).alloc (Nat.le_refl _) _)) (by simp; omega) (by simp) (by rw [World.cell?_alloc_new]; rfl) hh hn (by omega) hT (fun i => Nat.le_trans (hK i) (by omega)))
  obtain ⟨r, hr⟩ : ∃ r : Int, (one (M h) : Int) = r := ⟨_, rfl⟩
  rw [hr] at hcn
  have HCN := Keep.mk hcn
  have h3 : ¬ t ≤ now := by omega
  have h4 : ¬ now + 4096 < t := by omega
  have hwt : wfI t := wfI_of (by omega) (by omega)
  have HWT := Keep.mk hwt
  have HHH := Keep.mk hh
  have HNB : Keep (nb < maxLen) := ⟨by unfold maxLen; omega⟩
  clear hW hK hT hwt hh hcn hr
  go_enter Tryz.func64, Tryz.ntmps64
  go_wp2_with (first
    | (go_at_call 100
       refine HCN.out.mono ?_
       rintro e w2 ⟨rfl, S2, hw2, f2⟩
       obtain ⟨w3, hput, m3, t3⟩ := hw2.mp.put HNB.out HHH.out HWT.out
       have c2m := hw2.st.mapC
       have H3 := Lib.hid (hw2.st.turned t3)
       have M3 := Lib.hid m3
       have F3 := Lib.hid (((Fm.quiet ((Below.refl _ w).alloc (Nat.le_refl _) (.cells #[.int .i64 h] 3)) b m S).trans f2).trans (Fm.turned t3 b S2))
       clear hw2 f2 m3 t3)
    | (go_at_call 118
       go_loud (refine (lay_any base b m _ _ now (some ⟨w3.heap.size, 0, none⟩) 1 [(h, t)] _ (H3.out.alloc (.cells #[.int .i64 h, .int .i64 t] 72)) (by have := F3.out.size; simp; omega) hn (by omega) (by simp; omega) K HK.out (by simpa using hK2) ?_).mono ?_)
       · intro _
         refine ⟨w3.heap.size, 0, rfl, by simp, by have := H3.out.blt; omega, fun i hi e => by have := ((H3.out.rows i hi).lt _ e).2; omega, fun i x hx j v hv => ?_⟩
         cases i with
         | zero =>
           obtain rfl : (h, t) = x := by simpa using hx
           rw [cell_of_row _ w3.heap.size _ _ 72 (0, 0) (heap_alloc_new _ _)]
           simpa [dueC] using hv
         | succ i => simp at hx
       rintro e w4 ⟨⟨u, rfl⟩, S4, h4, f4⟩
       have H4 := Lib.hid h4
       have F4 := Lib.hid f4
       clear h4 f4)
    | fail)
  go_ret
  have M4 := (M3.out.alloc (.cells #[.int .i64 h, .int .i64 t] 72)).fr (H3.out.alloc _) F4.out
  rw [setM_same, setM_twice] at M4
  refine ⟨rfl, S4, ⟨H4.out, by simpa using M4⟩, F3.out.trans ((Fm.quiet ((Below.refl _ w3).alloc (Nat.le_refl _) _) b m S2).trans (F4.out.fm m))⟩
end Go.Proofs.YtcjanieeepcddaaGreatDoor
