/-
  Walks and laws, one behind the other (part 14).
-/
import Derived.LoopN
import Derived.Test.YtjpokeakemlffaaGreatDoorS13
set_option linter.unusedSimpArgs false
set_option linter.unusedVariables false
/-
  The contract of Wheel.Cancel, of one handle.
-/
namespace Go.Proofs.YtjpokeakemlffaaGreatDoor
open Go.RowKit Go.Maps
set_option maxHeartbeats 1600000 in
theorem cancel_miss (base b m nb k : Nat) (S : Nat → Value) (N : Nat → List Due) (now : Int) (M : Int → Option Int) (g c : Nat) (h : Int) (w : World) (hW : Whl w base b m nb S N now M k) (hg : g < w.heap.size) (hc : w.cell? ⟨g, 0, none⟩ = some (.int .i64 h)) (hh : wfI h) (hM : M h = none) :
    Calls Tryz.prog 227 #[.pointer (some ⟨b, 0, none⟩), .slice (some ⟨g, 0, none⟩) 1 c] w fun e w' => e = .returned (.int .i64 0) ∧ Below w.heap.size w w' := by
  have HW := Lib.hid hW
  have hcm := (hW.st.alloc (.cells #[.int .i64 h] 3)).mapC
  have hcb : (w.alloc (.cells #[.int .i64 h] 3)).cell? ⟨w.heap.size, 0, none⟩ = some (.int .i64 h) := by rw [World.cell?_alloc_new]; rfl
  obtain ⟨x, hx, -⟩ := ((hW.mp.alloc (.cells #[.int .i64 h] 3)).drew 1).look hh
  rw [hM, Option.isSome_none] at hx
  clear hW hM
  go_enter Tryz.func227, Tryz.ntmps227
  go_wp2
  refine wp_loop_rounds 2 ?_
  rw [rounds_succ]
  go_wp2_with fail
  go_region_held3 (fun W => W.cell? ⟨b, 50, none⟩ = some (.map (some m)) ∧ W.cell? ⟨w.heap.size, 0, none⟩ = some (.int .i64 h) ∧ (Instr.lookup 259 (.map (some m)) (.int .i64 h) true).run Tryz.prog W = .ok (.tuple #[.int .i64 x, .bool false]) W)
    (exact ⟨hcm, hcb, hx⟩)
    (fail)
  go_wp2_with fail
  rw [rounds_succ]
  go_wp2_with fail
  go_ret
  exact ⟨rfl, ((Below.refl _ w).alloc (Nat.le_refl _) _).drew⟩
set_option maxHeartbeats 1600000 in
theorem cancel_hit (base b m nb k : Nat) (S : Nat → Value) (N : Nat → List Due) (now : Int) (M : Int → Option Int) (g c : Nat) (h t : Int) (w : World) (hW : Whl w base b m nb S N now M k) (hbase : base ≤ w.heap.size) (hg : g < w.heap.size) (hc : w.cell? ⟨g, 0, none⟩ = some (.int .i64 h)) (hh : wfI h) (hM : M h = some t)
    (hn : 0 ≤ now) (hn2 : now < 4611686018427387904) (ht : 0 ≤ t) (ht2 : t < 4611686018427387904) (hK : ∀ i, (N i).length ≤ 1000000) :
    Calls Tryz.prog 227 #[.pointer (some ⟨b, 0, none⟩), .slice (some ⟨g, 0, none⟩) 1 c] w fun e w' => e = .returned (.int .i64 1) ∧
      ∃ S', Whl w' base b m nb S' (put N (pl now t) (dropH h (N (pl now t)))) now (setM M h none) (k - 1) ∧ Fm w w' b m S S' := by
  have HW := Lib.hid hW
  have HK := Lib.hid hK
  have hcm := (hW.st.alloc (.cells #[.int .i64 h] 3)).mapC
  have hcb : (w.alloc (.cells #[.int .i64 h] 3)).cell? ⟨w.heap.size, 0, none⟩ = some (.int .i64 h) := by rw [World.cell?_alloc_new]; rfl
  obtain ⟨x, hx, hxt⟩ := ((hW.mp.alloc (.cells #[.int .i64 h] 3)).drew 1).look hh
  obtain rfl := hxt t hM
  rw [hM, Option.isSome_some] at hx
  have HM := Keep.mk hM
  have hq := pl_lt now x
  obtain ⟨p, hpe⟩ : ∃ p, pl now x = p := ⟨_, rfl⟩
  have hPL := place_any b now x ((w.alloc (.cells #[.int .i64 h] 3)).drewN 1) hn hn2 ht ht2 ((hW.st.alloc (.cells #[.int .i64 h] 3)).drew 1).tickC
  rw [hpe] at hPL hq ⊢
  have HPL := Keep.mk hPL
  clear hW hM hxt hK hPL hpe
  have H1 := Lib.hid ((HW.out.st.alloc (.cells #[.int .i64 h] 3)).drew 1)
  have M1 := Lib.hid ((HW.out.mp.alloc (.cells #[.int .i64 h] 3)).drew 1)
  obtain ⟨A, c', hv⟩ : ∃ A c, S p = .slice A (N p).length c := by obtain ⟨A, c, e, _⟩ := own_slice (H1.out.rows p hq); exact ⟨A, c, e⟩
  have HV := Keep.mk hv
  have hrow := H1.out.rows p hq
  have hcp := H1.out.cell p hq
  rw [hv] at hrow hcp
  have HNE : Keep (some w.heap.size ≠ (Value.slice A (N p).length c').ownBlock) := ⟨fun e => by
    have := ((HW.out.st.rows p hq).lt w.heap.size (by rw [hv]; exact e.symm)).2
    omega⟩
  have HDL := Keep.mk (delete_any base w.heap.size h A c' (N p) _ hrow (by simp) (show ((w.alloc (.cells #[.int .i64 h] 3)).drewN 1).cell? ⟨w.heap.size, 0, none⟩ = some (.int .i64 h) from hcb) HNE.out (HK.out p))
  clear hv hrow
  go_enter Tryz.func227, Tryz.ntmps227
  go_wp2
  refine wp_loop_rounds 2 ?_
  rw [rounds_succ]
  go_wp2_with fail
  go_region_held3 (fun W => W.cell? ⟨b, 50, none⟩ = some (.map (some m)) ∧ W.cell? ⟨w.heap.size, 0, none⟩ = some (.int .i64 h) ∧ (Instr.lookup 259 (.map (some m)) (.int .i64 h) true).run Tryz.prog W = .ok (.tuple #[.int .i64 x, .bool true]) W)
    (exact ⟨hcm, hcb, hx⟩)
    (fail)
  generalize hW1 : (w.alloc (.cells #[.int .i64 h] 3)).drewN 1 = w1 at *
  have HW1 := Keep.mk hW1
  have hW1' : (w.alloc (.cells #[.int .i64 h] 3)).drew = w1 := hW1
  rw [hW1']
  have c1b : w1.cell? ⟨w.heap.size, 0, none⟩ = some (.int .i64 h) := by rw [← hW1]; exact hcb
  have hlt1 : w.heap.size < w1.heap.size := by rw [← hW1]; simp
  have FR0 : Keep (Below w.heap.size w w1) := ⟨by rw [← hW1]; exact ((Below.refl _ w).alloc (Nat.le_refl _) _).drew⟩
  clear hcb hcm hx hW1 hW1'
  go_wp2_with (first
    | (go_at_call 282; go_loud (refine HPL.out.mono ?_; rintro e w1 ⟨rfl, rfl⟩))
    | (go_at_call 283
       go_loud (refine HDL.out.mono ?_; rintro e w2 ⟨n', rfl, hn', ho2, hg2⟩)
       have f2 : w2.frozen? ⟨b, p, none⟩ = false := (World.frozen?_of_block (hg2.block b H1.out.blt (by rw [← HV.out]; exact fun e => (H1.out.off p hq).1 e.symm))).trans (H1.out.free p)
       have cp2 : w2.cell? ⟨b, p, none⟩ = some (.slice A (N p).length c') := (World.cell?_of_block (hg2.block b H1.out.blt (by rw [← HV.out]; exact fun e => (H1.out.off p hq).1 e.symm))).trans hcp
       have c2b : w2.cell? ⟨w.heap.size, 0, none⟩ = some (.int .i64 h) := (World.cell?_of_block (hg2.block w.heap.size hlt1 HNE.out)).trans c1b
       have HN := Keep.mk hn'
       have HO2 := Lib.hid ho2
       have HG2 := Keep.mk hg2
       clear hn' ho2 hg2 c1b)
    | fail)
  have hgV : w1.grownBy w2 (S p).ownBlock := by rw [HV.out]; exact HG2.out
  have hbl : (Value.slice A n' c').ownBlock = none ∨ (Value.slice A n' c').ownBlock = (S p).ownBlock ∨ (Value.slice A n' c').ownBlock = some w1.heap.size := .inr (.inl (by rw [HV.out]; cases A <;> rfl))
  have ho3 := HO2.out
  rw [HN.out] at ho3 hbl
  have H3 := Lib.hid (H1.out.appended hq ho3 hgV hbl)
  have F3 := Lib.hid (Fr.appended H1.out hq hgV hbl)
  have M3 := Lib.hid (M1.out.fr H1.out F3.out)
  rw [← HN.out] at H3 F3 M3
  have c3m := H3.out.mapC
  have c3b : (w2.setCell ⟨b, p, none⟩ (.slice A n' c')).cell? ⟨w.heap.size, 0, none⟩ = some (.int .i64 h) := (World.cell?_of_block (Below.heap_setCell w2 ⟨b, p, none⟩ _ w.heap.size (by have := HW.out.st.blt; show w.heap.size ≠ b; omega))).trans c2b
  generalize hW3 : w2.setCell ⟨b, p, none⟩ (.slice A n' c') = w3 at *
  obtain ⟨w4, hdel, m4, t4⟩ := (M3.out.drew 1).del hh 0
  rw [show w3.drewN 1 = w3.drew from rfl] at hdel
  have H4 := Lib.hid ((H3.out.drew 1).turned t4)
  have M4 := Lib.hid m4
  have T4 := Keep.mk t4
  have c4m := H4.out.mapC
  have hsz3 : w.heap.size < w3.heap.size := Nat.lt_of_lt_of_le hlt1 F3.out.size
  have c4b : w4.cell? ⟨w.heap.size, 0, none⟩ = some (.int .i64 h) := (World.cell?_of_block (t4.grown.block w.heap.size hsz3 (by have := HW.out.mp.lt; simp; omega))).trans c3b
  clear m4 t4 ho3 hgV hbl hW3 f2 cp2 c2b hcp
  go_region_held3 (fun W => W.cell? ⟨b, 50, none⟩ = some (.map (some m)) ∧ W.cell? ⟨w.heap.size, 0, none⟩ = some (.int .i64 h))
    (first | exact ⟨c3m, c3b⟩ | exact ⟨c4m, c4b⟩)
    (fail)
  go_wp2_with fail
  rw [rounds_succ]
  go_wp2_with fail
  go_ret
  have hk := M4.out
  rw [HM.out] at hk
  have F0 := Fm.quiet FR0.out b m S
  exact ⟨rfl, _, ⟨H4.out, by simpa using hk⟩, F0.trans ((F3.out.fm m).trans (((Fr.drew w3 b _ 1).fm m).trans (Fm.turned T4.out b _)))⟩
end Go.Proofs.YtjpokeakemlffaaGreatDoor
/-
  The contracts of New, Now, Len and Cancel (whatever the map says).
-/
namespace Go.Proofs.YtjpokeakemlffaaGreatDoor
open Go.RowKit Go.Maps
def one : Option Int → Nat
  | none => 0
  | some _ => 1
def cutN (now : Int) (M : Int → Option Int) (h : Int) (N : Nat → List Due) : Nat → List Due :=
  match M h with
  | none => N
  | some t => put N (pl now t) (dropH h (N (pl now t)))
theorem setM_none_self {M : Int → Option Int} {h : Int} (hM : M h = none) : setM M h none = M := by
  funext x
  by_cases e : x = h
  · subst e; rw [setM_same, hM]
  · rw [setM_other M none e]
theorem cancel_any (base b m nb k : Nat) (S : Nat → Value) (N : Nat → List Due) (now : Int) (M : Int → Option Int) (g c : Nat) (h : Int) (w : World) (hW : Whl w base b m nb S N now M k) (hbase : base ≤ w.heap.size) (hg : g < w.heap.size) (hc : w.cell? ⟨g, 0, none⟩ = some (.int .i64 h)) (hh : wfI h)
    (hn : 0 ≤ now) (hn2 : now < 4611686018427387904) (hT : ∀ t, M h = some t → 0 ≤ t ∧ t < 4611686018427387904) (hK : ∀ i, (N i).length ≤ 1000000) :
    Calls Tryz.prog 227 #[.pointer (some ⟨b, 0, none⟩), .slice (some ⟨g, 0, none⟩) 1 c] w fun e w' => e = .returned (.int .i64 (one (M h))) ∧
      ∃ S', Whl w' base b m nb S' (cutN now M h N) now (setM M h none) (k - one (M h)) ∧ Fm w w' b m S S' := by
  cases hM : M h with
  | none =>
    refine (cancel_miss base b m nb k S N now M g c h w hW hg hc hh hM).mono ?_
    rintro e w' ⟨rfl, hb⟩
    refine ⟨rfl, S, ?_, Fm.quiet hb b m S⟩
    rw [setM_none_self hM, show cutN now M h N = N by unfold cutN; rw [hM]]
    exact hW.below hb
  | some t =>
    obtain ⟨h1, h2⟩ := hT t hM
    refine (cancel_hit base b m nb k S N now M g c h t w hW hbase hg hc hh hM hn hn2 h1 h2 hK).mono ?_
    rintro e w' ⟨rfl, S', hw, hf⟩
    refine ⟨rfl, S', ?_, hf⟩
    rw [show cutN now M h N = put N (pl now t) (dropH h (N (pl now t))) by unfold cutN; rw [hM]]
    exact hw
theorem now_any (base b m : Nat) (S : Nat → Value) (N : Nat → List Due) (now : Int) (w : World) (hW : WSt w base b m S N now) :
    Calls Tryz.prog 130 #[.pointer (some ⟨b, 0, none⟩)] w fun e w' => e = .returned (.int .i64 now) ∧ w' = w := by
  have hc := hW.tickC
  clear hW
  go_enter Tryz.func130, Tryz.ntmps130
  go_wp2_with fail
  go_ret
  exact ⟨rfl, rfl⟩
theorem whArr_new (now : Int) (m : Nat) : whArr (fun _ => .slice none 0 0) now m = ((List.replicate 49 (Value.slice none 0 0)) ++ [Value.int .i64 now, Value.map (some m)]).toArray := by
  unfold whArr
  congr 2
theorem whl_new (now : Int) (w : World) : Whl ((w.alloc (.map #[] 0)).alloc (.cells (whArr (fun _ => .slice none 0 0) now w.heap.size) 261)) w.heap.size (w.heap.size + 1) w.heap.size 0 (fun _ => .slice none 0 0) (fun _ => []) now (fun _ => none) 0 where
  st := {
    hb := by omega
    hm := Nat.le_refl _
    ne := by omega
    blk := by rw [show w.heap.size + 1 = (w.alloc (.map #[] 0)).heap.size by simp]; exact heap_alloc_new _ _
    mp := by simp; omega
    rows := fun i _ => World.ownsRow_nil _ _ _ _
    apart := fun i j _ _ _ => .inl ⟨rfl, rfl⟩
    off := fun i _ => by simp [Value.ownBlock] }
  mp := (Mp.made w).alloc _
set_option maxHeartbeats 1600000 in
theorem new_any (tick : Int) (w : World) :
    Calls Tryz.prog 220 #[.int .i64 tick] w fun e w' => e = .returned (.pointer (some ⟨w.heap.size + 1, 0, none⟩)) ∧
      Whl w' w.heap.size (w.heap.size + 1) w.heap.size 0 (fun _ => .slice none 0 0) (fun _ => []) (min (max tick 0) 1099511627776) (fun _ => none) 0 ∧ Below w.heap.size w w' := by
  have hmk : (Instr.makeMap 259 none).run Tryz.prog w = .ok (.map (some w.heap.size)) (w.alloc (.map #[] 0)) := rfl
  obtain ⟨now, hnow⟩ : ∃ now, min (max tick 0) 1099511627776 = now := ⟨_, rfl⟩
  have HN := Keep.mk hnow
  have hE : ∃ arr : Array Value, arr = whArr (fun _ => .slice none 0 0) now w.heap.size := ⟨_, rfl⟩
  have HE := (whl_new now w)
  have HB : Keep (Below w.heap.size w ((w.alloc (.map #[] 0)).alloc (.cells (whArr (fun _ => .slice none 0 0) now w.heap.size) 261))) := ⟨((Below.refl _ w).alloc (Nat.le_refl _) _).alloc (by simp) _⟩
  rw [whArr_new] at HE HB
  rw [hnow]
  have HE := Keep.mk HE
  clear hnow
  rcases Int.lt_or_le tick 0 with h1 | h1
  · obtain rfl : now = 0 := by have := HN.out; omega
    go_enter Tryz.func220, Tryz.ntmps220
    go_wp2_with fail
    all_goals go_ret
    exact ⟨rfl, HE.out, HB.out⟩
  · rcases Int.lt_or_le 1099511627776 tick with h2 | h2
    · obtain rfl : now = 1099511627776 := by have := HN.out; omega
      go_enter Tryz.func220, Tryz.ntmps220
      go_wp2_with fail
      all_goals go_ret
      exact ⟨rfl, HE.out, HB.out⟩
    · obtain rfl : now = tick := by have := HN.out; omega
      go_enter Tryz.func220, Tryz.ntmps220
      go_wp2_with fail
      all_goals go_ret
      exact ⟨rfl, HE.out, HB.out⟩
end Go.Proofs.YtjpokeakemlffaaGreatDoor
/-
  The contracts of Arm and At.
-/
namespace Go.Proofs.YtjpokeakemlffaaGreatDoor
open Go.RowKit Go.Maps
theorem at_any (base b m nb k : Nat) (S : Nat → Value) (N : Nat → List Due) (now : Int) (M : Int → Option Int) (h : Int) (w : World) (hW : Whl w base b m nb S N now M k) (hh : wfI h) :
    Calls Tryz.prog 267 #[.pointer (some ⟨b, 0, none⟩), .int .i64 h] w fun e w' => ∃ c : Int, e = .returned (.tuple #[.int .i64 c, .bool (M h).isSome]) ∧ (∀ t, M h = some t → c = t) ∧ w' = w := by
  have hcm := hW.st.mapC
  obtain ⟨x, hx, hxt⟩ := hW.mp.look hh
  have HX := Lib.hid hxt
  generalize (M h).isSome = r at hx ⊢
  clear hW hxt
  go_enter Tryz.func267, Tryz.ntmps267
  go_wp2_with fail
  refine bodyPost_ret (results_tmp2 rfl _ _ _) rfl ?_
  exact ⟨x, rfl, HX.out, rfl⟩
theorem setM_twice (M : Int → Option Int) (h : Int) (u v : Option Int) : setM (setM M h u) h v = setM M h v := by
  funext x
  by_cases e : x = h
  · subst e; rw [setM_same, setM_same]
  · rw [setM_other _ _ e, setM_other _ _ e, setM_other _ _ e]
theorem cutN_len {N : Nat → List Due} {K : Nat} (hK : ∀ i, (N i).length ≤ K) (now : Int) (M : Int → Option Int) (h : Int) : ∀ i, (cutN now M h N i).length ≤ K := fun i => by
  unfold cutN
  cases M h with
  | none => exact hK i
  | some t =>
    show (put N (pl now t) (dropH h (N (pl now t))) i).length ≤ K
    by_cases e : i = pl now t
    · subst e; rw [put_same]; exact Nat.le_trans (List.length_filter_le _ _) (hK _)
    · rw [put_other _ _ e]; exact hK i
set_option maxRecDepth 100000 in
set_option maxHeartbeats 1600000 in
theorem arm_yes (base b m nb k : Nat) (S : Nat → Value) (N : Nat → List Due) (now : Int) (M : Int → Option Int) (h t : Int) (w : World) (hW : Whl w base b m nb S N now M k) (hbase : base ≤ w.heap.size) (hh : wfI h) (hn : 0 ≤ now) (hn2 : now < 2305843009213693952) (h1 : now < t) (h2 : t ≤ now + 4096)
    (hT : ∀ t, M h = some t → 0 ≤ t ∧ t < 4611686018427387904) (K : Nat) (hK : ∀ i, (N i).length ≤ K) (hK2 : K + 1 ≤ 1000000) (hnb : nb < 1000000) :
    Calls Tryz.prog 164 #[.pointer (some ⟨b, 0, none⟩), .int .i64 h, .int .i64 t] w fun e w' => e = .returned (.int .i64 0) ∧
      ∃ S', Whl w' base b m (nb + 1) S' (layN now (cutN now M h N) [(h, t)]) now (setM M h (some t)) (k - one (M h) + 1) ∧ Fm w w' b m S S' := by
  have hc := hW.st.tickC
  have HW := Lib.hid hW
  have HK := Lib.hid (cutN_len hK now M h)
  have hw : IntKind.i64.wrap (now + 4096) = now + 4096 := IntWalk.i64_in _ (by omega)
  have hcn := (cancel_any base b m nb k S N now M w.heap.size 1 h (w.alloc (.cells #[.int .i64 h] 3)) (hW.below ((Below.refl _ w).alloc (Nat.le_refl _) _)) (by simp; omega) (by simp) (by rw [World.cell?_alloc_new]; rfl) hh hn (by omega) hT (fun i => Nat.le_trans (hK i) (by omega)))
  obtain ⟨r, hr⟩ : ∃ r : Int, (one (M h) : Int) = r := ⟨_, rfl⟩
  rw [hr] at hcn
  have HCN := Keep.mk hcn
  have h3 : ¬ t ≤ now := by omega
  have h4 : ¬ now + 4096 < t := by omega
  have hwt : wfI t := wfI_of (by omega) (by omega)
  have HWT := Keep.mk hwt
  have HHH := Keep.mk hh
  have HNB : Keep (nb < maxLen) := ⟨by unfold maxLen; omega⟩
  clear hW hK hT hwt hh hcn hr
  go_enter Tryz.func164, Tryz.ntmps164
  go_wp2_with (first
    | (go_at_call 227
       refine HCN.out.mono ?_
       rintro e w2 ⟨rfl, S2, hw2, f2⟩
       obtain ⟨w3, hput, m3, t3⟩ := hw2.mp.put HNB.out HHH.out HWT.out
       have c2m := hw2.st.mapC
       have H3 := Lib.hid (hw2.st.turned t3)
       have M3 := Lib.hid m3
       have F3 := Lib.hid (((Fm.quiet ((Below.refl _ w).alloc (Nat.le_refl _) (.cells #[.int .i64 h] 3)) b m S).trans f2).trans (Fm.turned t3 b S2))
       clear hw2 f2 m3 t3)
    | (go_at_call 228
       go_loud (refine (lay_any base b m _ _ now (some ⟨w3.heap.size, 0, none⟩) 1 [(h, t)] _ (H3.out.alloc (.cells #[.int .i64 h, .int .i64 t] 195)) (by have := F3.out.size; simp; omega) hn (by omega) (by simp; omega) K HK.out (by simpa using hK2) ?_).mono ?_)
       · intro _
         refine ⟨w3.heap.size, 0, rfl, by simp, by have := H3.out.blt; omega, fun i hi e => by have := ((H3.out.rows i hi).lt _ e).2; omega, fun i x hx j v hv => ?_⟩
         cases i with
         | zero =>
           obtain rfl : (h, t) = x := by simpa using hx
           rw [cell_of_row _ w3.heap.size _ _ 195 (0, 0) (heap_alloc_new _ _)]
           simpa [dueC] using hv
         | succ i => simp at hx
       rintro e w4 ⟨⟨u, rfl⟩, S4, h4, f4⟩
       have H4 := Lib.hid h4
       have F4 := Lib.hid f4
       clear h4 f4)
    | fail)
  go_ret
  have M4 := (M3.out.alloc (.cells #[.int .i64 h, .int .i64 t] 195)).fr (H3.out.alloc _) F4.out
  rw [setM_same, setM_twice] at M4
  refine ⟨rfl, S4, ⟨H4.out, by simpa using M4⟩, F3.out.trans ((Fm.quiet ((Below.refl _ w3).alloc (Nat.le_refl _) _) b m S2).trans (F4.out.fm m))⟩
end Go.Proofs.YtjpokeakemlffaaGreatDoor
/-
  The plain law of the wheel, second part: which timers stand in the lists, against one list of them. No program in sight.
-/
namespace Go.Proofs.YtjpokeakemlffaaGreatDoor
def flatOf (ix : List Nat) (N : Nat → List Due) : List Due := ix.flatMap N
theorem flatOf_put_out {i : Nat} : ∀ (ix : List Nat) (N : Nat → List Due) (v : List Due), i ∉ ix → flatOf ix (put N i v) = flatOf ix N
  | [], _, _, _ => rfl
  | x :: r, N, v, h => by
    have h1 : x ≠ i := fun e => h (by simp [e])
    have h2 := flatOf_put_out r N v (fun hm => h (List.mem_cons_of_mem x hm))
    unfold flatOf at *
    rw [List.flatMap_cons, List.flatMap_cons, h2, put_other N v h1]
theorem flatOf_split {i : Nat} : ∀ (ix : List Nat) (N : Nat → List Due), ix.Nodup → i ∈ ix → (flatOf ix N).Perm (N i ++ flatOf ix (put N i []))
  | [], _, _, h => by cases h
  | x :: r, N, hn, hi => by
    obtain ⟨hx, hr⟩ := List.nodup_cons.1 hn
    unfold flatOf
    rw [List.flatMap_cons, List.flatMap_cons]
    by_cases e : x = i
    · subst e
      rw [put_same, List.nil_append]
      have := flatOf_put_out r N [] hx
      unfold flatOf at this
      rw [this]
    · have h1 : i ∈ r := by
        rcases List.mem_cons.1 hi with h | h
        · exact absurd h.symm e
        · exact h
      have := flatOf_split r N hr h1
      unfold flatOf at this
      rw [put_other N [] e]
      refine (List.Perm.append_left (N x) this).trans ?_
      rw [← List.append_assoc, ← List.append_assoc]
      exact List.Perm.append_right _ List.perm_append_comm
def flat (N : Nat → List Due) : List Due := flatOf (List.range 49) N
theorem flat_split (N : Nat → List Due) {i : Nat} (hi : i < 49) : (flat N).Perm (N i ++ flat (put N i [])) :=
  flatOf_split _ N List.nodup_range (List.mem_range.2 hi)
theorem put_put (N : Nat → List Due) (i : Nat) (u v : List Due) : put (put N i u) i v = put N i v := by
  funext j
  by_cases e : j = i
  · subst e; rw [put_same, put_same]
  · rw [put_other _ _ e, put_other _ _ e, put_other _ _ e]
theorem flat_put (N : Nat → List Due) {i : Nat} (hi : i < 49) (v : List Due) : (flat (put N i v)).Perm (v ++ flat (put N i [])) := by
  have := flat_split (put N i v) hi
  rwa [put_same, put_put] at this
theorem flat_mem {N : Nat → List Due} {d : Due} : d ∈ flat N ↔ ∃ i, i < 49 ∧ d ∈ N i := by
  unfold flat flatOf
  rw [List.mem_flatMap]
  exact ⟨fun ⟨i, h1, h2⟩ => ⟨i, List.mem_range.1 h1, h2⟩, fun ⟨i, h1, h2⟩ => ⟨i, List.mem_range.2 h1, h2⟩⟩
theorem flat_layN (now : Int) : ∀ (l : List Due) (N : Nat → List Due), (flat (layN now N l)).Perm (flat N ++ l)
  | [], N => by rw [List.append_nil]; exact .refl _
  | x :: r, N => by
    refine (flat_layN now r _).trans ?_
    have h1 := flat_put N (pl_lt now x.2) (N (pl now x.2) ++ [x])
    have h2 := flat_split N (pl_lt now x.2)
    have h3 : (flat (put N (pl now x.2) (N (pl now x.2) ++ [x]))).Perm (flat N ++ [x]) := by
      refine h1.trans ?_
      rw [List.append_assoc]
      refine (List.Perm.append_left _ List.perm_append_comm).trans ?_
      rw [← List.append_assoc]
      exact List.Perm.append_right _ h2.symm
    have h4 := List.Perm.append_right r h3
    rw [List.append_assoc] at h4
    exact h4
theorem flat_relay (now : Int) {i : Nat} (hi : i < 49) (N : Nat → List Due) : (flat (relay now i N)).Perm (flat N) :=
  (flat_layN now (N i) _).trans (List.perm_append_comm.trans (flat_split N hi).symm)
theorem layN_placed (n : Int) (T : Nat → Prop) : ∀ (l : List Due) (N : Nat → List Due), (∀ i, ∀ d ∈ N i, pl n d.2 = i ∨ T i) → ∀ i, ∀ d ∈ layN n N l i, pl n d.2 = i ∨ T i
  | [], _, h => h
  | x :: r, N, h => layN_placed n T r _ (fun i d hd => by
      by_cases e : i = pl n x.2
      · subst e
        rw [put_same, List.mem_append] at hd
        rcases hd with hd | hd
        · exact h _ d hd
        · simp only [List.mem_singleton] at hd; subst hd; exact .inl rfl
      · rw [put_other _ _ e] at hd; exact h i d hd)
theorem relay_placed {n : Int} {T : Nat → Prop} {N : Nat → List Due} (h : ∀ i, ∀ d ∈ N i, pl n d.2 = i ∨ T i) (j : Nat) : ∀ i, ∀ d ∈ relay n j N i, pl n d.2 = i ∨ (T i ∧ i ≠ j) :=
  layN_placed n _ (N j) _ (fun i d hd => by
    by_cases e : i = j
    · subst e; rw [put_same] at hd; cases hd
    · rw [put_other _ _ e] at hd
      exact (h i d hd).imp id (fun x => ⟨x, e⟩))
theorem layN_out (n : Int) : ∀ (l : List Due) (N : Nat → List Due) (i : Nat), 49 ≤ i → N i = [] → layN n N l i = []
  | [], _, _, _, h => h
  | x :: r, N, i, hi, h => layN_out n r _ i hi (by have := pl_lt n x.2; rw [put_other _ _ (by omega)]; exact h)
theorem relay_out (n : Int) (j : Nat) (N : Nat → List Due) (i : Nat) (hi : 49 ≤ i) (h : N i = []) : relay n j N i = [] :=
  layN_out n _ _ i hi (by
    by_cases e : i = j
    · subst e; exact put_same _ _ _
    · rw [put_other _ _ e]; exact h)
structure Inv (now : Int) (N : Nat → List Due) (L : List Due) : Prop where
  perm : (flat N).Perm L
  at' : ∀ i, ∀ d ∈ N i, pl now d.2 = i
  out : ∀ i, 49 ≤ i → N i = []
  rng : ∀ d ∈ L, now < d.2 ∧ d.2 ≤ now + 4096
  nodup : (L.map (·.1)).Nodup
section
variable {now : Int} {N : Nat → List Due} {L : List Due}
theorem Inv.mem (h : Inv now N L) {i : Nat} {d : Due} (hd : d ∈ N i) : d ∈ L := by
  by_cases hi : i < 49
  · exact h.perm.mem_iff.1 (flat_mem.2 ⟨i, hi, hd⟩)
  · rw [h.out i (by omega)] at hd; cases hd
theorem Inv.len (h : Inv now N L) (i : Nat) : (N i).length ≤ L.length := by
  by_cases hi : i < 49
  · have h1 := (h.perm.symm.trans (flat_split N hi)).length_eq
    rw [List.length_append] at h1
    omega
  · rw [h.out i (by omega)]; exact Nat.zero_le _
theorem Inv.ticks (h : Inv now N L) (hn : 0 ≤ now) (hn2 : now < 2305843009213693952) (i : Nat) : ∀ d ∈ N i, 0 ≤ d.2 ∧ d.2 < 4611686018427387904 := fun d hd => by
  have := h.rng d (h.mem hd)
  omega
theorem Inv.empty (now : Int) : Inv now (fun _ => []) [] where
  perm := by rw [show flat (fun _ => ([] : List Due)) = [] by unfold flat flatOf; simp]
  at' := fun i d h => by simp at h
  out := fun _ _ => rfl
  rng := fun d h => by simp at h
  nodup := by simp
def todo (n : Int) (i : Nat) : Prop := (n % 4096 = 0 ∧ i = 48) ∨ (n % 256 = 0 ∧ i = 32 + (n / 16 / 16 % 16).toNat) ∨ (n % 16 = 0 ∧ i = 16 + (n / 16 % 16).toNat)
theorem prep_placed (h : Inv now N L) : ∀ i, ∀ d ∈ prep (now + 1) N i, pl (now + 1) d.2 = i := by
  have h0 : ∀ i, ∀ d ∈ N i, pl (now + 1) d.2 = i ∨ todo (now + 1) i := fun i d hd => by
    have := h.at' i d hd
    rcases pl_next (h.rng d (h.mem hd)).1 with e | e | e | e
    · exact .inl (e.trans this)
    · exact .inr (.inl ⟨e.1, this ▸ e.2⟩)
    · exact .inr (.inr (.inl ⟨e.1, this ▸ e.2⟩))
    · exact .inr (.inr (.inr ⟨e.1, this ▸ e.2⟩))
  have step : ∀ (c : Prop) [Decidable c] (j : Nat) (T : Nat → Prop) (N : Nat → List Due), (∀ i, ∀ d ∈ N i, pl (now + 1) d.2 = i ∨ T i) → ∀ i, ∀ d ∈ again c (now + 1) j N i, pl (now + 1) d.2 = i ∨ (T i ∧ ¬ (c ∧ i = j)) := by
    intro c _ j T N hN i d hd
    unfold again at hd
    by_cases hc : c
    · rw [if_pos hc] at hd
      exact (relay_placed hN j i d hd).imp id (fun x => ⟨x.1, fun y => x.2 y.2⟩)
    · rw [if_neg hc] at hd
      exact (hN i d hd).imp id (fun x => ⟨x, fun y => hc y.1⟩)
  intro i d hd
  have := step _ _ _ _ (step _ _ _ _ (step ((now + 1) % 4096 = 0) 48 _ N h0)) i d hd
  rcases this with e | ⟨⟨⟨e1, e2⟩, e3⟩, e4⟩
  · exact e
  · rcases e1 with e | e | e
    · exact absurd e e2
    · exact absurd e e3
    · exact absurd e e4
theorem again_perm (c : Prop) [Decidable c] (n : Int) {j : Nat} (hj : j < 49) (N : Nat → List Due) : (flat (again c n j N)).Perm (flat N) := by
  unfold again
  by_cases hc : c
  · rw [if_pos hc]; exact flat_relay n hj N
  · rw [if_neg hc]
theorem prep_perm (n : Int) (N : Nat → List Due) : (flat (prep n N)).Perm (flat N) :=
  (again_perm _ n (by omega) _).trans ((again_perm _ n (by omega) _).trans (again_perm _ n (by omega) _))
theorem again_out (c : Prop) [Decidable c] (n : Int) (j : Nat) (N : Nat → List Due) (i : Nat) (hi : 49 ≤ i) (h : N i = []) : again c n j N i = [] := by
  unfold again
  by_cases hc : c
  · rw [if_pos hc]; exact relay_out n j N i hi h
  · rw [if_neg hc]; exact h
theorem prep_out (n : Int) (N : Nat → List Due) (i : Nat) (hi : 49 ≤ i) (h : N i = []) : prep n N i = [] :=
  again_out _ _ _ _ i hi (again_out _ _ _ _ i hi (again_out _ _ _ _ i hi h))
theorem due_here {n t : Int} (h : n ≤ t) (hp : pl n t = (n % 16).toNat) : t = n := by
  rcases pl_cases n t with ⟨a, b⟩ | ⟨_, _, b⟩ | ⟨_, _, b⟩ | ⟨_, b⟩ <;> omega
theorem pl_self (n : Int) : pl n n = (n % 16).toNat := by unfold pl; rw [if_pos rfl]
theorem Inv.step (h : Inv now N L) : Inv (now + 1) (put (prep (now + 1) N) ((now + 1) % 16).toNat []) (L.filter fun d => decide (d.2 ≠ now + 1)) ∧
    (prep (now + 1) N ((now + 1) % 16).toNat).Perm (L.filter fun d => decide (d.2 = now + 1)) := by
  obtain ⟨q, hq⟩ : ∃ q, ((now + 1) % 16).toNat = q := ⟨_, rfl⟩
  have hq49 : q < 49 := by omega
  rw [hq]
  obtain ⟨N1, hN1⟩ : ∃ N1, prep (now + 1) N = N1 := ⟨_, rfl⟩
  have hpl := prep_placed h
  have hpm := (prep_perm (now + 1) N).trans h.perm
  have hout : ∀ i, 49 ≤ i → N1 i = [] := fun i hi => by rw [← hN1]; exact prep_out _ _ i hi (h.out i hi)
  rw [hN1] at hpl hpm ⊢
  have hmem : ∀ i, ∀ d ∈ N1 i, d ∈ L := fun i d hd => by
    by_cases hi : i < 49
    · exact hpm.mem_iff.1 (flat_mem.2 ⟨i, hi, hd⟩)
    · rw [hout i (by omega)] at hd; cases hd
  have hin : ∀ d ∈ N1 q, d.2 = now + 1 := fun d hd => due_here (by have := (h.rng d (hmem q d hd)).1; omega) (by rw [hq]; exact hpl q d hd)
  have hno : ∀ d ∈ flat (put N1 q []), d.2 ≠ now + 1 := fun d hd e => by
    obtain ⟨i, hi, hd⟩ := flat_mem.1 hd
    by_cases ei : i = q
    · subst ei; rw [put_same] at hd; cases hd
    · rw [put_other _ _ ei] at hd
      have := hpl i d hd
      rw [e, pl_self, hq] at this
      exact ei this.symm
  have hsp := hpm.symm.trans (flat_split N1 hq49)
  have f1 := hsp.filter (fun d => decide (d.2 ≠ now + 1))
  have f2 := hsp.filter (fun d => decide (d.2 = now + 1))
  rw [List.filter_append] at f1 f2
  have g1 : (N1 q).filter (fun d => decide (d.2 ≠ now + 1)) = [] := List.filter_eq_nil_iff.2 fun d hd => by simp [hin d hd]
  have g2 : (N1 q).filter (fun d => decide (d.2 = now + 1)) = N1 q := List.filter_eq_self.2 fun d hd => by simp [hin d hd]
  have g3 : (flat (put N1 q [])).filter (fun d => decide (d.2 ≠ now + 1)) = flat (put N1 q []) := List.filter_eq_self.2 fun d hd => by simp [hno d hd]
  have g4 : (flat (put N1 q [])).filter (fun d => decide (d.2 = now + 1)) = [] := List.filter_eq_nil_iff.2 fun d hd => by simp [hno d hd]
  rw [g1, g3, List.nil_append] at f1
  rw [g2, g4, List.append_nil] at f2
  refine ⟨⟨f1.symm, fun i d hd => ?_, fun i hi => ?_, fun d hd => ?_, ?_⟩, f2.symm⟩
  · by_cases ei : i = q
    · subst ei; rw [put_same] at hd; cases hd
    · rw [put_other _ _ ei] at hd; exact hpl i d hd
  · rw [put_other _ _ (by omega)]; exact hout i hi
  · obtain ⟨h1, h2⟩ := List.mem_filter.1 hd
    have := h.rng d h1
    have := of_decide_eq_true h2
    omega
  · exact h.nodup.sublist (List.filter_sublist.map _)
end
end Go.Proofs.YtjpokeakemlffaaGreatDoor
/-
  The plain law of the wheel, third part: the map against the list; what Arm and Cancel do. No program in sight.
-/
namespace Go.Proofs.YtjpokeakemlffaaGreatDoor
def tk (L : List Due) (h : Int) : Option Int := (L.find? fun d => decide (d.1 = h)).map (·.2)
theorem tk_nil (h : Int) : tk [] h = none := rfl
theorem tk_cons (d : Due) (L : List Due) (h : Int) : tk (d :: L) h = if d.1 = h then some d.2 else tk L h := by
  unfold tk
  by_cases e : d.1 = h
  · rw [List.find?_cons_of_pos (by simpa using e), if_pos e]; rfl
  · rw [List.find?_cons_of_neg (by simpa using e), if_neg e]
theorem tk_append (L L' : List Due) (h : Int) : tk (L ++ L') h = match tk L h with | none => tk L' h | some t => some t := by
  induction L with
  | nil => rfl
  | cons d r ih =>
    rw [List.cons_append, tk_cons, tk_cons]
    by_cases e : d.1 = h
    · rw [if_pos e, if_pos e]
    · rw [if_neg e, if_neg e]; exact ih
theorem tk_none {L : List Due} {h : Int} : tk L h = none ↔ ∀ d ∈ L, d.1 ≠ h := by
  unfold tk
  rw [Option.map_eq_none_iff, List.find?_eq_none]
  simp
theorem tk_some {L : List Due} {h t : Int} (e : tk L h = some t) : (h, t) ∈ L := by
  unfold tk at e
  obtain ⟨d, hd, rfl⟩ := Option.map_eq_some_iff.1 e
  have h1 := List.find?_some hd
  have h2 := List.mem_of_find?_eq_some hd
  rw [← of_decide_eq_true h1]
  exact h2
theorem nodup_inj : ∀ {L : List Due}, (L.map (·.1)).Nodup → ∀ {d d' : Due}, d ∈ L → d' ∈ L → d.1 = d'.1 → d = d'
  | [], _, _, _, h, _, _ => by cases h
  | x :: r, hn, d, d', h, h', e => by
    obtain ⟨hx, hr⟩ := List.nodup_cons.1 hn
    rcases List.mem_cons.1 h with rfl | h1 <;> rcases List.mem_cons.1 h' with rfl | h2
    · rfl
    · exact absurd (List.mem_map.2 ⟨d', h2, e.symm⟩) hx
    · exact absurd (List.mem_map.2 ⟨d, h1, e⟩) hx
    · exact nodup_inj hr h1 h2 e
theorem tk_filter_ne {L : List Due} (p : Due → Bool) {h : Int} (hp : ∀ d ∈ L, d.1 = h → p d = true) : tk (L.filter p) h = tk L h := by
  induction L with
  | nil => rfl
  | cons d r ih =>
    have h1 := ih (fun x hx => hp x (List.mem_cons_of_mem _ hx))
    by_cases e : p d = true
    · rw [List.filter_cons_of_pos e, tk_cons, tk_cons, h1]
    · rw [List.filter_cons_of_neg e, h1, tk_cons, if_neg (fun e2 => e (hp d List.mem_cons_self e2))]
theorem tk_drop_same (L : List Due) (h : Int) : tk (dropH h L) h = none := tk_none.2 fun d hd => of_decide_eq_true (List.mem_filter.1 hd).2
theorem tk_drop_other (L : List Due) {h x : Int} (e : x ≠ h) : tk (dropH h L) x = tk L x :=
  tk_filter_ne _ (fun d _ hd => decide_eq_true (by rw [hd]; exact e))
theorem setM_drop (L : List Due) (h : Int) : setM (tk L) h none = tk (dropH h L) := by
  funext x
  by_cases e : x = h
  · subst e; rw [setM_same, tk_drop_same]
  · rw [setM_other _ _ e, tk_drop_other L e]
theorem setM_arm (L : List Due) (h t : Int) : setM (tk L) h (some t) = tk (dropH h L ++ [(h, t)]) := by
  funext x
  rw [tk_append]
  by_cases e : x = h
  · subst e; rw [setM_same, tk_drop_same, tk_cons, if_pos rfl]
  · rw [setM_other _ _ e, tk_drop_other L e, tk_cons, if_neg (Ne.symm e), tk_nil]
    cases tk L x <;> rfl
theorem drop_len {L : List Due} (hn : (L.map (·.1)).Nodup) (h : Int) : (dropH h L).length = L.length - one (tk L h) := by
  induction L with
  | nil => rfl
  | cons d r ih =>
    obtain ⟨hx, hr⟩ := List.nodup_cons.1 hn
    have h1 := ih hr
    rw [tk_cons]
    by_cases e : d.1 = h
    · have h2 : ∀ x ∈ r, x.1 ≠ h := fun x hx2 e2 => hx (List.mem_map.2 ⟨x, hx2, e2.trans e.symm⟩)
      have h3 : dropH h (d :: r) = dropH h r := List.filter_cons_of_neg (by simpa using e)
      rw [if_pos e, h3, dropH_all h2]
      rfl
    · have h3 : dropH h (d :: r) = d :: dropH h r := List.filter_cons_of_pos (by simpa using e)
      rw [if_neg e, h3, List.length_cons, List.length_cons, h1]
      have h4 : one (tk r h) ≤ r.length := by
        cases h5 : tk r h with
        | none => exact Nat.zero_le _
        | some t => exact List.length_pos_of_mem (tk_some h5)
      omega
section
variable {now : Int} {N : Nat → List Due} {L : List Due}
theorem Inv.cut (I : Inv now N L) (h : Int) : Inv now (cutN now (tk L) h N) (dropH h L) := by
  have hr : ∀ d ∈ dropH h L, now < d.2 ∧ d.2 ≤ now + 4096 := fun d hd => I.rng d (List.mem_filter.1 hd).1
  have hn : ((dropH h L).map (·.1)).Nodup := I.nodup.sublist (List.filter_sublist.map _)
  unfold cutN
  cases e : tk L h with
  | none =>
    rw [dropH_all (tk_none.1 e)] at hr hn ⊢
    exact ⟨I.perm, I.at', I.out, I.rng, I.nodup⟩
  | some t =>
    have hp := pl_lt now t
    show Inv now (put N (pl now t) (dropH h (N (pl now t)))) (dropH h L)
    obtain ⟨p, hpe⟩ : ∃ p, pl now t = p := ⟨_, rfl⟩
    rw [hpe] at hp ⊢
    have hno : dropH h (flat (put N p [])) = flat (put N p []) := dropH_all fun d hd ed => by
      obtain ⟨i, hi, hd⟩ := flat_mem.1 hd
      by_cases ei : i = p
      · subst ei; rw [put_same] at hd; cases hd
      · rw [put_other _ _ ei] at hd
        have h1 := nodup_inj I.nodup (I.mem hd) (tk_some e) ed
        have h2 := I.at' i d hd
        rw [h1, hpe] at h2
        exact ei h2.symm
    have h1 := (I.perm.symm.trans (flat_split N hp)).filter (fun d => decide (d.1 ≠ h))
    rw [List.filter_append] at h1
    have h2 : (dropH h L).Perm (dropH h (N p) ++ flat (put N p [])) := by
      have h3 := hno
      unfold dropH at h3 ⊢
      rw [h3] at h1
      exact h1
    refine ⟨(flat_put N hp _).trans h2.symm, fun i d hd => ?_, fun i hi => ?_, hr, hn⟩
    · by_cases ei : i = p
      · subst ei; rw [put_same] at hd; exact I.at' i d (List.mem_filter.1 hd).1
      · rw [put_other _ _ ei] at hd; exact I.at' i d hd
    · rw [put_other _ _ (by omega)]; exact I.out i hi
theorem Inv.lay (I : Inv now N L) {h t : Int} (h1 : now < t) (h2 : t ≤ now + 4096) (hh : ∀ d ∈ L, d.1 ≠ h) : Inv now (layN now N [(h, t)]) (L ++ [(h, t)]) := by
  refine ⟨(flat_layN now _ _).trans (List.Perm.append_right _ I.perm), fun i d hd => ?_, fun i hi => layN_out now _ _ i hi (I.out i hi), fun d hd => ?_, ?_⟩
  · rcases layN_placed now (fun _ => False) [(h, t)] N (fun i d hd => .inl (I.at' i d hd)) i d hd with e | e
    · exact e
    · exact e.elim
  · rcases List.mem_append.1 hd with e | e
    · exact I.rng d e
    · obtain rfl : d = (h, t) := by simpa using e
      exact ⟨h1, h2⟩
  · rw [List.map_append, List.nodup_append]
    refine ⟨I.nodup, by simp, fun a ha b hb => ?_⟩
    obtain rfl : b = h := by simpa using hb
    obtain ⟨d, hd, rfl⟩ := List.mem_map.1 ha
    exact hh d hd
theorem Inv.arm (I : Inv now N L) {h t : Int} (h1 : now < t) (h2 : t ≤ now + 4096) : Inv now (layN now (cutN now (tk L) h N) [(h, t)]) (dropH h L ++ [(h, t)]) :=
  (I.cut h).lay h1 h2 (fun _ hd => of_decide_eq_true (List.mem_filter.1 hd).2)
end
end Go.Proofs.YtjpokeakemlffaaGreatDoor
/-
  The wheel told of the one list alone: what each call does to it.
-/
namespace Go.Proofs.YtjpokeakemlffaaGreatDoor
open Go.RowKit
structure Wl (w : World) (base b m nb : Nat) (S : Nat → Value) (now : Int) (L : List Due) : Prop where
  ex : ∃ N, Whl w base b m nb S N now (tk L) L.length ∧ Inv now N L
section
variable {w w' : World} {base b m nb : Nat} {S : Nat → Value} {now : Int} {L : List Due}
theorem Wl.below (h : Wl w base b m nb S now L) (hB : Below w.heap.size w w') : Wl w' base b m nb S now L := let ⟨N, h1, h2⟩ := h.ex; ⟨N, h1.below hB, h2⟩
theorem Wl.nodup (h : Wl w base b m nb S now L) : (L.map (·.1)).Nodup := let ⟨_, _, h2⟩ := h.ex; h2.nodup
theorem Wl.rng (h : Wl w base b m nb S now L) : ∀ d ∈ L, now < d.2 ∧ d.2 ≤ now + 4096 := let ⟨_, _, h2⟩ := h.ex; h2.rng
theorem Wl.lows (h : Wl w base b m nb S now L) : base ≤ b ∧ base ≤ m ∧ ∀ i, i < 49 → ∀ k, (S i).ownBlock = some k → base ≤ k := let ⟨_, h1, _⟩ := h.ex; ⟨h1.st.hb, h1.st.hm, h1.st.low⟩
theorem Wl.fmBelow {S' : Nat → Value} (h : Wl w base b m nb S now L) (hf : Fm w w' b m S S') (hb : base ≤ w.heap.size) : Below base w w' := hf.below h.lows.1 h.lows.2.1 h.lows.2.2 hb
theorem Fm.kept {S' : Nat → Value} (hf : Fm w w' b m S S') (h : Wl w base b m nb S now L) {k : Nat} (hk : k < base) (hb : base ≤ w.heap.size) : w'.heap[k]? = w.heap[k]? := (h.fmBelow hf hb).block k hk
end
theorem new_wl (tick : Int) (w : World) :
    Calls Tryz.prog 220 #[.int .i64 tick] w fun e w' => e = .returned (.pointer (some ⟨w.heap.size + 1, 0, none⟩)) ∧
      Wl w' w.heap.size (w.heap.size + 1) w.heap.size 0 (fun _ => .slice none 0 0) (min (max tick 0) 1099511627776) [] ∧ Below w.heap.size w w' :=
  (new_any tick w).mono fun _ _ ⟨h1, h2, h3⟩ => ⟨h1, ⟨_, h2, Inv.empty _⟩, h3⟩
section
variable {base b m nb : Nat} {S : Nat → Value} {now : Int} {L : List Due} {w : World}
theorem now_wl (h : Wl w base b m nb S now L) : Calls Tryz.prog 130 #[.pointer (some ⟨b, 0, none⟩)] w fun e w' => e = .returned (.int .i64 now) ∧ w' = w :=
  let ⟨N, h1, _⟩ := h.ex; now_any base b m S N now w h1.st
theorem at_wl (h : Wl w base b m nb S now L) {x : Int} (hx : wfI x) : Calls Tryz.prog 267 #[.pointer (some ⟨b, 0, none⟩), .int .i64 x] w fun e w' => ∃ c : Int, e = .returned (.tuple #[.int .i64 c, .bool (tk L x).isSome]) ∧ (∀ t, tk L x = some t → c = t) ∧ w' = w :=
  let ⟨N, h1, _⟩ := h.ex; at_any base b m nb _ S N now _ x w h1 hx
theorem Wl.tkr (h : Wl w base b m nb S now L) (hn : 0 ≤ now) (hn2 : now < 2305843009213693952) (x : Int) : ∀ t, tk L x = some t → 0 ≤ t ∧ t < 4611686018427387904 := fun t ht => by
  have := h.rng _ (tk_some ht)
  omega
theorem arm_wl (h : Wl w base b m nb S now L) (hbase : base ≤ w.heap.size) {x t : Int} (hx : wfI x) (hn : 0 ≤ now) (hn2 : now < 2305843009213693952) (h1 : now < t) (h2 : t ≤ now + 4096) (hL : L.length ≤ 10000) (hnb : nb < 10000) :
    Calls Tryz.prog 164 #[.pointer (some ⟨b, 0, none⟩), .int .i64 x, .int .i64 t] w fun e w' => e = .returned (.int .i64 0) ∧
      ∃ S', Wl w' base b m (nb + 1) S' now (dropH x L ++ [(x, t)]) ∧ Fm w w' b m S S' := by
  obtain ⟨N, hw, hi⟩ := h.ex
  refine (arm_yes base b m nb _ S N now _ x t w hw hbase hx hn hn2 h1 h2 (h.tkr hn hn2 x) L.length hi.len (by omega) (by omega)).mono ?_
  rintro e w' ⟨rfl, S', hw', hf⟩
  refine ⟨rfl, S', ⟨_, ?_, hi.arm h1 h2⟩, hf⟩
  rw [← setM_arm, List.length_append, drop_len hi.nodup]
  exact hw'
theorem cancel_wl (h : Wl w base b m nb S now L) (hbase : base ≤ w.heap.size) {g c : Nat} {x : Int} (hg : g < w.heap.size) (hc : w.cell? ⟨g, 0, none⟩ = some (.int .i64 x)) (hx : wfI x) (hn : 0 ≤ now) (hn2 : now < 2305843009213693952) (hL : L.length ≤ 10000) :
    Calls Tryz.prog 227 #[.pointer (some ⟨b, 0, none⟩), .slice (some ⟨g, 0, none⟩) 1 c] w fun e w' => e = .returned (.int .i64 (one (tk L x))) ∧
      ∃ S', Wl w' base b m nb S' now (dropH x L) ∧ Fm w w' b m S S' := by
  obtain ⟨N, hw, hi⟩ := h.ex
  refine (cancel_any base b m nb _ S N now _ g c x w hw hbase hg hc hx hn (by omega) (h.tkr hn hn2 x) (fun i => Nat.le_trans (hi.len i) (by omega))).mono ?_
  rintro e w' ⟨rfl, S', hw', hf⟩
  refine ⟨rfl, S', ⟨_, ?_, hi.cut x⟩, hf⟩
  rw [← setM_drop, drop_len hi.nodup]
  exact hw'
end
end Go.Proofs.YtjpokeakemlffaaGreatDoor
/-
  The blocks of a wheel, and what is not its own.
-/
namespace Go.Proofs.YtjpokeakemlffaaGreatDoor
open Go.RowKit
theorem own_low {w : World} {base base' n : Nat} {e : TypeId} {sz : Nat} {v : Value} {xs : List Value} (h : w.ownsRow base e sz v n xs) (hb : base' ≤ base) : w.ownsRow base' e sz v n xs := by
  refine ⟨h.1, ?_⟩
  rcases h.2 with hn | ⟨g, cap, cur, hv, h1, r⟩
  · exact .inl hn
  · exact .inr ⟨g, cap, cur, hv, Nat.le_trans hb h1, r⟩
theorem own_blockW {w w' : World} {base n : Nat} {e : TypeId} {sz : Nat} {v : Value} {xs : List Value} (h : w.ownsRow base e sz v n xs) (hb : ∀ k, v.ownBlock = some k → w'.heap[k]? = w.heap[k]?) : w'.ownsRow base e sz v n xs := by
  refine ⟨h.1, ?_⟩
  rcases h.2 with hn | ⟨g, cap, cur, hv, h1, h2, r⟩
  · exact .inl hn
  · exact .inr ⟨g, cap, cur, hv, h1, (hb g (by rw [hv]; rfl)).trans h2, r⟩
def Owns (b m : Nat) (S : Nat → Value) (k : Nat) : Prop := k = b ∨ k = m ∨ ∃ i, i < 49 ∧ (S i).ownBlock = some k
section
variable {w w' : World} {base b m nb : Nat} {S S' : Nat → Value} {now : Int} {L : List Due} {k : Nat}
theorem Wl.lt (h : Wl w base b m nb S now L) (ho : Owns b m S k) : k < w.heap.size := by
  obtain ⟨N, h1, _⟩ := h.ex
  rcases ho with rfl | rfl | ⟨i, hi, e⟩
  · exact h1.st.blt
  · exact h1.mp.lt
  · exact ((h1.st.rows i hi).lt k e).2
theorem Wl.low (h : Wl w base b m nb S now L) (ho : Owns b m S k) : base ≤ k := by
  obtain ⟨N, h1, _⟩ := h.ex
  rcases ho with rfl | rfl | ⟨i, hi, e⟩
  · exact h1.st.hb
  · exact h1.st.hm
  · exact h1.st.low i hi k e
theorem Fm.other (hf : Fm w w' b m S S') (hk : k < w.heap.size) (ho : ¬ Owns b m S k) : w'.heap[k]? = w.heap[k]? :=
  hf.block k hk (fun e => ho (.inl e)) (fun e => ho (.inr (.inl e))) (fun i hi e => ho (.inr (.inr ⟨i, hi, e⟩)))
theorem Fm.owns (hf : Fm w w' b m S S') (ho : Owns b m S' k) : Owns b m S k ∨ w.heap.size ≤ k := by
  rcases ho with e | e | ⟨i, hi, e⟩
  · exact .inl (.inl e)
  · exact .inl (.inr (.inl e))
  · exact (hf.new i hi k e).imp (fun ⟨j, hj, ej⟩ => .inr (.inr ⟨j, hj, ej⟩)) id
theorem Wl.same (h : Wl w base b m nb S now L) (hs : w.heap.size ≤ w'.heap.size) (hb : ∀ k, Owns b m S k → w'.heap[k]? = w.heap[k]?) : Wl w' base b m nb S now L := by
  obtain ⟨N, h1, h2⟩ := h.ex
  refine ⟨N, ⟨⟨h1.st.hb, h1.st.hm, h1.st.ne, (hb b (.inl rfl)).trans h1.st.blk, Nat.lt_of_lt_of_le h1.st.mp hs, fun i hi => own_blockW (h1.st.rows i hi) (fun k e => hb k (.inr (.inr ⟨i, hi, e⟩))), h1.st.apart, h1.st.off⟩, ?_⟩, h2⟩
  obtain ⟨D, ⟨es, clock, hm, F, h3, hD⟩, r⟩ := h1.mp
  exact ⟨D, ⟨es, clock, (hb m (.inr (.inl rfl))).trans hm, F, h3, hD⟩, r⟩
def Off (b m : Nat) (S : Nat → Value) (v : Value) : Prop := ∀ k, v.ownBlock = some k → ¬ Owns b m S k
theorem Off.nil (b m : Nat) (S : Nat → Value) : Off b m S (.slice none 0 0) := fun k e => by cases e
theorem Off.fm {v : Value} (h : Off b m S v) (hf : Fm w w' b m S S') (hl : ∀ k, v.ownBlock = some k → k < w.heap.size) : Off b m S' v := fun k e ho => by
  rcases hf.owns ho with h1 | h1
  · exact h k e h1
  · have := hl k e; omega
end
end Go.Proofs.YtjpokeakemlffaaGreatDoor
