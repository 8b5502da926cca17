/-
  Tick: the entries whose quarantine ends are struck.
-/
import Derived.Test.YtdmmcgcglkblhaaDoorTkC
namespace Go.Proofs.YtdmmcgcglkblhaaDoor
open Go.RowKit Go.Maps

/-- What a tick leaves of an entry. -/
def endT (tick : Int) : Option En → Option En
  | some x => if !x.l && decide (x.u ≤ tick) then none else some x
  | none => none

theorem tick1_any (t tick : Int) (x : En) (bx : Nat) (W : World) (hx : W.cell? ⟨bx, 0, none⟩ = some (.int .i64 tick)) :
    Calls Tryd.prog 25 #[.int .u32 t, .agg #[.int .u32 t, .int .i64 x.o, .bool x.l, .int .i64 x.u], .pointer (some ⟨bx, 0, none⟩)] W fun e w' => e = .returned (.bool (!x.l && decide (x.u ≤ tick))) ∧ Below W.heap.size W w' := by
  obtain ⟨o, l, u⟩ := x
  have hlt := World.block_lt_of_cell? W _ hx
  have e2 : (W.alloc (.cells #[.int .u32 t, .int .i64 o, .bool l, .int .i64 u] 43)).cell? ⟨W.heap.size, 2, none⟩ = some (.bool l) := by rw [World.cell?_alloc_new]; rfl
  have e3 : (W.alloc (.cells #[.int .u32 t, .int .i64 o, .bool l, .int .i64 u] 43)).cell? ⟨W.heap.size, 3, none⟩ = some (.int .i64 u) := by rw [World.cell?_alloc_new]; rfl
  have e4 : (W.alloc (.cells #[.int .u32 t, .int .i64 o, .bool l, .int .i64 u] 43)).cell? ⟨bx, 0, none⟩ = some (.int .i64 tick) := (World.cell?_alloc_lt _ _ _ hlt).trans hx
  have HB : Keep (Below W.heap.size W (W.alloc (.cells #[.int .u32 t, .int .i64 o, .bool l, .int .i64 u] 43))) := ⟨(Below.refl _ W).alloc (Nat.le_refl _) _⟩
  clear hx hlt
  cases l with
  | true =>
    go_enter Tryd.func25, Tryd.ntmps25
    go_wp2_with fail
    go_ret
    exact ⟨rfl, HB.out⟩
  | false =>
    go_enter Tryd.func25, Tryd.ntmps25
    go_wp2_with fail
    go_ret
    exact ⟨by simp, HB.out⟩

/-- The map while a range over it strikes. -/
structure Sw (wr : World) (w : World) (m nb : Nat) (tick : Int) (M : Int → Option En) (k : Nat) (cnt : Nat) : Prop where
  ex : ∃ (D : DataW Unit) (Mc : Int → Option En) (left : Lit → Bool), wr.ranges Tryd.prog 30 enR m w.heap.size nb D left cnt ∧ (∀ h, Maps.has D (.int .u32 h) = (Mc h).isSome) ∧ (∀ h x, Mc h = some x → ∀ z, D.atKey (.int .u32 h) z = enD h x) ∧ Maps.size D ≤ k ∧ (∀ h, (M h).isSome = true → left (.int .u32 h) = false → endT tick (M h) = none → Maps.size D < k) ∧
    (∀ h, left (.int .u32 h) = true → Mc h = M h) ∧ (∀ h, left (.int .u32 h) = false → Mc h = endT tick (M h)) ∧ w.grownBy wr (some m)

set_option maxRecDepth 100000 in
set_option maxHeartbeats 3200000 in
theorem deleteT_any (m nb k : Nat) (M : Int → Option En) (tick : Int) (bx : Nat) (w : World) (hM : Mt w m nb M k) (hx : w.cell? ⟨bx, 0, none⟩ = some (.int .i64 tick)) (hne : bx ≠ m) :
    Calls Tryd.prog 24 #[.map (some m), .func (.func 25) #[] #[.pointer (some ⟨bx, 0, none⟩)]] w fun e w' =>
      e = .returned (.tuple #[]) ∧ (∃ k', k' ≤ k ∧ (∀ h, (M h).isSome = true → endT tick (M h) = none → k' < k) ∧ Mt w' m nb (fun t => endT tick (M t)) k') ∧ w.grownBy w' (some m) := by
  obtain ⟨D, hown, h1, h2, h3⟩ := hM
  have H1 := Lib.hid h1
  have H2 := Lib.hid h2
  have H3 := Keep.mk h3
  have hlt := World.block_lt_of_cell? w _ hx
  have HX := Keep.mk hx
  have HLT := Keep.mk hlt
  clear h1 h2 h3 hx hlt
  go_enter Tryd.func24, Tryd.ntmps24
  go_wp2_with (first
    | (at_range; refine wpList_range_own _ rfl _ 61 rfl 30 43 keyedU Tryd.underlying61 enR m nb _ rfl hown ?_; intro w0 hrg0 hg0 hs0)
    | go_in)
  try go_frame
  have HS0 : Keep (Sw w0 w m nb tick M k (Maps.size D)) := ⟨⟨D, M, _, hrg0, H1.out, H2.out, Nat.le_of_eq H3.out, (fun h hh hl => by rw [H1.out, hh] at hl; cases hl), fun _ _ => rfl, (fun h hl => by
    rw [H1.out] at hl
    cases hm : M h with
    | none => rfl
    | some x => rw [hm] at hl; cases hl), hg0.but _⟩⟩
  clear hrg0 hg0 hs0 hown
  go_loopw [8] (fun _ wr => ∃ cnt : Nat, Keep (Sw wr w m nb tick M k cnt)) (fun _ wr => wr.rangeLeft m w.heap.size)
  case atStart => exact ⟨_, HS0⟩
  case round =>
    obtain ⟨cnt, ⟨⟨D1, Mc, left, hrg, v1, v2, v3, v6, v4, v5, hgw⟩⟩⟩ := hrel
    have V6 := Lib.hid v6
    have V1 := Lib.hid v1
    have V2 := Lib.hid v2
    have V3 := Keep.mk v3
    have V4 := Lib.hid v4
    have V5 := Lib.hid v5
    have HGW := Keep.mk hgw
    clear v1 v2 v3 v4 v5 v6 hgw
    go_wp2_with (first
      | (at_next; refine wpList_next_ranges _ rfl _ rfl 30 keyedU enR id id (fun key _ _ => ⟨key, rfl⟩) (fun v _ _ => ⟨v, rfl⟩) m w.heap.size nb _ _ _ rfl hrg ?_ ?_)
      | go_in)
    · intro _ hl0
      go_wp2
      go_end0
      refine ⟨rfl, ⟨_, V3.out, fun h h1 h2 => V6.out h h1 (hl0 _) h2, D1, hrg.owns, fun h => ?_, fun h x hx => ?_, rfl⟩, HGW.out⟩
      · rw [V1.out, V5.out h (hl0 _)]
      · exact V2.out h x (by rw [V5.out h (hl0 _)]; exact hx)
    · intro key val kl yd yp w1 cnt1 hkey hlx hv hat hrg1 hlt hg1 hs1 hen
      obtain ⟨t, rfl, rfl, hwt⟩ := Maps.keyOf_int_inv Tryd.underlying30 hkey
      obtain ⟨t', x, rfl, hy⟩ := enR_inv hv
      obtain rfl : yd = enD t' x := congrArg Prod.fst hy
      have hMc : Mc t = some x ∧ t' = t := by
        have hh := has_true_of_atKey hat
        rw [V1.out] at hh
        obtain ⟨x1, e1⟩ := Option.isSome_iff_exists.1 hh
        have a := hat (enD 0 x)
        rw [V2.out t x1 e1] at a
        obtain ⟨rfl, rfl⟩ := enD_inj a
        exact ⟨e1, rfl⟩
      obtain ⟨hMc, rfl⟩ := hMc
      have hMt : M t' = some x := by rw [← V4.out _ hlx]; exact hMc
      obtain ⟨xo, xl, xu⟩ := x
      have hgw1 : w.grownBy w1 (some m) := HGW.out.andThen hg1 (fun j hj => by cases hj; exact Or.inl (Nat.le_refl _))
      have hbx1 : w1.cell? ⟨bx, 0, none⟩ = some (.int .i64 tick) := (World.cell?_of_block (hgw1.block bx HLT.out (by simp; exact hne))).trans HX.out
      have hbx2 : (w1.alloc (.cells #[.int .u32 t', .int .i64 xo, .bool xl, .int .i64 xu] 43)).cell? ⟨bx, 0, none⟩ = some (.int .i64 tick) := (World.cell?_alloc_lt _ _ _ (World.block_lt_of_cell? w1 _ hbx1)).trans hbx1
      have hc := tick1_any t' tick ⟨xo, xl, xu⟩ bx _ hbx2
      have hk1 : ∀ h, (left (.int .u32 h) && !(Lit.int .u32 h).sameKey (.int .u32 t')) = true → h ≠ t' ∧ left (.int .u32 h) = true := fun h hh => by
        simp [Lit.sameKey] at hh
        exact ⟨hh.2, hh.1⟩
      have hk2 : ∀ h, (left (.int .u32 h) && !(Lit.int .u32 h).sameKey (.int .u32 t')) = false → h = t' ∨ left (.int .u32 h) = false := fun h hh => by
        by_cases e : h = t'
        · exact .inl e
        · simp [Lit.sameKey, e] at hh
          exact .inr hh
      have K1 := Lib.hid hk1
      have K2 := Lib.hid hk2
      have HRO := Keep.mk hrg
      have HLE := Keep.mk hlt
      have HMT := Keep.mk hMt
      have HMC := Keep.mk hMc
      have HKEY := Keep.mk hkey
      have HG1 := Keep.mk hgw1
      have HR2 := Keep.mk (hrg1.alloc (.cells #[.int .u32 t', .int .i64 xo, .bool xl, .int .i64 xu] 43))
      have hen2 : (Instr.entry (.pointer (some ⟨w.heap.size, 0, none⟩))).run Tryd.prog w1 = .ok (.tuple #[.int .u32 t', .agg #[.int .u32 t', .int .i64 xo, .bool xl, .int .i64 xu]]) w1 := hen
      try rw [show enV t' ⟨xo, xl, xu⟩ = .agg #[.int .u32 t', .int .i64 xo, .bool xl, .int .i64 xu] from rfl]
      clear hen hk1 hk2 hrg hlt hMt hMc hkey hrg1 hgw1 hbx1 hbx2 hat hlx hg1 hs1 hwt hv hy
      cases hp : (!xl && decide (xu ≤ tick)) with
      | false =>
        rw [hp] at hc
        have HC := Keep.mk hc
        have HP := Keep.mk hp
        clear hc hp
        go_wp2_with (first
          | (go_at_call 25
             go_loud (refine HC.out.mono ?_; rintro e w3 ⟨rfl, hb3⟩)
             have HR3 := Keep.mk (HR2.out.kept (grown_of_below hb3 none) (by simp) (by simp))
             have HG3 : Keep (w.grownBy w3 (some m)) := ⟨(HG1.out.andThen (World.grownBy_alloc w1 _ none) (fun j hj => by cases hj)).andThen (grown_of_below hb3 none) (fun j hj => by cases hj)⟩
             clear hb3)
          | go_in)
        go_roundw
        case rel => exact ⟨cnt1, ⟨⟨D1, Mc, _, HR3.out, V1.out, V2.out, V3.out, (fun h h1 hh h2 => by
          rcases K2.out h hh with rfl | hh2
          · rw [HMT.out] at h2; simp only [endT] at h2; rw [HP.out] at h2; cases h2
          · exact V6.out h h1 hh2 h2), fun h hh => V4.out h (K1.out h hh).2, fun h hh => by
          rcases K2.out h hh with rfl | hh2
          · rw [HMC.out, HMT.out]; simp only [endT]; rw [HP.out]; rfl
          · exact V5.out h hh2, HG3.out⟩⟩⟩
        case measure => rw [HR3.out.left_eq, HRO.out.left_eq]; exact HLE.out
      | true =>
        rw [hp] at hc
        have HC := Keep.mk hc
        have HP := Keep.mk hp
        clear hc hp
        go_wp2_with (first
          | (go_at_call 25
             go_loud (refine HC.out.mono ?_; rintro e w3 ⟨rfl, hb3⟩)
             have HR3 := Keep.mk (HR2.out.kept (grown_of_below hb3 none) (by simp) (by simp))
             have HG3 : Keep (w.grownBy w3 (some m)) := ⟨(HG1.out.andThen (World.grownBy_alloc w1 _ none) (fun j hj => by cases hj)).andThen (grown_of_below hb3 none) (fun j hj => by cases hj)⟩
             clear hb3)
          | (at_delete; refine wpList_delete_ranges _ rfl _ _ 61 30 rfl 43 keyedU Tryd.underlying61 enR m w.heap.size nb _ _ _ rfl HR3.out _ _ rfl HKEY.out ?_; intro w4 cnt4 hrg4 hle hturn; try go_frame)
          | go_in)
        rw [Maps.strike_twice] at hrg4
        have hsz := size_del (k := Lit.int .u32 t') (HR3.out.owns.tidy keyedU)
        go_roundw
        case rel => exact ⟨cnt4, ⟨⟨D1.del (.int .u32 t'), setT Mc t' none, _, hrg4, fun h => by
          by_cases e : h = t'
          · subst e; rw [setT_same, has_del_same]; rfl
          · rw [setT_other _ _ e, has_del_other (key_une e)]; exact V1.out h, fun h x hx z => by
          by_cases e : h = t'
          · subst e; rw [setT_same] at hx; cases hx
          · rw [setT_other _ _ e] at hx; rw [atKey_del_other (key_une e)]; exact V2.out h x hx z, by have := V3.out; omega, (fun _ _ _ _ => by have := V3.out; rw [if_pos (by rw [V1.out, HMC.out]; rfl)] at hsz; omega), fun h hh => by
          obtain ⟨e, hh2⟩ := K1.out h hh
          rw [setT_other _ _ e]; exact V4.out h hh2, fun h hh => by
          by_cases e : h = t'
          · subst e; rw [setT_same, HMT.out]; simp only [endT]; rw [HP.out]; rfl
          · rw [setT_other _ _ e]; exact V5.out h ((K2.out h hh).resolve_left e), HG3.out.andThen hturn.grown (fun j hj => by cases hj; exact Or.inr rfl)⟩⟩⟩
        case measure => rw [hrg4.left_eq, HRO.out.left_eq]; exact Nat.lt_of_le_of_lt hle HLE.out
end Go.Proofs.YtdmmcgcglkblhaaDoor
