/-
  Find, Free; a table that is not there; wakes.
-/
import Derived.BigQuiet
import Derived.Test.YtdmmcgcglkblhaaDoorTkA
namespace Go.Proofs.YtdmmcgcglkblhaaDoor
open Go.RowKit Go.Maps

def ownT (M : Int → Option En) (t : Int) : Int := match M t with | some x => x.o | none => 0
def liveT (M : Int → Option En) (t : Int) : Bool := match M t with | some x => x.l | none => false

set_option maxHeartbeats 1600000 in
theorem find_any (base b m nb : Nat) (most : Int) (M : Int → Option En) (k : Nat) (t : Int) (w : World) (hT : Tb w base b m nb most M k) (ht : wfU t) :
    Calls Tryd.prog 13 #[.pointer (some ⟨b, 0, none⟩), .int .u32 t] w fun e w' => e = .returned (.tuple #[.int .i64 (ownT M t), .bool (liveT M t)]) ∧ Below w.heap.size w w' := by
  have cm := hT.mapC
  have hlk0 := hT.mp.look1 ht
  obtain ⟨t0, x, hx, ho, hl⟩ : ∃ (t0 : Int) (x : En), seen t (M t) = enV t0 x ∧ ownT M t = x.o ∧ liveT M t = x.l := by
    unfold ownT liveT
    cases M t with
    | none => exact ⟨0, noEn, rfl, rfl, rfl⟩
    | some e => exact ⟨t, e, rfl, rfl, rfl⟩
  rw [hx] at hlk0
  obtain ⟨xo, xl, xu⟩ := x
  have hlk : (Instr.lookup 61 (.map (some m)) (.int .u32 t) false).run Tryd.prog w = .ok (.agg #[.int .u32 t0, .int .i64 xo, .bool xl, .int .i64 xu]) w := hlk0
  rw [ho, hl]
  have HB : Keep (Below w.heap.size w (w.alloc (.cells #[.int .u32 t0, .int .i64 xo, .bool xl, .int .i64 xu] 43))) := ⟨(Below.refl _ w).alloc (Nat.le_refl _) _⟩
  have e1 : (w.alloc (.cells #[.int .u32 t0, .int .i64 xo, .bool xl, .int .i64 xu] 43)).drew.cell? ⟨w.heap.size, 1, none⟩ = some (.int .i64 xo) := by show (w.alloc _).cell? _ = _; rw [World.cell?_alloc_new]; rfl
  have e2 : (w.alloc (.cells #[.int .u32 t0, .int .i64 xo, .bool xl, .int .i64 xu] 43)).drew.cell? ⟨w.heap.size, 2, none⟩ = some (.bool xl) := by show (w.alloc _).cell? _ = _; rw [World.cell?_alloc_new]; rfl
  clear hT ht hlk0 hx ho hl
  go_enter Tryd.func13, Tryd.ntmps13
  go_wp2_with fail
  go_region_held3 (fun X => X.cell? ⟨w.heap.size, 1, none⟩ = some (.int .i64 xo) ∧ X.cell? ⟨w.heap.size, 2, none⟩ = some (.bool xl)) (exact ⟨e1, e2⟩) (fail)
  go_wp2_with fail
  refine bodyPost_ret (results_tmp2 rfl _ _ _) rfl ?_
  exact ⟨rfl, HB.out.drew⟩

set_option maxRecDepth 100000 in
set_option maxHeartbeats 1600000 in
theorem free_yes (base b m nb : Nat) (most : Int) (M : Int → Option En) (k : Nat) (t tick o u : Int) (w : World) (hT : Tb w base b m nb most M k) (ht : wfU t) (hM : M t = some ⟨o, true, u⟩) (hnb : nb < 1000000) (h1 : -4611686018427387904 < tick) (h2 : tick < 4611686018427387904) :
    Calls Tryd.prog 12 #[.pointer (some ⟨b, 0, none⟩), .int .u32 t, .int .i64 tick] w fun e w' => e = .returned (.int .i64 0) ∧ Tb w' base b m (nb + 1) most (setT M t (some ⟨0, false, tick + 10⟩)) k ∧ Ft w w' m := by
  have cm := hT.mapC
  have hlk0 := hT.mp.look1 ht
  rw [hM] at hlk0
  have hlk : (Instr.lookup 61 (.map (some m)) (.int .u32 t) false).run Tryd.prog w = .ok (.agg #[.int .u32 t, .int .i64 o, .bool true, .int .i64 u]) w := hlk0
  have hf : (Instr.field 43 (.agg #[.int .u32 t, .int .i64 o, .bool true, .int .i64 u]) 2).run Tryd.prog w = .ok (.bool true) w := by kernel_rfl
  have q : IntKind.i64.wrap (tick + 10) = tick + 10 := IntWalk.i64_in _ (by omega)
  obtain ⟨w3, hput0, hm3, ht3⟩ := hT.mp.put (by unfold maxLen; omega) ⟨0, false, tick + 10⟩ ht
  have hput : (Instr.mapUpdate 61 (.map (some m)) (.int .u32 t) (.agg #[.int .u32 t, .int .i64 0, .bool false, .int .i64 (tick + 10)])).run Tryd.prog w = .ok () w3 := hput0
  rw [hM] at hm3
  have T3 := Keep.mk (hT.turned ht3 hm3)
  have F3 := Keep.mk (Ft.turned ht3)
  clear hT ht hM hlk0 hput0 hm3 ht3
  go_enter Tryd.func12, Tryd.ntmps12
  go_wp2_with fail
  go_ret
  exact ⟨rfl, T3.out, F3.out⟩

set_option maxRecDepth 100000 in
set_option maxHeartbeats 1600000 in
theorem free_no (base b m nb : Nat) (most : Int) (M : Int → Option En) (k : Nat) (t tick : Int) (w : World) (hT : Tb w base b m nb most M k) (ht : wfU t) (hM : liveT M t = false) :
    Calls Tryd.prog 12 #[.pointer (some ⟨b, 0, none⟩), .int .u32 t, .int .i64 tick] w fun e w' => e = .returned (.int .i64 6) ∧ w' = w := by
  have cm := hT.mapC
  have hlk0 := hT.mp.look1 ht
  obtain ⟨t0, x, hx, hl⟩ : ∃ (t0 : Int) (x : En), seen t (M t) = enV t0 x ∧ liveT M t = x.l := by
    unfold liveT
    cases M t with
    | none => exact ⟨0, noEn, rfl, rfl⟩
    | some e => exact ⟨t, e, rfl, rfl⟩
  rw [hx] at hlk0
  obtain ⟨xo, xl, xu⟩ := x
  obtain rfl : xl = false := hl.symm.trans hM
  have hlk : (Instr.lookup 61 (.map (some m)) (.int .u32 t) false).run Tryd.prog w = .ok (.agg #[.int .u32 t0, .int .i64 xo, .bool false, .int .i64 xu]) w := hlk0
  have hf : (Instr.field 43 (.agg #[.int .u32 t0, .int .i64 xo, .bool false, .int .i64 xu]) 2).run Tryd.prog w = .ok (.bool false) w := by kernel_rfl
  clear hT ht hM hlk0 hx hl
  go_enter Tryd.func12, Tryd.ntmps12
  go_wp2_with fail
  go_ret
  exact ⟨rfl, rfl⟩

theorem take_nil (o : Int) (v : Value) (w : World) : Calls Tryd.prog 10 #[.pointer none, .int .i64 o, v] w fun e w' => e = .returned (.tuple #[.int .u64 0, .int .i64 0, .int .i64 2]) ∧ w' = w := by
  go_enter Tryd.func10, Tryd.ntmps10
  go_wp2_with fail
  go_ret3
  exact ⟨rfl, rfl⟩
theorem find_nil (t : Int) (w : World) : Calls Tryd.prog 13 #[.pointer none, .int .u32 t] w fun e w' => e = .returned (.tuple #[.int .i64 0, .bool false]) ∧ w' = w := by
  go_enter Tryd.func13, Tryd.ntmps13
  go_wp2_with fail
  refine bodyPost_ret (results_tmp2 rfl _ _ _) rfl ?_
  exact ⟨rfl, rfl⟩
theorem free_nil (t tick : Int) (w : World) : Calls Tryd.prog 12 #[.pointer none, .int .u32 t, .int .i64 tick] w fun e w' => e = .returned (.int .i64 2) ∧ w' = w := by
  go_enter Tryd.func12, Tryd.ntmps12
  go_wp2_with fail
  go_ret
  exact ⟨rfl, rfl⟩
theorem tick_nil (tick : Int) (w : World) : Calls Tryd.prog 14 #[.pointer none, .int .i64 tick] w fun e w' => e = .returned (.int .i64 0) ∧ Below w.heap.size w w' := by
  have HB : Keep (Below w.heap.size w (w.alloc (.cells #[.int .i64 tick] 3))) := ⟨(Below.refl _ w).alloc (Nat.le_refl _) _⟩
  go_enter Tryd.func14, Tryd.ntmps14
  go_wp2_with fail
  go_ret
  exact ⟨rfl, HB.out⟩
theorem all_nil (w : World) : Calls Tryd.prog 15 #[.pointer none] w fun e w' => e = .returned (.slice none 0 0) ∧ Below w.heap.size w w' := by
  go_enter Tryd.func15, Tryd.ntmps15
  go_wp2_with fail
  go_ret
  exact ⟨rfl, Below.refl _ _⟩

theorem tok_five : tokN 5 = 1575898582 := by
  rw [tokN, digB_eq _ (beB_byte 5 8)]
  decide +kernel
theorem tok_six : tokN 6 = 346838908 := by
  rw [tokN, digB_eq _ (beB_byte 6 8)]
  decide +kernel
end Go.Proofs.YtdmmcgcglkblhaaDoor
