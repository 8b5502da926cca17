/-
  The reference's Has.
-/
import Derived.Deep.RegionHeld3
import Derived.Test.YtdmmcgcglkblhaaDoorRtB
namespace Go.Proofs.YtdmmcgcglkblhaaDoor
open Go.RowKit Go.Maps

theorem te_inj : ∀ {L : List Te}, (L.map (·.1)).Nodup → ∀ {d d' : Te}, d ∈ L → d' ∈ L → d.1 = d'.1 → d = d'
  | [], _, _, _, h, _, _ => by cases h
  | x :: r, hn, d, d', h, h', e => by
    obtain ⟨hx, hr⟩ := List.nodup_cons.1 hn
    rcases List.mem_cons.1 h with rfl | h1
    · rcases List.mem_cons.1 h' with rfl | h2
      · rfl
      · exact absurd (List.mem_map.2 ⟨d', h2, e.symm⟩) hx
    · rcases List.mem_cons.1 h' with rfl | h2
      · exact absurd (List.mem_map.2 ⟨d, h1, e⟩) hx
      · exact te_inj hr h1 h2 e

set_option maxRecDepth 100000 in
set_option maxHeartbeats 1600000 in
theorem rthas_yes (base rb : Nat) (v : Value) (most : Int) (L : List Te) (t o u : Int) (l : Bool) (w : World) (hR : Rt w base rb v most L) (hL : L.length ≤ 100000) (hn : (L.map (·.1)).Nodup) (hm : (t, (⟨o, l, u⟩ : En)) ∈ L) :
    Calls Tryd.prog 20 #[.pointer (some ⟨rb, 0, none⟩), .agg #[.int .u32 t, .int .i64 o, .bool l, .int .i64 u]] w fun e w' => e = .returned (.bool true) ∧ Below w.heap.size w w' := by
  obtain ⟨W, hW⟩ : ∃ W, w.alloc (.cells #[.int .u32 t, .int .i64 o, .bool l, .int .i64 u] 58) = W := ⟨_, rfl⟩
  have hB : Below w.heap.size w W := hW ▸ (Below.refl _ w).alloc (Nat.le_refl _) _
  have hRW := hR.below hB
  have e0 : W.cell? ⟨w.heap.size, 0, none⟩ = some (.int .u32 t) := by rw [← hW, World.cell?_alloc_new]; rfl
  have e1 : W.cell? ⟨w.heap.size, 1, none⟩ = some (.int .i64 o) := by rw [← hW, World.cell?_alloc_new]; rfl
  have e2 : W.cell? ⟨w.heap.size, 2, none⟩ = some (.bool l) := by rw [← hW, World.cell?_alloc_new]; rfl
  have e3 : W.cell? ⟨w.heap.size, 3, none⟩ = some (.int .i64 u) := by rw [← hW, World.cell?_alloc_new]; rfl
  obtain ⟨A, c, rfl, -⟩ := own_slice hRW.own
  have cl : W.cell? ⟨rb, 1, none⟩ = some (.slice A L.length c) := hRW.listC
  have AT := Keep.mk (at_any base rb _ most L t W hRW hL)
  have HO := Lib.hid hRW.own
  have HB := Keep.mk hB
  have HN := Keep.mk hn
  have HM := Keep.mk hm
  clear hR hRW hB hn hm
  go_enter Tryd.func20, Tryd.ntmps20
  go_wp2_with (first
    | (go_at_call 30
       go_loud (refine AT.out.mono ?_; rintro e X ⟨i, rfl, hi, hX⟩)
       rw [hX]
       clear hX
       rcases hi with ⟨-, h0⟩ | ⟨k, y, rfl, hk, hy⟩
       · exact absurd rfl (h0 _ HM.out)
       obtain rfl : y = (t, ⟨o, l, u⟩) := te_inj HN.out (List.mem_of_getElem? hk) HM.out hy
       have hkl : k < L.length := (List.getElem?_eq_some_iff.1 hk).1
       obtain ⟨g, off, hA, hg, hc⟩ := Rd.of_own teC_length (by decide) HO.out (List.ne_nil_of_length_pos (by omega))
       cases hA
       have p0 : W.cell? ⟨g, off + k * 4, none⟩ = some (.int .u32 t) := hc k _ hk 0 _ rfl
       have p1 : W.cell? ⟨g, off + k * 4 + 1, none⟩ = some (.int .i64 o) := hc k _ hk 1 _ rfl
       have p2 : W.cell? ⟨g, off + k * 4 + 2, none⟩ = some (.bool l) := hc k _ hk 2 _ rfl
       have p3 : W.cell? ⟨g, off + k * 4 + 3, none⟩ = some (.int .i64 u) := hc k _ hk 3 _ rfl
       have hki : ((k : Nat) : Int) < (L.length : Int) := by omega
       have hkd : decide ((0 : Int) ≤ ((k : Nat) : Int)) = true := decide_eq_true (by omega)
       clear hc hg hk hy hkl)
    | fail)
  go_big_quiet (fail)
  go_wp2_with fail
  go_ret
  exact ⟨by simp, HB.out.trans ⟨rfl, rfl, rfl, Nat.le_refl _, fun _ _ => rfl⟩⟩
end Go.Proofs.YtdmmcgcglkblhaaDoor
