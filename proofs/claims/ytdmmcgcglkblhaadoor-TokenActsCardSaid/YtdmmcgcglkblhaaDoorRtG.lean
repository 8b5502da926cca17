/-
  The reference's Free of a live token.
-/
import Derived.Deep.MidRow
import Derived.Laws.OwnMore
import Derived.Test.YtdmmcgcglkblhaaDoorTkY
namespace Go.Proofs.YtdmmcgcglkblhaaDoor
open Go.RowKit Go.Maps

theorem flat_set (t : Int) (x : En) : ∀ (L : List Te) (k : Nat), k < L.length → ((((L.flatMap teC).set (k * 4) (.int .u32 t)).set (k * 4 + 1) (.int .i64 x.o)).set (k * 4 + 2) (.bool x.l)).set (k * 4 + 3) (.int .i64 x.u) = (L.set k (t, x)).flatMap teC
  | [], k, h => by simp at h
  | y :: r, 0, _ => rfl
  | y :: r, k + 1, h => by
    have := flat_set t x r k (by simpa using h)
    rw [List.set_cons_succ, List.flatMap_cons, List.flatMap_cons, ← this, show (k + 1) * 4 = k * 4 + 1 + 1 + 1 + 1 by omega]
    rfl
theorem Rt.setRow {w : World} {base rb g c : Nat} {most : Int} {L : List Te} (h : Rt w base rb (.slice (some ⟨g, 0, none⟩) L.length c) most L) {k : Nat} (hk : k < L.length) (t : Int) (x : En) :
    Rt (w.setCells g (k * 4) (teC (t, x))) base rb (.slice (some ⟨g, 0, none⟩) L.length c) most (L.set k (t, x)) ∧ Fa10 w (w.setCells g (k * 4) (teC (t, x))) rb (.slice (some ⟨g, 0, none⟩) L.length c) (.slice (some ⟨g, 0, none⟩) L.length c) := by
  obtain ⟨o1, g1⟩ := h.own.stored (k * 4) (.int .u32 t)
  obtain ⟨o2, g2⟩ := o1.stored (k * 4 + 1) (.int .i64 x.o)
  obtain ⟨o3, g3⟩ := o2.stored (k * 4 + 2) (.bool x.l)
  obtain ⟨o4, g4⟩ := o3.stored (k * 4 + 3) (.int .i64 x.u)
  rw [flat_set t x L k hk] at o4
  have hg := ((g1.andThen g2 (fun j e => .inr e)).andThen g3 (fun j e => .inr e)).andThen g4 (fun j e => .inr e)
  refine ⟨⟨h.low, (hg.block rb h.lt (fun e => h.ne e.symm)).trans h.blk, by rw [List.length_set]; exact o4, h.ne⟩, ⟨hg.os, hg.tape, hg.output, hg.size, fun j h1 h2 h3 => hg.block j h1 (fun e => h3 e.symm), fun _ e => .inl e⟩⟩

set_option maxRecDepth 100000 in
set_option maxHeartbeats 1600000 in
theorem rtfree_yes (base rb : Nat) (v : Value) (most : Int) (L : List Te) (t tick o u : Int) (w : World) (hR : Rt w base rb v most L) (hL : L.length ≤ 100000) (hn : (L.map (·.1)).Nodup) (hm : (t, (⟨o, true, u⟩ : En)) ∈ L) (h1 : -4611686018427387904 < tick) (h2 : tick < 4611686018427387904) :
    Calls Tryd.prog 18 #[.pointer (some ⟨rb, 0, none⟩), .int .u32 t, .int .i64 tick] w fun e w' => e = .returned (.int .i64 0) ∧ ∃ k : Nat, L[k]? = some (t, ⟨o, true, u⟩) ∧ Rt w' base rb v most (L.set k (t, ⟨0, false, tick + 10⟩)) ∧ Fa10 w w' rb v v := by
  have hne : L ≠ [] := List.ne_nil_of_mem hm
  obtain ⟨A, c, rfl, -⟩ := own_slice hR.own
  obtain ⟨g, rfl, hgb⟩ : ∃ g, A = some ⟨g, 0, none⟩ ∧ ∃ cur : Array Value, w.heap[g]? = some (.cells cur 58 (0, 0)) ∧ L.length * 4 ≤ cur.size := by
    rcases hR.own.2 with ⟨e, _⟩ | ⟨g', cap', cur, e, _, hg, hnc, _, hcs, _⟩
    · exact absurd (List.length_eq_zero_iff.1 (by injection e)) hne
    · refine ⟨g', by injection e, cur, hg, ?_⟩
      rw [hcs]; exact Nat.mul_le_mul_right 4 hnc
  obtain ⟨cur, hgb, hcur⟩ := hgb
  have cl : w.cell? ⟨rb, 1, none⟩ = some (.slice (some ⟨g, 0, none⟩) L.length c) := hR.listC
  have AT := Keep.mk (at_any base rb _ most L t w hR hL)
  have q : IntKind.i64.wrap (tick + 10) = tick + 10 := IntWalk.i64_in _ (by omega)
  have HR := Keep.mk hR
  have HN := Keep.mk hn
  have HM := Keep.mk hm
  have HGB := Keep.mk hgb
  have HCUR := Keep.mk hcur
  clear hR hn hm hgb hcur hne h1 h2
  go_enter Tryd.func18, Tryd.ntmps18
  go_upto_region 2 with (first
    | (go_at_call 30
       go_loud (refine AT.out.mono ?_; rintro e X ⟨i, rfl, hi, hX⟩)
       rw [hX]
       clear hX)
    | fail)
  rcases hi with ⟨-, h0⟩ | ⟨k, y, rfl, hk, hy⟩
  · exact absurd rfl (h0 _ HM.out)
  · obtain rfl : y = (t, ⟨o, true, u⟩) := te_inj HN.out (List.mem_of_getElem? hk) HM.out hy
    have hkl : k < L.length := (List.getElem?_eq_some_iff.1 hk).1
    obtain ⟨g', off, hA, hg, hc⟩ := Rd.of_own teC_length (by decide) HR.out.own (List.ne_nil_of_length_pos (by omega))
    cases hA
    have p2 : w.cell? ⟨g, 0 + k * 4 + 2, none⟩ = some (.bool true) := hc k _ hk 2 _ rfl
    have p2' : w.cell? ⟨g, k * 4 + 2, none⟩ = some (.bool true) := by rw [← Nat.zero_add (k * 4)]; exact p2
    have hki : ((k : Nat) : Int) < (L.length : Int) := by omega
    have hkd : decide (((k : Nat) : Int) < 0) = false := decide_eq_false (by omega)
    have HTH : Keep (w.there g (k * 4) 4) := ⟨fun j hj => ⟨by
      have hjl : j < (teC (t, (⟨o, true, u⟩ : En))).length := hj
      have := hc k _ hk j _ (List.getElem?_eq_getElem hjl)
      rw [Nat.zero_add] at this
      rw [this]
      rfl, HR.out.own.frozenAt _⟩⟩
    have HONE : Keep ((#[Value.int .u32 t, .int .i64 0, .bool false, .int .i64 (tick + 10)]).all (fun x => x.oneCell') = true) := ⟨by simp [Value.oneCell']⟩
    have SR := Keep.mk (HR.out.setRow hkl t ⟨0, false, tick + 10⟩)
    have HK := Keep.mk hk
    clear hc hg hk hy hkl
    go_wp2_with (first
      | (refine wpList_store_mid rfl 58 (.tmp 33) (.tmp 32) rfl g (k * 4) #[.int .u32 t, .int .i64 0, .bool false, .int .i64 (tick + 10)] rfl rfl HTH.out (by kernel_rfl) HONE.out ?_)
      | fail)
    go_ret
    exact ⟨rfl, k, HK.out, SR.out.1, SR.out.2⟩
end Go.Proofs.YtdmmcgcglkblhaaDoor
