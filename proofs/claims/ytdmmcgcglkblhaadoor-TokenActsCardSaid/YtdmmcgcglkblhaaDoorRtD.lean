/-
  The reference's Free, where nothing is freed.
-/
import Derived.Test.YtdmmcgcglkblhaaDoorRtC
namespace Go.Proofs.YtdmmcgcglkblhaaDoor
open Go.RowKit Go.Maps

set_option maxRecDepth 100000 in
set_option maxHeartbeats 1600000 in
theorem rtfree_no (base rb : Nat) (v : Value) (most : Int) (L : List Te) (t tick : Int) (w : World) (hR : Rt w base rb v most L) (hL : L.length ≤ 100000) (hm : ∀ x ∈ L, x.1 = t → x.2.l = false) :
    Calls Tryd.prog 18 #[.pointer (some ⟨rb, 0, none⟩), .int .u32 t, .int .i64 tick] w fun e w' => e = .returned (.int .i64 6) ∧ w' = w := by
  obtain ⟨A, c, rfl, -⟩ := own_slice hR.own
  have cl : w.cell? ⟨rb, 1, none⟩ = some (.slice A L.length c) := hR.listC
  have HO := Lib.hid hR.own
  have HM := Keep.mk hm
  have AT := at_any base rb _ most L t w hR hL
  obtain ⟨i, hi⟩ : ∃ i, AtI L t i := by
    by_cases h : ∃ x ∈ L, x.1 = t
    · obtain ⟨x, hx, e⟩ := h
      obtain ⟨k, hk⟩ := List.getElem?_of_mem hx
      exact ⟨k, .inr ⟨k, x, rfl, hk, e⟩⟩
    · exact ⟨-1, .inl ⟨rfl, fun x hx e => h ⟨x, hx, e⟩⟩⟩
  clear hi
  have AT := Keep.mk AT
  clear hR hm
  go_enter Tryd.func18, Tryd.ntmps18
  go_upto_region 2 with (first
    | (go_at_call 30
       go_loud (refine AT.out.mono ?_; rintro e X ⟨i, rfl, hi, hX⟩)
       rw [hX]
       clear hX)
    | fail)
  rcases hi with ⟨rfl, -⟩ | ⟨k, ⟨y1, ⟨yo, yl, yu⟩⟩, rfl, hk, hy⟩
  · go_wp2_with fail
    go_ret
    exact ⟨rfl, rfl⟩
  · obtain rfl : yl = false := HM.out _ (List.mem_of_getElem? hk) hy
    have hkl : k < L.length := (List.getElem?_eq_some_iff.1 hk).1
    obtain ⟨g, off, hA, hg, hc⟩ := Rd.of_own teC_length (by decide) HO.out (List.ne_nil_of_length_pos (by omega))
    cases hA
    have p2 : w.cell? ⟨g, off + k * 4 + 2, none⟩ = some (.bool false) := hc k _ hk 2 _ rfl
    have hki : ((k : Nat) : Int) < (L.length : Int) := by omega
    have hkd : decide (((k : Nat) : Int) < 0) = false := decide_eq_false (by omega)
    clear hc hg hk hy hkl
    go_wp2_with fail
    go_ret
    exact ⟨rfl, rfl⟩
end Go.Proofs.YtdmmcgcglkblhaaDoor
