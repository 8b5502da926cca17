/-
  The reference's table in memory: its block, its list. New, at, Has.
-/
import Derived.OneCell
import Derived.BigQuiet
import Derived.Test.YtdmmcgcglkblhaaDoorTkL
namespace Go.Proofs.YtdmmcgcglkblhaaDoor
open Go.RowKit Go.Maps

/-- An entry of the list: its token, what it says. -/
abbrev Te := Int × En
def teC (x : Te) : List Value := [.int .u32 x.1, .int .i64 x.2.o, .bool x.2.l, .int .i64 x.2.u]
theorem teC_length (x : Te) : (teC x).length = 4 := rfl
theorem teOne (x : Te) : ∀ u ∈ teC x, u.oneCell' = true := by simp [teC, Value.oneCell']
/-- The block rb: the capacity, the list L in the row v. -/
structure Rt (w : World) (base rb : Nat) (v : Value) (most : Int) (L : List Te) : Prop where
  low : base ≤ rb
  blk : w.heap[rb]? = some (.cells #[.int .i64 most, v] 56 (0, 0))
  own : w.ownsRow base 58 4 v L.length (L.flatMap teC)
  ne : v.ownBlock ≠ some rb
theorem own_blockT {w w' : World} {base n : Nat} {e : TypeId} {sz : Nat} {v : Value} {xs : List Value} (h : w.ownsRow base e sz v n xs) (hb : ∀ k, v.ownBlock = some k → w'.heap[k]? = w.heap[k]?) : w'.ownsRow base e sz v n xs := by
  refine ⟨h.1, ?_⟩
  rcases h.2 with hn | ⟨g, cap, cur, hv, h1, h2, r⟩
  · exact .inl hn
  · exact .inr ⟨g, cap, cur, hv, h1, (hb g (by rw [hv]; rfl)).trans h2, r⟩
theorem own_lowT {w : World} {base base' n : Nat} {e : TypeId} {sz : Nat} {v : Value} {xs : List Value} (h : w.ownsRow base e sz v n xs) (hb : base' ≤ base) : w.ownsRow base' e sz v n xs := by
  refine ⟨h.1, ?_⟩
  rcases h.2 with hn | ⟨g, cap, cur, hv, h1, r⟩
  · exact .inl hn
  · exact .inr ⟨g, cap, cur, hv, Nat.le_trans hb h1, r⟩
section
variable {w w' : World} {base rb : Nat} {v v' : Value} {most : Int} {L : List Te}
theorem Rt.lt (h : Rt w base rb v most L) : rb < w.heap.size := lt_of_block h.blk
theorem Rt.mostC (h : Rt w base rb v most L) : w.cell? ⟨rb, 0, none⟩ = some (.int .i64 most) := by rw [cell_of_row w rb 0 _ _ (0, 0) h.blk]; rfl
theorem Rt.listC (h : Rt w base rb v most L) : w.cell? ⟨rb, 1, none⟩ = some v := by rw [cell_of_row w rb 1 _ _ (0, 0) h.blk]; rfl
theorem Rt.free (h : Rt w base rb v most L) (i : Nat) : w.frozen? ⟨rb, i, none⟩ = false := by simp [World.frozen?, h.blk]
theorem Rt.same (h : Rt w base rb v most L) (hb : ∀ k, (k = rb ∨ v.ownBlock = some k) → w'.heap[k]? = w.heap[k]?) : Rt w' base rb v most L :=
  ⟨h.low, (hb rb (.inl rfl)).trans h.blk, own_blockT h.own fun k e => hb k (.inr e), h.ne⟩
theorem Rt.below (h : Rt w base rb v most L) (hB : Below w.heap.size w w') : Rt w' base rb v most L :=
  h.same fun k hk => hB.block k (by
    rcases hk with rfl | e
    · exact h.lt
    · exact (h.own.lt k e).2)
end
theorem rt_new (most : Int) (w : World) : Rt (w.alloc (.cells #[.int .i64 most, .slice none 0 0] 56)) w.heap.size w.heap.size (.slice none 0 0) most [] where
  low := Nat.le_refl _
  blk := heap_alloc_new _ _
  own := World.ownsRow_nil _ _ _ _
  ne := by simp [Value.ownBlock]

set_option maxHeartbeats 1600000 in
theorem rtnew_any (cap : Int) (w : World) :
    Calls Tryd.prog 16 #[.int .i64 cap] w fun e w' => e = .returned (.pointer (some ⟨w.heap.size, 0, none⟩)) ∧
      Rt w' w.heap.size w.heap.size (.slice none 0 0) (min (max cap 1) 64) [] ∧ Below w.heap.size w w' := by
  obtain ⟨most, hm⟩ : ∃ most, min (max cap 1) 64 = most := ⟨_, rfl⟩
  have HE := Keep.mk (rt_new most w)
  have HB : Keep (Below w.heap.size w (w.alloc (.cells #[.int .i64 most, .slice none 0 0] 56))) := ⟨(Below.refl _ w).alloc (Nat.le_refl _) _⟩
  have HN := Keep.mk hm
  rw [hm]
  clear hm
  rcases Int.lt_or_le cap 1 with h1 | h1
  · obtain rfl : most = 1 := by have := HN.out; omega
    go_enter Tryd.func16, Tryd.ntmps16
    go_wp2_with fail
    all_goals go_ret
    exact ⟨rfl, HE.out, HB.out⟩
  · rcases Int.lt_or_le 64 cap with h2 | h2
    · obtain rfl : most = 64 := by have := HN.out; omega
      go_enter Tryd.func16, Tryd.ntmps16
      go_wp2_with fail
      all_goals go_ret
      exact ⟨rfl, HE.out, HB.out⟩
    · obtain rfl : most = cap := by have := HN.out; omega
      go_enter Tryd.func16, Tryd.ntmps16
      go_wp2_with fail
      all_goals go_ret
      exact ⟨rfl, HE.out, HB.out⟩

/-- The place of a token: -1, if there is none. -/
def AtI (L : List Te) (t : Int) (i : Int) : Prop := (i = -1 ∧ ∀ x ∈ L, x.1 ≠ t) ∨ ∃ (k : Nat) (x : Te), i = (k : Int) ∧ L[k]? = some x ∧ x.1 = t
set_option maxRecDepth 100000 in
set_option maxHeartbeats 1600000 in
theorem at_any (base rb : Nat) (v : Value) (most : Int) (L : List Te) (t : Int) (w : World) (hR : Rt w base rb v most L) (hL : L.length ≤ 100000) :
    Calls Tryd.prog 30 #[.pointer (some ⟨rb, 0, none⟩), .int .u32 t] w fun e w' => ∃ i, e = .returned (.int .i64 i) ∧ AtI L t i ∧ w' = w := by
  obtain ⟨A, c, rfl, -⟩ := own_slice hR.own
  have c1 := hR.listC
  have HO := Lib.hid hR.own
  have HLL := Keep.mk hL
  clear hR
  go_enter Tryd.func30, Tryd.ntmps30
  go_wp2
  go_loopw [5] (fun i wr => ∃ k : Nat, k ≤ L.length ∧ i = .int .i64 k ∧ wr = w ∧ Keep (∀ x ∈ L.take k, x.1 ≠ t)) (fun i _ => L.length - (intOf i).toNat)
  case atStart => exact ⟨0, by omega, rfl, rfl, ⟨by simp⟩⟩
  case round =>
    obtain ⟨k, hk, rfl, rfl, HN⟩ := hrel
    by_cases hlt : k < L.length
    · obtain ⟨⟨d1, d2⟩, hd⟩ : ∃ d, L[k] = d := ⟨_, rfl⟩
      have hLd : L[k]? = some (d1, d2) := by rw [List.getElem?_eq_getElem hlt, hd]
      obtain ⟨g, off, hA, hg, hc⟩ := Rd.of_own teC_length (by decide) HO.out (List.ne_nil_of_length_pos (by omega))
      have p0 : wr.cell? ⟨g, off + k * 4, none⟩ = some (.int .u32 d1) := hc k _ hLd 0 _ rfl
      subst hA
      have hki : ((k : Nat) : Int) < (L.length : Int) := by omega
      have HLD := Keep.mk hLd
      by_cases hdt : d1 = t
      · subst hdt
        clear hc hg hd hLd
        go_wp2
        go_ret
        exact ⟨k, rfl, .inr ⟨k, _, rfl, HLD.out, rfl⟩, rfl⟩
      · have hdb : (d1 == t) = false := by simp [hdt]
        have HN2 : Keep (∀ x ∈ L.take (k + 1), x.1 ≠ t) := ⟨fun x hx => by
          rw [List.take_add_one, hLd] at hx
          rcases List.mem_append.1 hx with h | h
          · exact HN.out x h
          · obtain rfl : x = (d1, d2) := by simpa using h
            exact hdt⟩
        clear hc hg hd hLd hdt
        go_wp2
        go_roundw
        case rel => exact ⟨k + 1, by omega, by go_num, by first | rfl | trivial, HN2⟩
        case measure => simp [intOf] <;> omega
    · have hke : k = L.length := by omega
      subst hke
      rw [List.take_length] at HN
      clear hk
      go_wp2
      go_ret
      exact ⟨-1, rfl, .inl ⟨rfl, HN.out⟩, rfl⟩
end Go.Proofs.YtdmmcgcglkblhaaDoor
