/-
  The wheel told of the one list alone: what each call does to it.
-/
import Derived.Test.YtcjanieeepcddaaGreatDoorWhR
namespace Go.Proofs.YtcjanieeepcddaaGreatDoor
open Go.RowKit

/-- The wheel in block b holds the timers of L, at the tick now. -/
structure Wl (w : World) (base b m nb : Nat) (S : Nat → Value) (now : Int) (L : List Due) : Prop where
  ex : ∃ N, Whl w base b m nb S N now (tk L) L.length ∧ Inv now N L
section
variable {w w' : World} {base b m nb : Nat} {S : Nat → Value} {now : Int} {L : List Due}
theorem Wl.below (h : Wl w base b m nb S now L) (hB : Below w.heap.size w w') : Wl w' base b m nb S now L := let ⟨N, h1, h2⟩ := h.ex; ⟨N, h1.below hB, h2⟩
theorem Wl.nodup (h : Wl w base b m nb S now L) : (L.map (·.1)).Nodup := let ⟨_, _, h2⟩ := h.ex; h2.nodup
theorem Wl.rng (h : Wl w base b m nb S now L) : ∀ d ∈ L, now < d.2 ∧ d.2 ≤ now + 4096 := let ⟨_, _, h2⟩ := h.ex; h2.rng
theorem Wl.lows (h : Wl w base b m nb S now L) : base ≤ b ∧ base ≤ m ∧ ∀ i, i < 49 → ∀ k, (S i).ownBlock = some k → base ≤ k := let ⟨_, h1, _⟩ := h.ex; ⟨h1.st.hb, h1.st.hm, h1.st.low⟩
theorem Wl.fmBelow {S' : Nat → Value} (h : Wl w base b m nb S now L) (hf : Fm w w' b m S S') (hb : base ≤ w.heap.size) : Below base w w' := hf.below h.lows.1 h.lows.2.1 h.lows.2.2 hb
/-- A block of another's stays. -/
theorem Fm.kept {S' : Nat → Value} (hf : Fm w w' b m S S') (h : Wl w base b m nb S now L) {k : Nat} (hk : k < base) (hb : base ≤ w.heap.size) : w'.heap[k]? = w.heap[k]? := (h.fmBelow hf hb).block k hk
end

theorem new_wl (tick : Int) (w : World) :
    Calls Tryz.prog 69 #[.int .i64 tick] w fun e w' => e = .returned (.pointer (some ⟨w.heap.size + 1, 0, none⟩)) ∧
      Wl w' w.heap.size (w.heap.size + 1) w.heap.size 0 (fun _ => .slice none 0 0) (min (max tick 0) 1099511627776) [] ∧ Below w.heap.size w w' :=
  (new_any tick w).mono fun _ _ ⟨h1, h2, h3⟩ => ⟨h1, ⟨_, h2, Inv.empty _⟩, h3⟩
section
variable {base b m nb : Nat} {S : Nat → Value} {now : Int} {L : List Due} {w : World}
theorem now_wl (h : Wl w base b m nb S now L) : Calls Tryz.prog 31 #[.pointer (some ⟨b, 0, none⟩)] w fun e w' => e = .returned (.int .i64 now) ∧ w' = w :=
  let ⟨N, h1, _⟩ := h.ex; now_any base b m S N now w h1.st
theorem len_wl (h : Wl w base b m nb S now L) : Calls Tryz.prog 65 #[.pointer (some ⟨b, 0, none⟩)] w fun e w' => e = .returned (.int .i64 L.length) ∧ w' = w :=
  let ⟨N, h1, _⟩ := h.ex; len_any base b m nb _ S N now _ w h1
theorem at_wl (h : Wl w base b m nb S now L) {x : Int} (hx : wfI x) : Calls Tryz.prog 130 #[.pointer (some ⟨b, 0, none⟩), .int .i64 x] w fun e w' => ∃ c : Int, e = .returned (.tuple #[.int .i64 c, .bool (tk L x).isSome]) ∧ (∀ t, tk L x = some t → c = t) ∧ w' = w :=
  let ⟨N, h1, _⟩ := h.ex; at_any base b m nb _ S N now _ x w h1 hx
theorem armNo_wl (h : Wl w base b m nb S now L) (x t : Int) (hn : 0 ≤ now) (hn2 : now < 2305843009213693952) (ht : t ≤ now ∨ now + 4096 < t) :
    Calls Tryz.prog 64 #[.pointer (some ⟨b, 0, none⟩), .int .i64 x, .int .i64 t] w fun e w' => e = .returned (.int .i64 1) ∧ w' = w :=
  let ⟨N, h1, _⟩ := h.ex; arm_no base b m S N now x t w h1.st hn hn2 ht
theorem Wl.tkr (h : Wl w base b m nb S now L) (hn : 0 ≤ now) (hn2 : now < 2305843009213693952) (x : Int) : ∀ t, tk L x = some t → 0 ≤ t ∧ t < 4611686018427387904 := fun t ht => by
  have := h.rng _ (tk_some ht)
  omega
theorem arm_wl (h : Wl w base b m nb S now L) (hbase : base ≤ w.heap.size) {x t : Int} (hx : wfI x) (hn : 0 ≤ now) (hn2 : now < 2305843009213693952) (h1 : now < t) (h2 : t ≤ now + 4096) (hL : L.length ≤ 10000) (hnb : nb < 10000) :
    Calls Tryz.prog 64 #[.pointer (some ⟨b, 0, none⟩), .int .i64 x, .int .i64 t] w fun e w' => e = .returned (.int .i64 0) ∧
      ∃ S', Wl w' base b m (nb + 1) S' now (dropH x L ++ [(x, t)]) ∧ Fm w w' b m S S' := by
  obtain ⟨N, hw, hi⟩ := h.ex
  refine (arm_yes base b m nb _ S N now _ x t w hw hbase hx hn hn2 h1 h2 (h.tkr hn hn2 x) L.length hi.len (by omega) (by omega)).mono ?_
  rintro e w' ⟨rfl, S', hw', hf⟩
  refine ⟨rfl, S', ⟨_, ?_, hi.arm h1 h2⟩, hf⟩
  rw [← setM_arm, List.length_append, drop_len hi.nodup]
  exact hw'
theorem cancel_wl (h : Wl w base b m nb S now L) (hbase : base ≤ w.heap.size) {g c : Nat} {x : Int} (hg : g < w.heap.size) (hc : w.cell? ⟨g, 0, none⟩ = some (.int .i64 x)) (hx : wfI x) (hn : 0 ≤ now) (hn2 : now < 2305843009213693952) (hL : L.length ≤ 10000) :
    Calls Tryz.prog 100 #[.pointer (some ⟨b, 0, none⟩), .slice (some ⟨g, 0, none⟩) 1 c] w fun e w' => e = .returned (.int .i64 (one (tk L x))) ∧
      ∃ S', Wl w' base b m nb S' now (dropH x L) ∧ Fm w w' b m S S' := by
  obtain ⟨N, hw, hi⟩ := h.ex
  refine (cancel_any base b m nb _ S N now _ g c x w hw hbase hg hc hx hn (by omega) (h.tkr hn hn2 x) (fun i => Nat.le_trans (hi.len i) (by omega))).mono ?_
  rintro e w' ⟨rfl, S', hw', hf⟩
  refine ⟨rfl, S', ⟨_, ?_, hi.cut x⟩, hf⟩
  rw [← setM_drop, drop_len hi.nodup]
  exact hw'
end
end Go.Proofs.YtcjanieeepcddaaGreatDoor
