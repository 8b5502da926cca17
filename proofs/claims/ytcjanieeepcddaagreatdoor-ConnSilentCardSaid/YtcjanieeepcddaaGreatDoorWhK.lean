/-
  The contracts of New, Now, Len and Cancel (whatever the map says).
-/
import Derived.Test.YtcjanieeepcddaaGreatDoorWhJ
namespace Go.Proofs.YtcjanieeepcddaaGreatDoor
open Go.RowKit Go.Maps

/-- Is one armed? -/
def one : Option Int → Nat
  | none => 0
  | some _ => 1
def cutN (now : Int) (M : Int → Option Int) (h : Int) (N : Nat → List Due) : Nat → List Due :=
  match M h with
  | none => N
  | some t => put N (pl now t) (dropH h (N (pl now t)))
theorem setM_none_self {M : Int → Option Int} {h : Int} (hM : M h = none) : setM M h none = M := by
  funext x
  by_cases e : x = h
  · subst e; rw [setM_same, hM]
  · rw [setM_other M none e]
theorem cancel_any (base b m nb k : Nat) (S : Nat → Value) (N : Nat → List Due) (now : Int) (M : Int → Option Int) (g c : Nat) (h : Int) (w : World) (hW : Whl w base b m nb S N now M k) (hbase : base ≤ w.heap.size) (hg : g < w.heap.size) (hc : w.cell? ⟨g, 0, none⟩ = some (.int .i64 h)) (hh : wfI h)
    (hn : 0 ≤ now) (hn2 : now < 4611686018427387904) (hT : ∀ t, M h = some t → 0 ≤ t ∧ t < 4611686018427387904) (hK : ∀ i, (N i).length ≤ 1000000) :
    Calls Tryz.prog 100 #[.pointer (some ⟨b, 0, none⟩), .slice (some ⟨g, 0, none⟩) 1 c] w fun e w' => e = .returned (.int .i64 (one (M h))) ∧
      ∃ S', Whl w' base b m nb S' (cutN now M h N) now (setM M h none) (k - one (M h)) ∧ Fm w w' b m S S' := by
  cases hM : M h with
  | none =>
    refine (cancel_miss base b m nb k S N now M g c h w hW hg hc hh hM).mono ?_
    rintro e w' ⟨rfl, hb⟩
    refine ⟨rfl, S, ?_, Fm.quiet hb b m S⟩
    rw [setM_none_self hM, show cutN now M h N = N by unfold cutN; rw [hM]]
    exact hW.below hb
  | some t =>
    obtain ⟨h1, h2⟩ := hT t hM
    refine (cancel_hit base b m nb k S N now M g c h t w hW hbase hg hc hh hM hn hn2 h1 h2 hK).mono ?_
    rintro e w' ⟨rfl, S', hw, hf⟩
    refine ⟨rfl, S', ?_, hf⟩
    rw [show cutN now M h N = put N (pl now t) (dropH h (N (pl now t))) by unfold cutN; rw [hM]]
    exact hw

theorem now_any (base b m : Nat) (S : Nat → Value) (N : Nat → List Due) (now : Int) (w : World) (hW : WSt w base b m S N now) :
    Calls Tryz.prog 31 #[.pointer (some ⟨b, 0, none⟩)] w fun e w' => e = .returned (.int .i64 now) ∧ w' = w := by
  have hc := hW.tickC
  clear hW
  go_enter Tryz.func31, Tryz.ntmps31
  go_wp2_with fail
  go_ret
  exact ⟨rfl, rfl⟩

theorem len_any (base b m nb k : Nat) (S : Nat → Value) (N : Nat → List Due) (now : Int) (M : Int → Option Int) (w : World) (hW : Whl w base b m nb S N now M k) :
    Calls Tryz.prog 65 #[.pointer (some ⟨b, 0, none⟩)] w fun e w' => e = .returned (.int .i64 k) ∧ w' = w := by
  have hc := hW.st.mapC
  have hl : ∀ ty, (Builtin.len_ #[116] ty #[.map (some m)]).run Tryz.prog w = .ok (.int .i64 k) w := fun ty => by
    obtain ⟨D, h, _, _, rfl⟩ := hW.mp
    exact h.len Tryz.underlying116 ty
  clear hW
  go_enter Tryz.func65, Tryz.ntmps65
  go_wp2_with fail
  go_ret
  exact ⟨rfl, rfl⟩

theorem whArr_new (now : Int) (m : Nat) : whArr (fun _ => .slice none 0 0) now m = ((List.replicate 49 (Value.slice none 0 0)) ++ [Value.int .i64 now, Value.map (some m)]).toArray := by
  unfold whArr
  congr 2
theorem whl_new (now : Int) (w : World) : Whl ((w.alloc (.map #[] 0)).alloc (.cells (whArr (fun _ => .slice none 0 0) now w.heap.size) 118)) w.heap.size (w.heap.size + 1) w.heap.size 0 (fun _ => .slice none 0 0) (fun _ => []) now (fun _ => none) 0 where
  st := {
    hb := by omega
    hm := Nat.le_refl _
    ne := by omega
    blk := by rw [show w.heap.size + 1 = (w.alloc (.map #[] 0)).heap.size by simp]; exact heap_alloc_new _ _
    mp := by simp; omega
    rows := fun i _ => World.ownsRow_nil _ _ _ _
    apart := fun i j _ _ _ => .inl ⟨rfl, rfl⟩
    off := fun i _ => by simp [Value.ownBlock] }
  mp := (Mp.made w).alloc _

set_option maxHeartbeats 1600000 in
theorem new_any (tick : Int) (w : World) :
    Calls Tryz.prog 69 #[.int .i64 tick] w fun e w' => e = .returned (.pointer (some ⟨w.heap.size + 1, 0, none⟩)) ∧
      Whl w' w.heap.size (w.heap.size + 1) w.heap.size 0 (fun _ => .slice none 0 0) (fun _ => []) (min (max tick 0) 1099511627776) (fun _ => none) 0 ∧ Below w.heap.size w w' := by
  have hmk : (Instr.makeMap 116 none).run Tryz.prog w = .ok (.map (some w.heap.size)) (w.alloc (.map #[] 0)) := rfl
  obtain ⟨now, hnow⟩ : ∃ now, min (max tick 0) 1099511627776 = now := ⟨_, rfl⟩
  have HN := Keep.mk hnow
  have hE : ∃ arr : Array Value, arr = whArr (fun _ => .slice none 0 0) now w.heap.size := ⟨_, rfl⟩
  have HE := (whl_new now w)
  have HB : Keep (Below w.heap.size w ((w.alloc (.map #[] 0)).alloc (.cells (whArr (fun _ => .slice none 0 0) now w.heap.size) 118))) := ⟨((Below.refl _ w).alloc (Nat.le_refl _) _).alloc (by simp) _⟩
  rw [whArr_new] at HE HB
  rw [hnow]
  have HE := Keep.mk HE
  clear hnow
  rcases Int.lt_or_le tick 0 with h1 | h1
  · obtain rfl : now = 0 := by have := HN.out; omega
    go_enter Tryz.func69, Tryz.ntmps69
    go_wp2_with fail
    all_goals go_ret
    exact ⟨rfl, HE.out, HB.out⟩
  · rcases Int.lt_or_le 1099511627776 tick with h2 | h2
    · obtain rfl : now = 1099511627776 := by have := HN.out; omega
      go_enter Tryz.func69, Tryz.ntmps69
      go_wp2_with fail
      all_goals go_ret
      exact ⟨rfl, HE.out, HB.out⟩
    · obtain rfl : now = tick := by have := HN.out; omega
      go_enter Tryz.func69, Tryz.ntmps69
      go_wp2_with fail
      all_goals go_ret
      exact ⟨rfl, HE.out, HB.out⟩
end Go.Proofs.YtcjanieeepcddaaGreatDoor
