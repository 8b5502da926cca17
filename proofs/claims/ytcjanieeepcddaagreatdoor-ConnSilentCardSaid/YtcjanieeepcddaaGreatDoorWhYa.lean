/-
  The wheel's Advance, told of the one list.
-/
import Derived.Test.YtcjanieeepcddaaGreatDoorWhX
import Derived.Test.YtcjanieeepcddaaGreatDoorWhY
namespace Go.Proofs.YtcjanieeepcddaaGreatDoor
open Go.RowKit
variable {base b m nb : Nat} {S : Nat → Value} {now : Int} {L : List Due} {w : World}
theorem advance_wl (h : Wl w base b m nb S now L) (hbase : base ≤ w.heap.size) (tick : Int) (hn : 0 ≤ now) (hn2 : now < 1152921504606846976) (hL : L.length ≤ 10000) (hwf : ∀ d ∈ L, wfI d.1) :
    Calls Tryz.prog 32 #[.pointer (some ⟨b, 0, none⟩), .int .i64 tick] w fun e w' => ∃ (v : Value) (S' : Nat → Value) (L' O : List Due), e = .returned v ∧ Wl w' base b m nb S' (max now (min tick (now + 10000))) L' ∧
      Beside w' base b m S' v O.length (O.flatMap dueC) ∧ (∀ k, v.ownBlock = some k → w.heap.size ≤ k) ∧ Fm w w' b m S S' ∧ Adv (max now (min tick (now + 10000))) L L' O := by
  obtain ⟨N, hw, hi⟩ := h.ex
  refine (advance_go base b m nb S N now L tick w hw hi hbase hn hn2 (by omega) hwf).mono ?_
  rintro e w' ⟨v, rfl, ⟨S', N', L', O, h1, h2, h3, h4, h5, h6⟩⟩
  exact ⟨v, S', L', O, rfl, ⟨N', h1, h2⟩, h3, h4, h5, h6⟩
end Go.Proofs.YtcjanieeepcddaaGreatDoor
