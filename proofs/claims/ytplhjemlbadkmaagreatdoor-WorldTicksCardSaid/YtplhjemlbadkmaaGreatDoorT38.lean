/-
  Walks and laws, one behind the other (part 38).
-/
import Derived.Test.YtplhjemlbadkmaaGreatDoorT33
import Derived.Test.YtplhjemlbadkmaaGreatDoorT37
set_option linter.unusedSimpArgs false
set_option linter.unusedVariables false
/-
  A host's tokens.
-/
namespace Go.Proofs.YtplhjemlbadkmaaGreatDoor
open Go.RowKit

section
variable {lo : Nat} {w : World} {hb tb m nbt : Nat} {seed drawn made tick : Int} {pv ports lv outv : Value} {M : Int → Option En} {k : Nat}
set_option maxRecDepth 100000 in
theorem htokens_any (h : Bk w hb (hostC seed drawn pv ports lv made tb tick outv) 53) (hT : Tb w lo tb m nbt 4 M k) (hk : k ≤ 100000) :
    Calls Tryz.prog 33 #[.pointer (some ⟨hb, 0, none⟩)] w fun e w' => ∃ (v : Value) (ts : List Int), e = .returned v ∧ (∀ t, t ∈ ts ↔ (M t).isSome = true) ∧ ts.Nodup ∧ ts.Pairwise (· ≤ ·) ∧ ts.length ≤ k ∧
      w'.ownsRow (w.heap.size + 1) 129 4 v ts.length (ts.flatMap (encE (fOf M))) ∧ Below w.heap.size w w' := by
  have c6 : w.cell? ⟨hb, 6, none⟩ = some (.pointer (some ⟨tb, 0, none⟩)) := h.c 6
  have AL := Keep.mk (all_any lo tb m nbt 4 M k w hT hk)
  clear h hT hk
  go_enter Tryz.func33, Tryz.ntmps33
  go_wp2_with (first
    | (go_at_call 58
       go_loud (refine AL.out.mono ?_; rintro e w1 ⟨v, ts, rfl, h1, h2, h3, h4, h5, h6⟩)
       have H := Keep.mk (And.intro h1 (And.intro h2 (And.intro h3 (And.intro h4 (And.intro h5 h6)))))
       obtain ⟨Av, nv, cv, rfl⟩ : ∃ A n c, v = .slice A n c := let ⟨A, c, h, _⟩ := own_slice h5; ⟨A, _, c, h⟩
       clear h1 h2 h3 h4 h5 h6)
    | fail)
  go_ret
  exact ⟨_, ts, rfl, H.out⟩
end
end Go.Proofs.YtplhjemlbadkmaaGreatDoor
/-
  A host that has nothing counts none, tells no tokens; a net's packets.
-/
namespace Go.Proofs.YtplhjemlbadkmaaGreatDoor
open Go.RowKit

set_option maxRecDepth 100000 in
theorem netlen_any (nb : Nat) (A : Option Addr) (n c : Nat) (w : World) (h : Bk w nb #[.slice A n c] 61) : Calls Tryz.prog 31 #[.pointer (some ⟨nb, 0, none⟩)] w fun e w' => e = .returned (.int .i64 n) ∧ w' = w := by
  have c0 : w.cell? ⟨nb, 0, none⟩ = some (.slice A n c) := h.c 0
  clear h
  go_enter Tryz.func31, Tryz.ntmps31
  go_wp2_with fail
  go_ret
  exact ⟨rfl, rfl⟩
section
variable {lo : Nat} {w : World} {hb tb m nbt : Nat} {seed : Int} {ports lv : Value} {made tick : Int} {outv : Value} {M : Int → Option En} {k : Nat} {l : List (Nat × Nat)} {R : List SegR}
set_option maxRecDepth 100000 in
/-- A host without connections counts none. -/
theorem hcounts_none {A : Option Addr} {cc : Nat} {drawn : Int} {pv : Value} (h : Bk w hb (hostC seed drawn pv ports (.slice A 0 cc) made tb tick outv) 53) :
    Calls Tryz.prog 32 #[.pointer (some ⟨hb, 0, none⟩)] w fun e w' => e = .returned (.tuple #[.int .i64 0, .int .i64 0, .int .i64 0]) ∧ w' = w := by
  have c4 : w.cell? ⟨hb, 4, none⟩ = some (.slice A 0 cc) := h.c 4
  clear h
  go_enter Tryz.func32, Tryz.ntmps32
  go_wp2_with fail
  go_loopw [5, 6, 16] (fun a b i wr => a = .int .i64 0 ∧ b = .int .i64 0 ∧ i = .int .i64 0 ∧ wr = w) (fun _ _ _ _ => 0)
  case atStart => exact ⟨rfl, rfl, rfl, rfl⟩
  case round =>
    obtain ⟨rfl, rfl, rfl, rfl⟩ := hrel
    go_wp2_with fail
    refine bodyPost_ret (v := .tuple #[.int .i64 0, .int .i64 0, .int .i64 0]) (by simp [results, Tryz.results32, go_sem]) rfl ⟨rfl, rfl⟩
set_option maxRecDepth 100000 in
/-- A host without tokens tells none. -/
theorem htokens_none {drawn : Int} {pv : Value} (h : Bk w hb (hostC seed drawn pv ports lv made tb tick outv) 53) (hT : Tb w lo tb m nbt 4 (fun _ => none) 0) :
    Calls Tryz.prog 33 #[.pointer (some ⟨hb, 0, none⟩)] w fun e w' => ∃ A c, e = .returned (.slice A 0 c) ∧ Below w.heap.size w w' := by
  refine (htokens_any h hT (by omega)).mono ?_
  rintro e w' ⟨v, ts, rfl, _, _, _, h5, h6, h7⟩
  obtain ⟨A, c, rfl, _⟩ := own_slice h6
  exact ⟨A, c, by rw [show ts.length = 0 by omega], h7⟩
end
end Go.Proofs.YtplhjemlbadkmaaGreatDoor
/-
  A world asked: its hosts, its packets, whether it is quiet.
-/
namespace Go.Proofs.YtplhjemlbadkmaaGreatDoor
open Go.RowKit Go.Maps

section
variable {w : World} {wb h0 t0 m0 h1 t1 m1 nb lo0 lo1 : Nat} {a b k0 k1 n0 n1 : Int} {lv dv : Value} {A : Option Addr} {cc : Nat}
set_option maxRecDepth 100000 in
/-- A world on whose net something is isn't quiet. -/
theorem wquiet_busy {n : Nat} (hw : Bk w wb (wldC h0 h1 nb n0 n1 lv dv) 42) (hn : Bk w nb #[.slice A n cc] 61) (hpos : 0 < n) :
    Calls Tryz.prog 9 #[.pointer (some ⟨wb, 0, none⟩)] w fun e w' => e = .returned (.bool false) ∧ w' = w := by
  have c2 : w.cell? ⟨wb, 2, none⟩ = some (.pointer (some ⟨nb, 0, none⟩)) := hw.c 2
  have NL := Keep.mk (netlen_any nb A n cc w hn)
  have hp : (0 : Int) < (n : Int) := by omega
  clear hw hn hpos
  go_enter Tryz.func9, Tryz.ntmps9
  go_wp2_with (first
    | (go_at_call 31
       go_loud (refine NL.out.mono ?_; rintro e X ⟨rfl, hX⟩)
       rw [hX]
       clear hX)
    | fail)
  go_ret
  exact ⟨rfl, rfl⟩
set_option maxRecDepth 100000 in
set_option maxHeartbeats 1600000 in
/-- A world of two hosts that have nothing is quiet. -/
theorem wquiet_idle (hw : Bk w wb (wldC h0 h1 nb n0 n1 lv dv) 42) (hn : Bk w nb #[.slice A 0 cc] 61) (i0 : HIdle lo0 w h0 t0 m0 a k0) (i1 : HIdle lo1 w h1 t1 m1 b k1) :
    Calls Tryz.prog 9 #[.pointer (some ⟨wb, 0, none⟩)] w fun e w' => e = .returned (.bool true) ∧ Below w.heap.size w w' := by
  have c0 : w.cell? ⟨wb, 0, none⟩ = some (.pointer (some ⟨h0, 0, none⟩)) := hw.c 0
  have c1 : w.cell? ⟨wb, 1, none⟩ = some (.pointer (some ⟨h1, 0, none⟩)) := hw.c 1
  have c2 : w.cell? ⟨wb, 2, none⟩ = some (.pointer (some ⟨nb, 0, none⟩)) := hw.c 2
  have NL := Keep.mk (netlen_any nb A 0 cc w hn)
  obtain ⟨p0, b0⟩ := i0.blk
  have CN0 := Keep.mk (hcounts_none b0)
  have TN0 := Keep.mk (htokens_none b0 i0.tab)
  have I1 := Keep.mk i1
  obtain ⟨IX0, IX1⟩ := two_hosts h0 h1
  clear hw hn b0 i0 i1
  go_enter Tryz.func9, Tryz.ntmps9
  go_wp2_with (first
    | (go_at_call 31
       go_loud (refine NL.out.mono ?_; rintro e X ⟨rfl, hX⟩)
       rw [hX]
       clear hX)
    | fail)
  go_loopw [22] (fun i wr => (i = .int .i64 0 ∧ wr = w) ∨ (i = .int .i64 1 ∧ Keep (Below w.heap.size w wr)) ∨ (i = .int .i64 2 ∧ Keep (Below w.heap.size w wr))) (fun i _ => 2 - (intOf i).toNat)
  case atStart => exact .inl ⟨rfl, rfl⟩
  case round =>
    rcases hrel with ⟨rfl, rfl⟩ | ⟨rfl, HQ⟩ | ⟨rfl, HQ⟩
    · go_wp2_with (first
        | (go_at_call 32
           go_loud (refine CN0.out.mono ?_; rintro e X ⟨rfl, hX⟩)
           rw [hX]
           clear hX)
        | (go_at_call 33
           go_loud (refine TN0.out.mono ?_; rintro e w1 ⟨A1, c1', rfl, b1⟩)
           have KB := Keep.mk b1
           clear b1)
        | fail)
      go_roundw
      case rel => exact .inr (.inl ⟨rfl, KB⟩)
      case measure => simp [intOf]
    · have i2 := I1.out.fz (Fz.below HQ.out (Nat.le_refl _)) (by simp) (by simp) (by simp)
      obtain ⟨p1, b1⟩ := i2.blk
      have CN1 := Keep.mk (hcounts_none b1)
      have TN1 := Keep.mk (htokens_none b1 i2.tab)
      clear i2 b1
      go_wp2_with (first
        | (go_at_call 32
           go_loud (refine CN1.out.mono ?_; rintro e X ⟨rfl, hX⟩)
           rw [hX]
           clear hX)
        | (go_at_call 33
           go_loud (refine TN1.out.mono ?_; rintro e w1 ⟨A1, c1', rfl, b1⟩)
           have KB := Keep.mk (HQ.out.trans (b1.mono HQ.out.size))
           clear b1)
        | fail)
      go_roundw
      case rel => exact .inr (.inr ⟨rfl, KB⟩)
      case measure => simp [intOf]
    · go_wp2_with fail
      go_ret
      exact ⟨rfl, HQ.out⟩
end
end Go.Proofs.YtplhjemlbadkmaaGreatDoor
