/-
  Walks and laws, one behind the other (part 6).
-/
import Derived.Test.YtkehpgjflofdjaaGreatDoorHNil4
import Derived.Test.YtkehpgjflofdjaaGreatDoorHNil5
set_option linter.unusedSimpArgs false
set_option linter.unusedVariables false
/-
  A segment that came in, opened.
-/
namespace Go.Proofs.YtkehpgjflofdjaaGreatDoor
open Go.RowKit Go.ChangeShapes Go.WideShapes Go.ChangeAt Go.Deep

theorem slice_shape {H : Type} {enc : TypeId × Value → H} {P : Program} {w : World} {base : Nat} {spare : Nat → Bool} {held : Bool} {t e : TypeId} {fuel : Nat} {c : Value} {x : DataW H × List MemPlace} (ht : P.underlying t = some (.slice e)) (h : DataW.trod enc P w base spare held fuel t [c] = some x) : ∃ A n cc, c = .slice A n cc := by
  rcases open_slice ht h with ⟨e, _⟩ | ⟨a, len, cap, _, _, _, _, e, _⟩
  · exact ⟨none, 0, 0, by simpa using e⟩
  · exact ⟨some a, len, cap, by simpa using e⟩
set_option maxRecDepth 100000 in
set_option maxHeartbeats 1600000 in
theorem arg_seg {H : Type} {enc : TypeId × Value → H} {w : World} {base b0 : Nat} {spare : Nat → Bool} {held : Bool} {r : Reach} {v : Value} {d : DataW H} {p : List MemPlace}
    (hv : Value.okWide Tryz.prog w r b0 26 v) (h : DataW.Trod enc Tryz.prog w base spare held 26 v d p) :
    ∃ (a0 a1 a2 a3 a4 a5 : Int) (b6 b7 b8 b9 : Bool) (a10 : Int) (oA : Option Addr) (on oc : Nat) (dA : Option Addr) (dn dc : Nat), v = .agg (segA a0 a1 a2 a3 a4 a5 b6 b7 b8 b9 a10 oA on oc dA dn dc) := by
  simp only [Value.okWide, Tryz.underlying26] at hv
  obtain ⟨cs, rfl, _, _⟩ := hv
  obtain ⟨fuel, hf⟩ := h
  obtain ⟨xs, k, _, _, hl, hx, hel⟩ := DataW.trod_struct Tryz.underlying26 hf
  have hc : Tryz.prog.cellsOf 26 = 13 := by kernel_rfl
  have ci : Tryz.prog.cellsOf 3 = 1 := by kernel_rfl
  have cu : Tryz.prog.cellsOf 22 = 1 := by kernel_rfl
  have cb : Tryz.prog.cellsOf 4 = 1 := by kernel_rfl
  have co : Tryz.prog.cellsOf 23 = 1 := by kernel_rfl
  have cd : Tryz.prog.cellsOf 24 = 1 := by kernel_rfl
  rw [hc] at hl
  obtain ⟨cs⟩ := cs
  match cs, hl with
  | [c0, c1, c2, c3, c4, c5, c6, c7, c8, c9, c10, c11, c12], _ =>
    match xs, hx with
    | [y0, y1, y2, y3, y4, y5, y6, y7, y8, y9, y10, y11, y12], _ =>
      have g0 := hel 0 _ rfl
      have g1 := hel 1 _ rfl
      have g2 := hel 2 _ rfl
      have g3 := hel 3 _ rfl
      have g4 := hel 4 _ rfl
      have g5 := hel 5 _ rfl
      have g6 := hel 6 _ rfl
      have g7 := hel 7 _ rfl
      have g8 := hel 8 _ rfl
      have g9 := hel 9 _ rfl
      have g10 := hel 10 _ rfl
      have g11 := hel 11 _ rfl
      have g12 := hel 12 _ rfl
      simp [ci, cu, cb, co, cd, Value.cells] at g0 g1 g2 g3 g4 g5 g6 g7 g8 g9 g10 g11 g12
      obtain ⟨n0, e0, _, _⟩ := DataW.trod_int Tryz.underlying3 g0
      obtain ⟨n1, e1, _, _⟩ := DataW.trod_int Tryz.underlying3 g1
      obtain ⟨n2, e2, _, _⟩ := DataW.trod_int Tryz.underlying3 g2
      obtain ⟨n3, e3, _, _⟩ := DataW.trod_int Tryz.underlying3 g3
      obtain ⟨n4, e4, _, _⟩ := DataW.trod_int Tryz.underlying22 g4
      obtain ⟨n5, e5, _, _⟩ := DataW.trod_int Tryz.underlying22 g5
      obtain ⟨b6, e6, _⟩ := DataW.trod_bool Tryz.underlying4 g6
      obtain ⟨b7, e7, _⟩ := DataW.trod_bool Tryz.underlying4 g7
      obtain ⟨b8, e8, _⟩ := DataW.trod_bool Tryz.underlying4 g8
      obtain ⟨b9, e9, _⟩ := DataW.trod_bool Tryz.underlying4 g9
      obtain ⟨n10, e10, _, _⟩ := DataW.trod_int Tryz.underlying3 g10
      obtain ⟨oA, on, oc, e11⟩ := slice_shape Tryz.underlying23 g11
      obtain ⟨dA, dn, dc, e12⟩ := slice_shape Tryz.underlying24 g12
      simp at e0 e1 e2 e3 e4 e5 e6 e7 e8 e9 e10
      subst e0 e1 e2 e3 e4 e5 e6 e7 e8 e9 e10 e11 e12
      exact ⟨n0, n1, n2, n3, n4, n5, b6, b7, b8, b9, n10, oA, on, oc, dA, dn, dc, rfl⟩
end Go.Proofs.YtkehpgjflofdjaaGreatDoor
