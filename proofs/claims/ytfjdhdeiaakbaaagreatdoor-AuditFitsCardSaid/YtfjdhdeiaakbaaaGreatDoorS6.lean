/-
  Walks and laws, one behind the other (part 6).
-/
import Derived.Test.YtfjdhdeiaakbaaaGreatDoorS4
import Derived.Test.YtfjdhdeiaakbaaaGreatDoorS5
set_option linter.unusedSimpArgs false
set_option linter.unusedVariables false
/-
  Arguments of layers 3 to 5, opened: pieces, integers, arrays of integers.
-/
namespace Go.Proofs.YtfjdhdeiaakbaaaGreatDoor
open Go.RowKit Go.ChangeShapes Go.WideShapes Go.ChangeAt Go.Deep

theorem dec_piece {H : Type} {enc : TypeId × Value → H} {P : Program} {w : World} {base : Nat} {spare : Nat → Bool} {held : Bool} {t e : TypeId} (ht : P.underlying t = some (.slice e)) (he : P.underlying e = some (.int .u8)) (hc : P.cellsOf e = 1)
    (n : Nat) (cs : List Value) (y : DataW H × List MemPlace) (h : DataW.trod enc P w base spare held n t cs = some y) : ∃ x : Pc, cs = encP x ∧ (Arg w 1 encB x.A x.n x.c x.l ∧ ∀ z ∈ x.l, 0 ≤ z ∧ z ≤ 255) := by
  have key : ∃ A m c, cs = [.slice A m c] := by
    rcases open_ints ht he hc h with ⟨rfl, _⟩ | ⟨x, m, c, zs, rfl, _⟩
    · exact ⟨none, 0, 0, rfl⟩
    · exact ⟨some x, m, c, rfl⟩
  obtain ⟨A, m, c, rfl⟩ := key
  obtain ⟨l, h1, h2⟩ := arg_bytes (H := H) (enc := enc) (base := base) (spare := spare) (held := held) (a := A) (len := m) (cap := c) (d := y.1) (p := y.2) ht he hc ⟨n, h⟩
  exact ⟨⟨A, m, c, l⟩, rfl, h1, h2⟩
theorem arg_pieces {H : Type} {enc : TypeId × Value → H} {P : Program} {w : World} {base : Nat} {spare : Nat → Bool} {held : Bool} {t e q : TypeId} {a : Option Addr} {len cap : Nat} {d : DataW H} {p : List MemPlace}
    (ht : P.underlying t = some (.slice e)) (he : P.underlying e = some (.slice q)) (hq : P.underlying q = some (.int .u8)) (ce : P.cellsOf e = 1) (cq : P.cellsOf q = 1) (h : DataW.Trod enc P w base spare held t (.slice a len cap) d p) :
    ∃ l : List Pc, Arg w 1 encP a len cap l ∧ ∀ z ∈ l, (Arg w 1 encB z.A z.n z.c z.l ∧ ∀ y ∈ z.l, 0 ≤ y ∧ y ≤ 255) :=
  arg_rows encP _ 1 (by decide) ht ce encP_length (fun n cs y hy => dec_piece he hq cq n cs y hy) h
theorem glue_bytes {w : World} {l : List Pc} (h : ∀ z ∈ l, (Arg w 1 encB z.A z.n z.c z.l ∧ ∀ y ∈ z.l, 0 ≤ y ∧ y ≤ 255)) : ∀ y ∈ glue l, 0 ≤ y ∧ y ≤ 255 := fun y hy => by
  obtain ⟨z, hz, hy'⟩ := List.mem_flatMap.1 hy
  exact (h z hz).2 y hy'
end Go.Proofs.YtfjdhdeiaakbaaaGreatDoor
/-
  A slice of a table's entries that came in, opened; two slices of bytes and two truths.
-/
namespace Go.Proofs.YtfjdhdeiaakbaaaGreatDoor
open Go.RowKit Go.ChangeShapes Go.WideShapes Go.ChangeAt Go.Deep

/-- An entry of a table as it is told. -/
structure TkE where
  t : Int
  o : Int
  l : Bool
  u : Int
def tkC (e : TkE) : List Value := [.int .u32 e.t, .int .i64 e.o, .bool e.l, .int .i64 e.u]
theorem tkC_length (e : TkE) : (tkC e).length = 4 := rfl
def wfTk (e : TkE) : Prop := (Lit.int .u32 e.t).wf = true ∧ (Lit.int .i64 e.o).wf = true ∧ (Lit.int .i64 e.u).wf = true
set_option maxRecDepth 100000 in
set_option maxHeartbeats 1600000 in
theorem dec_tok {H : Type} {enc : TypeId × Value → H} {w : World} {base : Nat} {spare : Nat → Bool} {held : Bool} (n : Nat) (cs : List Value) (y : DataW H × List MemPlace)
    (h : DataW.trod enc Tryz.prog w base spare held n 26 cs = some y) : ∃ x : TkE, cs = tkC x ∧ wfTk x := by
  obtain ⟨xs, k, _, _, hl, hx, hf⟩ := DataW.trod_struct Tryz.underlying26 h
  have hc : Tryz.prog.cellsOf 26 = 4 := by kernel_rfl
  have h3 : Tryz.prog.cellsOf 3 = 1 := by kernel_rfl
  have h4 : Tryz.prog.cellsOf 24 = 1 := by kernel_rfl
  have h5 : Tryz.prog.cellsOf 4 = 1 := by kernel_rfl
  rw [hc] at hl
  match cs, hl with
  | [c0, c1, c2, c3], _ =>
    match xs, hx with
    | [y0, y1, y2, y3], _ =>
      have g0 := hf 0 _ rfl
      have g1 := hf 1 _ rfl
      have g2 := hf 2 _ rfl
      have g3 := hf 3 _ rfl
      simp [h3, h4, h5] at g0 g1 g2 g3
      obtain ⟨n0, e0, _, w0⟩ := DataW.trod_int Tryz.underlying24 g0
      obtain ⟨n1, e1, _, w1⟩ := DataW.trod_int Tryz.underlying3 g1
      obtain ⟨b2, e2, _⟩ := DataW.trod_bool Tryz.underlying4 g2
      obtain ⟨n3, e3, _, w3⟩ := DataW.trod_int Tryz.underlying3 g3
      simp at e0 e1 e2 e3
      subst e0 e1 e2 e3
      exact ⟨⟨n0, n1, b2, n3⟩, rfl, w0, w1, w3⟩
set_option maxRecDepth 100000 in
set_option maxHeartbeats 1600000 in
theorem arg_toks {H : Type} {enc : TypeId × Value → H} {w : World} {base : Nat} {spare : Nat → Bool} {held : Bool} {a : Option Addr} {len cap : Nat} {d : DataW H} {p : List MemPlace}
    (h : DataW.Trod enc Tryz.prog w base spare held 22 (.slice a len cap) d p) : ∃ l : List TkE, Arg w 4 tkC a len cap l ∧ ∀ z ∈ l, wfTk z :=
  arg_rows tkC wfTk 4 (by decide) Tryz.underlying22 (by kernel_rfl) tkC_length dec_tok h
theorem shape2 {H : Type} {enc : TypeId × Value → H} {P : Program} {w : World} {base : Nat} {spare : Nat → Bool} {held : Bool} {t e : TypeId} {fuel : Nat} {c : Value} {x : DataW H × List MemPlace} (ht : P.underlying t = some (.slice e)) (h : DataW.trod enc P w base spare held fuel t [c] = some x) : ∃ A n cc, c = .slice A n cc := by
  rcases open_slice ht h with ⟨e, _⟩ | ⟨a, len, cap, _, _, _, _, e, _⟩
  · exact ⟨none, 0, 0, by simpa using e⟩
  · exact ⟨some a, len, cap, by simpa using e⟩
set_option maxRecDepth 100000 in
set_option maxHeartbeats 1600000 in
/-- What two streams are made of. -/
theorem arg_pair {H : Type} {enc : TypeId × Value → H} {w : World} {base b0 : Nat} {spare : Nat → Bool} {held : Bool} {r : Reach} {v : Value} {d : DataW H} {p : List MemPlace}
    (hv : Value.okWide Tryz.prog w r b0 34 v) (h : DataW.Trod enc Tryz.prog w base spare held 34 v d p) :
    ∃ (A1 : Option Addr) (n1 c1 : Nat) (l1 : List Int) (A2 : Option Addr) (n2 c2 : Nat) (l2 : List Int) (b3 b4 : Bool), v = .agg #[.slice A1 n1 c1, .slice A2 n2 c2, .bool b3, .bool b4] ∧ Arg w 1 encB A1 n1 c1 l1 ∧ Arg w 1 encB A2 n2 c2 l2 := by
  simp only [Value.okWide, Tryz.underlying34] at hv
  obtain ⟨cs, rfl, _, _⟩ := hv
  obtain ⟨fuel, hf⟩ := h
  obtain ⟨xs, k, _, _, hl, hx, hel⟩ := DataW.trod_struct Tryz.underlying34 hf
  have hc : Tryz.prog.cellsOf 34 = 4 := by kernel_rfl
  have cb : Tryz.prog.cellsOf 4 = 1 := by kernel_rfl
  have cd : Tryz.prog.cellsOf 32 = 1 := by kernel_rfl
  rw [hc] at hl
  obtain ⟨cs⟩ := cs
  match cs, hl with
  | [c0, c1, c2, c3], _ =>
    match xs, hx with
    | [y0, y1, y2, y3], _ =>
      have g0 := hel 0 _ rfl
      have g1 := hel 1 _ rfl
      have g2 := hel 2 _ rfl
      have g3 := hel 3 _ rfl
      simp [cb, cd, Value.cells] at g0 g1 g2 g3
      obtain ⟨A1, n1, k1, rfl⟩ := shape2 Tryz.underlying32 g0
      obtain ⟨A2, n2, k2, rfl⟩ := shape2 Tryz.underlying32 g1
      obtain ⟨b2, e2, _⟩ := DataW.trod_bool Tryz.underlying4 g2
      obtain ⟨b3, e3, _⟩ := DataW.trod_bool Tryz.underlying4 g3
      simp at e2 e3
      subst e2 e3
      obtain ⟨l1, ha1, _⟩ := arg_bytes (H := H) (enc := enc) (base := base) (spare := spare) (held := held) (a := A1) (len := n1) (cap := k1) (d := y0.1) (p := y0.2) Tryz.underlying32 Tryz.underlying5 (by kernel_rfl) ⟨_, g0⟩
      obtain ⟨l2, ha2, _⟩ := arg_bytes (H := H) (enc := enc) (base := base) (spare := spare) (held := held) (a := A2) (len := n2) (cap := k2) (d := y1.1) (p := y1.2) Tryz.underlying32 Tryz.underlying5 (by kernel_rfl) ⟨_, g1⟩
      exact ⟨A1, n1, k1, l1, A2, n2, k2, l2, b2, b3, rfl, ha1, ha2⟩
end Go.Proofs.YtfjdhdeiaakbaaaGreatDoor
/-
  Two slices of bytes and two truths that came in, opened.
-/
namespace Go.Proofs.YtfjdhdeiaakbaaaGreatDoor
open Go.RowKit Go.ChangeShapes Go.WideShapes Go.ChangeAt Go.Deep

set_option maxRecDepth 100000 in
set_option maxHeartbeats 1600000 in
/-- What two streams are made of. -/
theorem arg_pair2 {H : Type} {enc : TypeId × Value → H} {w : World} {base b0 : Nat} {spare : Nat → Bool} {held : Bool} {r : Reach} {v : Value} {d : DataW H} {p : List MemPlace}
    (hv : Value.okWide Tryz.prog w r b0 34 v) (h : DataW.Trod enc Tryz.prog w base spare held 34 v d p) :
    ∃ (A1 : Option Addr) (n1 c1 : Nat) (l1 : List Int) (A2 : Option Addr) (n2 c2 : Nat) (l2 : List Int) (b3 b4 : Bool), v = .agg #[.slice A1 n1 c1, .slice A2 n2 c2, .bool b3, .bool b4] ∧ Arg w 1 encB A1 n1 c1 l1 ∧ Arg w 1 encB A2 n2 c2 l2 ∧ (∀ z ∈ l1, 0 ≤ z ∧ z ≤ 255) ∧ (∀ z ∈ l2, 0 ≤ z ∧ z ≤ 255) := by
  simp only [Value.okWide, Tryz.underlying34] at hv
  obtain ⟨cs, rfl, _, _⟩ := hv
  obtain ⟨fuel, hf⟩ := h
  obtain ⟨xs, k, _, _, hl, hx, hel⟩ := DataW.trod_struct Tryz.underlying34 hf
  have hc : Tryz.prog.cellsOf 34 = 4 := by kernel_rfl
  have cb : Tryz.prog.cellsOf 4 = 1 := by kernel_rfl
  have cd : Tryz.prog.cellsOf 32 = 1 := by kernel_rfl
  rw [hc] at hl
  obtain ⟨cs⟩ := cs
  match cs, hl with
  | [c0, c1, c2, c3], _ =>
    match xs, hx with
    | [y0, y1, y2, y3], _ =>
      have g0 := hel 0 _ rfl
      have g1 := hel 1 _ rfl
      have g2 := hel 2 _ rfl
      have g3 := hel 3 _ rfl
      simp [cb, cd, Value.cells] at g0 g1 g2 g3
      obtain ⟨A1, n1, k1, rfl⟩ := shape2 Tryz.underlying32 g0
      obtain ⟨A2, n2, k2, rfl⟩ := shape2 Tryz.underlying32 g1
      obtain ⟨b2, e2, _⟩ := DataW.trod_bool Tryz.underlying4 g2
      obtain ⟨b3, e3, _⟩ := DataW.trod_bool Tryz.underlying4 g3
      simp at e2 e3
      subst e2 e3
      obtain ⟨l1, ha1, r1⟩ := arg_bytes (H := H) (enc := enc) (base := base) (spare := spare) (held := held) (a := A1) (len := n1) (cap := k1) (d := y0.1) (p := y0.2) Tryz.underlying32 Tryz.underlying5 (by kernel_rfl) ⟨_, g0⟩
      obtain ⟨l2, ha2, r2⟩ := arg_bytes (H := H) (enc := enc) (base := base) (spare := spare) (held := held) (a := A2) (len := n2) (cap := k2) (d := y1.1) (p := y1.2) Tryz.underlying32 Tryz.underlying5 (by kernel_rfl) ⟨_, g1⟩
      exact ⟨A1, n1, k1, l1, A2, n2, k2, l2, b2, b3, rfl, ha1, ha2, r1, r2⟩
end Go.Proofs.YtfjdhdeiaakbaaaGreatDoor
