/-
  Walks and laws, one behind the other (part 2).
-/
import Derived.Below
import Derived.Calls
import Derived.Deep.AppendLies
import Derived.Deep.Draws
import Derived.Laws.AppendOwn
import Derived.Laws.AppendOwnNone
import Derived.Lib.Hide
import Derived.Maps.AppendAt
import Derived.OneCell
import Derived.OwnWalk
import Derived.RegionTactic
set_option linter.unusedSimpArgs false
set_option linter.unusedVariables false
/-
  Words for memory that the seat's texts share: a slice that reads as a list, its keeping through new blocks, stores and draws. No program in sight.
-/
namespace Go.Proofs.YtjpokeakemlffaaGreatDoor
open Go.RowKit
theorem below_drewN {B : Nat} {a w : World} (h : Below B a w) (n : Nat) : Below B a (w.drewN n) := ⟨h.os, h.tape, h.output, h.size, h.block⟩
theorem ret_bool {a b : Bool} (h : a = b) : Ending.returned (.bool a) = .returned (.bool b) := by rw [h]
def Rd {α : Type} (w : World) (B : Nat) (sz : Nat) (enc : α → List Value) (A : Option Addr) (l : List α) : Prop :=
  l ≠ [] → ∃ b off, A = some ⟨b, off, none⟩ ∧ b < B ∧ ∀ i x, l[i]? = some x → ∀ j v, (enc x)[j]? = some v → w.cell? ⟨b, off + i * sz + j, none⟩ = some v
section
variable {α : Type} {w w' : World} {B B' sz : Nat} {enc : α → List Value} {A : Option Addr} {l : List α}
theorem Rd.nil : Rd w B sz enc A ([] : List α) := fun h => absurd rfl h
theorem Rd.keep (h : Rd w B sz enc A l) (hk : ∀ b o, b < B → w'.cell? ⟨b, o, none⟩ = w.cell? ⟨b, o, none⟩) : Rd w' B sz enc A l := fun hl => by
  obtain ⟨b, off, e, hb, hc⟩ := h hl
  exact ⟨b, off, e, hb, fun i x hx j v hv => (hk b _ hb).trans (hc i x hx j v hv)⟩
theorem Rd.more (h : Rd w B sz enc A l) (hB : B ≤ B') : Rd w B' sz enc A l := fun hl => by
  obtain ⟨b, off, e, hb, hc⟩ := h hl
  exact ⟨b, off, e, by omega, hc⟩
theorem Rd.below (h : Rd w B sz enc A l) (hb : Below B w w') : Rd w' B sz enc A l := h.keep fun b o hlt => hb.cell (p := ⟨b, o, none⟩) hlt
theorem Rd.drew (h : Rd w B sz enc A l) : Rd w.drew B sz enc A l := h
theorem Rd.drewN (h : Rd w B sz enc A l) (k : Nat) : Rd (w.drewN k) B sz enc A l := h
theorem Rd.alloc (h : Rd w B sz enc A l) (hB : B ≤ w.heap.size) (o : Obj) : Rd (w.alloc o) B sz enc A l :=
  h.keep fun b o' hlt => World.cell?_alloc_lt w o ⟨b, o', none⟩ (by show b < w.heap.size; omega)
theorem Rd.setCell (h : Rd w B sz enc A l) {p : Addr} (hp : B ≤ p.block) (u : Value) : Rd (w.setCell p u) B sz enc A l :=
  h.keep fun b o hlt => World.cell?_of_block (Below.heap_setCell w p u b (by omega))
theorem Rd.grown (h : Rd w B sz enc A l) {row : Option Nat} (hg : w.grownBy w' row) (hB : B ≤ w.heap.size) (hr : ∀ g, row = some g → B ≤ g) : Rd w' B sz enc A l :=
  h.keep fun b o hlt => World.cell?_of_block (hg.block b (by omega) (fun e => by have := hr b e.symm; omega))
theorem Rd.drop (h : Rd w B sz enc A l) {k cap : Nat} (hk : k ≤ l.length) (hc : l.length ≤ cap) : Rd w B sz enc (if cap = k then A else A.map (·.add (k * sz))) (l.drop k) := fun hl => by
  have hlt : k < l.length := by
    rcases Nat.lt_or_ge k l.length with h' | h'
    · exact h'
    · exact absurd (List.drop_eq_nil_of_le h') hl
  have hl0 : l ≠ [] := by intro e; subst e; simp at hlt
  obtain ⟨b, off, rfl, hb, hcc⟩ := h hl0
  rw [if_neg (by omega)]
  refine ⟨b, off + k * sz, by simp [Addr.add], hb, fun i x hx j v hv => ?_⟩
  have := hcc (k + i) x (by rw [List.getElem?_drop] at hx; exact hx) j v hv
  rw [← this]
  congr 2
  rw [Nat.add_mul]; omega
theorem Rd.take (h : Rd w B sz enc A l) (k : Nat) : Rd w B sz enc A (l.take k) := fun hl => by
  have hl0 : l ≠ [] := by intro e; subst e; simp at hl
  obtain ⟨b, off, e, hb, hc⟩ := h hl0
  refine ⟨b, off, e, hb, fun i x hx j v hv => hc i x ?_ j v hv⟩
  rw [List.getElem?_take] at hx
  split at hx
  · exact hx
  · cases hx
theorem flat_at (henc : ∀ x : α, (enc x).length = sz) : ∀ (l : List α) (i : Nat) (x : α), l[i]? = some x → ∀ j v, (enc x)[j]? = some v → (l.flatMap enc)[i * sz + j]? = some v
  | [], _, _, h, _, _, _ => by simp at h
  | y :: r, 0, x, h, j, v, hv => by
    have : y = x := by simpa using h
    subst this
    have hj : j < (enc y).length := (List.getElem?_eq_some_iff.1 hv).1
    rw [List.flatMap_cons, Nat.zero_mul, Nat.zero_add, List.getElem?_append_left hj]
    exact hv
  | y :: r, i + 1, x, h, j, v, hv => by
    rw [List.flatMap_cons, List.getElem?_append_right (by rw [henc y, Nat.add_mul]; omega), henc y]
    have := flat_at henc r i x (by simpa using h) j v hv
    rw [← this]
    congr 1
    rw [Nat.add_mul]; omega
theorem Rd.of_own (henc : ∀ x : α, (enc x).length = sz) (hsz : 0 < sz) {base n c : Nat} {e : TypeId} (h : w.ownsRow base e sz (.slice A n c) n (l.flatMap enc)) : Rd w w.heap.size sz enc A l := fun hl => by
  rcases h.2 with ⟨hv, hn⟩ | ⟨g, cap, cur, hv, hb, hh, hnc, hcm, hcs, ht⟩
  · have h1 := h.1
    subst hn
    cases l with
    | nil => exact absurd rfl hl
    | cons x r =>
      rw [List.flatMap_cons, List.length_append, henc] at h1
      omega
  · injection hv with hA
    subst hA
    refine ⟨g, 0, rfl, lt_of_block hh, fun i x hx j v hv => ?_⟩
    have hf := flat_at henc l i x hx j v hv
    rw [← ht, List.getElem?_take] at hf
    rw [cell_of_row w g _ cur e (0, 0) hh, Nat.zero_add]
    split at hf
    · simpa using hf
    · cases hf
theorem own_slice {base n : Nat} {e : TypeId} {v : Value} {xs : List Value} (h : w.ownsRow base e sz v n xs) : ∃ A c, v = .slice A n c ∧ n ≤ c := by
  rcases h.2 with ⟨rfl, rfl⟩ | ⟨g, cap, cur, rfl, _, _, hc, _⟩
  · exact ⟨_, _, rfl, Nat.le_refl _⟩
  · exact ⟨_, _, rfl, hc⟩
theorem flat_length (henc : ∀ x : α, (enc x).length = sz) : ∀ l : List α, (l.flatMap enc).length = l.length * sz
  | [] => by simp
  | x :: r => by rw [List.flatMap_cons, List.length_append, henc, flat_length henc r, List.length_cons, Nat.add_mul]; omega
theorem grown_of_below (h : Below w.heap.size w w') (row : Option Nat) : w.grownBy w' row := ⟨h.os, h.tape, h.output, h.size, fun k hk _ => h.block k hk⟩
theorem own_below {base n : Nat} {e : TypeId} {v : Value} {xs : List Value} (h : w.ownsRow base e sz v n xs) (hb : Below w.heap.size w w') : w'.ownsRow base e sz v n xs :=
  h.kept (grown_of_below hb none) (by cases hv : v.ownBlock with | none => exact .inl rfl | some k => exact .inr (by simp))
theorem bcell (hb : Below w.heap.size w w') : (∀ b o, b < w.heap.size → w'.cell? ⟨b, o, none⟩ = w.cell? ⟨b, o, none⟩) ∧ (∀ b o, b < w.heap.size → w'.frozen? ⟨b, o, none⟩ = w.frozen? ⟨b, o, none⟩) :=
  ⟨fun b o h => hb.cell (p := ⟨b, o, none⟩) h, fun b o h => hb.frozen (p := ⟨b, o, none⟩) h⟩
theorem new_row (w : World) (cs : List Value) (t : TypeId) : ∀ j u, cs[j]? = some u → (w.alloc (.cells cs.toArray t)).cell? ((⟨w.heap.size, 0, none⟩ : Addr).add j) = some u := by
  intro j u h
  rw [show (⟨w.heap.size, 0, none⟩ : Addr).add j = ⟨w.heap.size, j, none⟩ from by unfold Addr.add; split <;> simp_all]
  rw [World.cell?_alloc_new]
  simpa using h
end
section
variable {P : Program} {w : World} {α : Type}
theorem run_append_rd (base : Nat) (t ty e : TypeId) (i : TypeInfo) (z : Value) (size bytes : Nat) (ht : P.underlying t = some (.slice e)) (hi : P.info? e = some i) (hz : i.zero = some z)
    (hsize : i.size = size) (hby : i.bytes = bytes) (hzs : z.cells.size = size) (hsz : 0 < size)
    (v : Value) (n : Nat) (xs : List Value) (hown : w.ownsRow base e size v n xs)
    (A : Option Addr) (m c B : Nat) (enc : α → List Value) (l : List α) (hA : A = none → c = 0) (hm : l.length = m) (henc : ∀ x : α, (enc x).length = size) (hr : Rd w B size enc A l)
    (h1 : ∀ x : α, ∀ u ∈ enc x, u.oneCell' = true) (h63 : n + m ≤ maxLen) (hbytes : (n + m) * bytes ≤ 140737488355328) (hbase : base ≤ w.heap.size) :
    ∃ v' w', (Builtin.append_ #[t, t] ty #[v, .slice A m c]).run P w = .ok v' w' ∧ w'.ownsRow base e size v' (n + m) (xs ++ l.flatMap enc) ∧ w.grownBy w' v.ownBlock ∧
      (v'.ownBlock = v.ownBlock ∨ v'.ownBlock = some w.heap.size) := by
  subst hm
  rcases A with _ | ⟨b, off, sp⟩
  · obtain rfl := hA rfl
    have hl : l = [] := by
      by_cases h : l = []
      · exact h
      · obtain ⟨b, off, e, _⟩ := hr h
        cases e
    subst hl
    exact ⟨v, w, run_append_owned_none (P := P) (w := w) base t ty e i size ht hi v n xs hown, by simpa using hown, World.grownBy.refl w _, .inl rfl⟩
  · obtain ⟨v', w', hrun, h2, h3, _, h5⟩ := run_append_own_at (P := P) w base t ty e i z size bytes ht hi hz hsize hby hzs hsz v n xs hown ⟨b, off, sp⟩ l.length c (l.flatMap enc) (flat_length henc l) (fun j u hu => by
        have hl : l ≠ [] := by intro e; subst e; simp at hu
        obtain ⟨b', off', he, _, hc⟩ := hr hl
        have he' : (⟨b, off, sp⟩ : Addr) = ⟨b', off', none⟩ := by injection he
        rw [he']
        have hj : j < (l.flatMap enc).length := (List.getElem?_eq_some_iff.1 hu).1
        rw [flat_length henc] at hj
        have hq : j / size < l.length := Nat.div_lt_of_lt_mul (by rw [Nat.mul_comm]; exact hj)
        have hx : l[j / size]? = some l[j / size] := List.getElem?_eq_getElem hq
        have hv : (enc l[j / size])[j % size]? = some u := by
          have hlt : j % size < (enc l[j / size]).length := by rw [henc]; exact Nat.mod_lt _ hsz
          have h2 := flat_at henc l (j / size) _ hx (j % size) _ (List.getElem?_eq_getElem hlt)
          rw [show j / size * size + j % size = j from by rw [Nat.mul_comm]; exact Nat.div_add_mod j size] at h2
          rw [List.getElem?_eq_getElem hlt, ← h2, hu]
        have h3 := hc _ _ hx _ _ hv
        rw [show off' + j / size * size + j % size = off' + j from by rw [Nat.add_assoc, show j / size * size + j % size = j from by rw [Nat.mul_comm]; exact Nat.div_add_mod j size]] at h3
        rw [show (⟨b', off', none⟩ : Addr).add j = ⟨b', off' + j, none⟩ from by unfold Addr.add; split <;> simp_all]
        exact h3) (fun u hu => by
        obtain ⟨x, _, hx⟩ := List.mem_flatMap.1 hu
        exact h1 x u hx) h63 hbytes hbase
    exact ⟨v', w', hrun, h2, h3, h5⟩
theorem wp_append_rd {o : Oper} {a : Act} {K : Act → World → Prop} {Q : Exit → Act → World → Prop} (s x : Operand) (t : TypeId)
    (ho : o.op = .call { callee := .builtin .append, args := #[s, x], argTypes := #[t, t] })
    (base : Nat) (e : TypeId) (i : TypeInfo) (z : Value) (size bytes : Nat) (ht : P.underlying t = some (.slice e)) (hi : P.info? e = some i) (hz : i.zero = some z)
    (hsize : i.size = size) (hby : i.bytes = bytes) (hzs : z.cells.size = size) (hsz : 0 < size)
    (v : Value) (n : Nat) (xs : List Value) (hs : a.eval s = v) (hown : w.ownsRow base e size v n xs)
    (A : Option Addr) (m c B : Nat) (enc : α → List Value) (l : List α) (hx : a.eval x = .slice A m c) (hA : A = none → c = 0) (hm : l.length = m) (henc : ∀ x : α, (enc x).length = size) (hr : Rd w B size enc A l)
    (h1 : ∀ x : α, ∀ u ∈ enc x, u.oneCell' = true) (h63 : n + m ≤ maxLen) (hbytes : (n + m) * bytes ≤ 140737488355328) (hbase : base ≤ w.heap.size)
    (h : ∀ v' w', w'.ownsRow base e size v' (n + m) (xs ++ l.flatMap enc) → w.grownBy w' v.ownBlock → (v'.ownBlock = v.ownBlock ∨ v'.ownBlock = some w.heap.size) → K (a.put o.dst v') w') : o.wp P a w K Q := by
  obtain ⟨v', w', hrun, h2, h3, h4⟩ := run_append_rd (P := P) base t o.type e i z size bytes ht hi hz hsize hby hzs hsz v n xs hown A m c B enc l hA hm henc hr h1 h63 hbytes hbase
  unfold Oper.wp execOp
  simp only [ho, resolve, invoke, builtin, Sem.run_bind, Sem.run_pure, Result.andThen_ok, List.map_toArray, List.map_cons, List.map_nil, hs, hx, hrun]
  exact h v' w' h2 h3 h4
theorem wpList_append_rd {ops : Array Oper} {rest : List Oper} {o : Oper} {a : Act} {Q : Exit → Act → World → Prop} (hgd : o.guard = none) (s x : Operand) (t : TypeId)
    (ho : o.op = .call { callee := .builtin .append, args := #[s, x], argTypes := #[t, t] })
    (base : Nat) (e : TypeId) (i : TypeInfo) (z : Value) (size bytes : Nat) (ht : P.underlying t = some (.slice e)) (hi : P.info? e = some i) (hz : i.zero = some z)
    (hsize : i.size = size) (hby : i.bytes = bytes) (hzs : z.cells.size = size) (hsz : 0 < size)
    (v : Value) (n : Nat) (xs : List Value) (hs : a.eval s = v) (hown : w.ownsRow base e size v n xs)
    (A : Option Addr) (m c B : Nat) (enc : α → List Value) (l : List α) (hx : a.eval x = .slice A m c) (hA : A = none → c = 0) (hm : l.length = m) (henc : ∀ x : α, (enc x).length = size) (hr : Rd w B size enc A l)
    (h1 : ∀ x : α, ∀ u ∈ enc x, u.oneCell' = true) (h63 : n + m ≤ maxLen) (hbytes : (n + m) * bytes ≤ 140737488355328) (hbase : base ≤ w.heap.size)
    (h : ∀ v' w', w'.ownsRow base e size v' (n + m) (xs ++ l.flatMap enc) → w.grownBy w' v.ownBlock → (v'.ownBlock = v.ownBlock ∨ v'.ownBlock = some w.heap.size) → wpList P ops Q rest (a.put o.dst v') w') : wpList P ops Q (o :: rest) a w :=
  wpList_plain hgd fun _ hK => wp_append_rd s x t ho base e i z size bytes ht hi hz hsize hby hzs hsz v n xs hs hown A m c B enc l hx hA hm henc hr h1 h63 hbytes hbase fun v' w' h2 h3 h4 => hK _ _ (h v' w' h2 h3 h4)
theorem step_append_rd {ops : Array Oper} {o : Oper} {a : Act} {K : Act → World → Prop} {Q : Exit → Act → World → Prop} {E : Prop} (hw : Region.wanted o (yielded ops a.tmps) = true) (s x : Operand) (t : TypeId)
    (ho : o.op = .call { callee := .builtin .append, args := #[s, x], argTypes := #[t, t] })
    (base : Nat) (e : TypeId) (i : TypeInfo) (z : Value) (size bytes : Nat) (ht : P.underlying t = some (.slice e)) (hi : P.info? e = some i) (hz : i.zero = some z)
    (hsize : i.size = size) (hby : i.bytes = bytes) (hzs : z.cells.size = size) (hsz : 0 < size)
    (v : Value) (n : Nat) (xs : List Value) (hs : a.eval s = v) (hown : w.ownsRow base e size v n xs)
    (A : Option Addr) (m c B : Nat) (enc : α → List Value) (l : List α) (hx : a.eval x = .slice A m c) (hA : A = none → c = 0) (hm : l.length = m) (henc : ∀ x : α, (enc x).length = size) (hr : Rd w B size enc A l)
    (h1 : ∀ x : α, ∀ u ∈ enc x, u.oneCell' = true) (h63 : n + m ≤ maxLen) (hbytes : (n + m) * bytes ≤ 140737488355328) (hbase : base ≤ w.heap.size)
    (h : ∀ v' w', w'.ownsRow base e size v' (n + m) (xs ++ l.flatMap enc) → w.grownBy w' v.ownBlock → (v'.ownBlock = v.ownBlock ∨ v'.ownBlock = some w.heap.size) → K (a.put o.dst v') w') :
    if Region.wanted o (yielded ops a.tmps) = true then Oper.wp P o a w K Q else E := by
  rw [if_pos hw]
  exact wp_append_rd s x t ho base e i z size bytes ht hi hz hsize hby hzs hsz v n xs hs hown A m c B enc l hx hA hm henc hr h1 h63 hbytes hbase h
end
def encB (x : Int) : List Value := [.int .u8 x]
theorem encB_length (x : Int) : (encB x).length = 1 := rfl
theorem encBOne (x : Int) : ∀ u ∈ encB x, u.oneCell' = true := by simp [encB, Value.oneCell']
theorem Rd.byte {w : World} {B : Nat} {A : Option Addr} {l : List Int} (h : Rd w B 1 encB A l) (hl : l ≠ []) : ∃ b off, A = some ⟨b, off, none⟩ ∧ b < B ∧ ∀ k (hk : k < l.length), w.cell? ⟨b, off + k, none⟩ = some (.int .u8 l[k]) := by
  obtain ⟨b, off, e, hb, hc⟩ := h hl
  refine ⟨b, off, e, hb, fun k hk => ?_⟩
  have := hc k _ (List.getElem?_eq_getElem hk) 0 (.int .u8 l[k]) rfl
  simpa using this
structure Arg {α : Type} (w : World) (sz : Nat) (enc : α → List Value) (A : Option Addr) (len cap : Nat) (l : List α) : Prop where
  hlen : l.length = len
  hcap : len ≤ cap
  hmax : cap ≤ maxLen
  hnil : A = none → cap = 0
  rd : Rd w w.heap.size sz enc A l
theorem Arg.below {α : Type} {w w' : World} {sz : Nat} {enc : α → List Value} {A : Option Addr} {len cap : Nat} {l : List α} (h : Arg w sz enc A len cap l) (hb : Below w.heap.size w w') : Arg w' sz enc A len cap l :=
  ⟨h.hlen, h.hcap, h.hmax, h.hnil, (h.rd.below hb).more hb.size⟩
theorem Arg.alloc {α : Type} {w : World} {sz : Nat} {enc : α → List Value} {A : Option Addr} {len cap : Nat} {l : List α} (h : Arg w sz enc A len cap l) (o : Obj) : Arg (w.alloc o) sz enc A len cap l :=
  h.below ((Below.refl _ w).alloc (Nat.le_refl _) o)
theorem Arg.drew {α : Type} {w : World} {sz : Nat} {enc : α → List Value} {A : Option Addr} {len cap : Nat} {l : List α} (h : Arg w sz enc A len cap l) : Arg w.drew sz enc A len cap l :=
  ⟨h.hlen, h.hcap, h.hmax, h.hnil, h.rd⟩
theorem Arg.drewN {α : Type} {w : World} {sz : Nat} {enc : α → List Value} {A : Option Addr} {len cap : Nat} {l : List α} (h : Arg w sz enc A len cap l) (n : Nat) : Arg (w.drewN n) sz enc A len cap l :=
  ⟨h.hlen, h.hcap, h.hmax, h.hnil, h.rd⟩
theorem Arg.nil {α : Type} (w : World) (sz : Nat) (enc : α → List Value) : Arg w sz enc none 0 0 ([] : List α) := ⟨rfl, Nat.le_refl _, by decide, fun _ => rfl, Rd.nil⟩
theorem Arg.of_own {α : Type} {w : World} {base sz n : Nat} {e : TypeId} {v : Value} {enc : α → List Value} {l : List α} (hsz : 0 < sz) (henc : ∀ x : α, (enc x).length = sz) (h : w.ownsRow base e sz v n (l.flatMap enc)) :
    ∃ A c, v = .slice A n c ∧ Arg w sz enc A n c l := by
  have hl : l.length = n := by
    have := h.1
    rw [flat_length henc] at this
    exact Nat.eq_of_mul_eq_mul_right hsz this
  rcases h.2 with ⟨rfl, rfl⟩ | ⟨g, cap, cur, rfl, hb, hh, hc, hm, _, _⟩
  · obtain rfl : l = [] := List.eq_nil_of_length_eq_zero hl
    exact ⟨_, _, rfl, Arg.nil w sz enc⟩
  · exact ⟨_, _, rfl, hl, hc, hm, by simp, Rd.of_own henc hsz h⟩
theorem Arg.take {α : Type} {w : World} {sz : Nat} {enc : α → List Value} {A : Option Addr} {len cap : Nat} {l : List α} (h : Arg w sz enc A len cap l) {k : Nat} (hk : k ≤ len) : Arg w sz enc A k cap (l.take k) :=
  ⟨by rw [List.length_take, h.hlen]; omega, Nat.le_trans hk h.hcap, h.hmax, h.hnil, h.rd.take k⟩
theorem Arg.drop {α : Type} {w : World} {sz : Nat} {enc : α → List Value} {A : Option Addr} {len cap : Nat} {l : List α} (h : Arg w sz enc A len cap l) {k : Nat} (hk : k ≤ len) :
    Arg w sz enc (if cap = k then A else A.map (·.add (k * sz))) (len - k) (cap - k) (l.drop k) :=
  ⟨by rw [List.length_drop, h.hlen], by have := h.hcap; omega, by have := h.hmax; omega, (fun e => by
    split at e
    · omega
    · cases hA : A with
      | none =>
        have := h.hnil hA
        omega
      | some a =>
        rw [hA] at e
        cases e), h.rd.drop (by rw [h.hlen]; exact hk) (by rw [h.hlen]; exact h.hcap)⟩
end Go.Proofs.YtjpokeakemlffaaGreatDoor
/-
  A fact of the walk's own: nothing opens it.
-/
namespace Go.Proofs.YtjpokeakemlffaaGreatDoor
structure Keep (p : Prop) : Prop where
  out : p
end Go.Proofs.YtjpokeakemlffaaGreatDoor
