/-
  Walks and laws, one behind the other (part 40).
-/
import Derived.Test.YtjpokeakemlffaaGreatDoorS8
import Derived.Test.YtjpokeakemlffaaGreatDoorS24
set_option linter.unusedSimpArgs false
set_option linter.unusedVariables false
/-
  Steps of a walk, told by assertions.
-/
namespace Go.Proofs.YtjpokeakemlffaaGreatDoor
open Go.RowKit
section
variable {P : Program} {w : World} {L : List HA} {ops : Array Oper} {o : Oper} {a : Act} {K : Act → World → Prop} {Q : Exit → Act → World → Prop} {E : Prop} {rest : List Oper} {C1 C2 : World → Prop}
theorem Sat.cells {b : Nat} {arr : Array Value} {ty : TypeId} (H : Sat w (blkA b arr ty :: L)) (i : Nat) : w.cell? ⟨b, i, none⟩ = arr[i]? := H.bk.c i
theorem wpL_beg {id : Nat} (H : Sat w L) (C1 C2 : World → Prop) (d : Nat) (hm : P.follows .mixedOrders = true) (hS : ∀ w1, Sat w1 L → C1 w1 ∧ C2 w1)
    (h : ∀ w1, Sat w1 L → C1 w1 ∧ ((Array.replicate ops.size false).getD d false = false → C2 w1) → wpAnyL P .any ops Q C1 C2 d ops.size (Array.replicate ops.size false) a w1) : (Code.region id ops true).wp P Q a w :=
  wpL_begin C1 C2 d hm (hS _ (H.drewN 1)) fun hh => h _ (H.drewN 1) hh
theorem run_storeVar_one {b i : Nat} {arr : Array Value} {bty ty : TypeId} {v : Value} (h : Bk w b arr bty) (hi : i < arr.size) (hs : (P.info? ty).map (·.size) = some 1) (h1 : v.oneCell' = true) : (storeVar ty ⟨b, i, none⟩ v).run P w = .ok () (w.setCell ⟨b, i, none⟩ v) := by
  have hc : v.cells = #[v] := by cases v <;> first | rfl | (simp [Value.oneCell'] at h1)
  cases hq : P.info? ty with
  | none => simp [hq] at hs
  | some t =>
    have hz : t.size = 1 := by simpa [hq] using hs
    have hcell : w.cell? ⟨b, i, none⟩ = some arr[i] := by rw [h.c i]; simp [hi]
    simp [storeVar, sizeOf, typeInfo, hq, hz, hc, storeCells, Addr.add, run_store P w _ v _ h1, hcell, h.free i]
theorem wp_set (k b i : Nat) {arr : Array Value} {bty : TypeId} (ty : TypeId) (x y : Operand) (v : Value) (ho : o.op = .store ty x y) (H : Sat w L) (hk : nth k L = some (blkA b arr bty)) (hx : a.eval x = .pointer (some ⟨b, i, none⟩)) (hy : a.eval y = v) (hi : decide (i < arr.size) = true) (hs : (P.info? ty).map (·.size) = some 1) (h1 : v.oneCell' = true)
    (h : ∀ w', Sat w' (lset k (blkA b (arr.setIfInBounds i v) bty) L) → K (a.put o.dst undef) w') : o.wp P a w K Q := by
  unfold Oper.wp execOp
  simp only [ho, hx, hy, Instr.storeAt, Instr.sureAddr, Sem.run_bind, Sem.run_pure, Result.andThen_ok, run_storeVar_one (H.bkAt k hk) (of_decide_eq_true hi) hs h1]
  exact h _ (H.setAt k hk i v)
theorem step_set (k b i : Nat) {arr : Array Value} {bty : TypeId} (hw : Region.wanted o (yielded ops a.tmps) = true) (ty : TypeId) (x y : Operand) (v : Value) (ho : o.op = .store ty x y) (H : Sat w L) (hk : nth k L = some (blkA b arr bty)) (hx : a.eval x = .pointer (some ⟨b, i, none⟩)) (hy : a.eval y = v) (hi : decide (i < arr.size) = true) (hs : (P.info? ty).map (·.size) = some 1) (h1 : v.oneCell' = true)
    (h : ∀ w', Sat w' (lset k (blkA b (arr.setIfInBounds i v) bty) L) → K (a.put o.dst undef) w') : if Region.wanted o (yielded ops a.tmps) = true then o.wp P a w K Q else E := by
  rw [if_pos hw]
  exact wp_set k b i ty x y v ho H hk hx hy hi hs h1 h
theorem wp_putrow (k g : Nat) (arr : Array Value) {old : Array Value} {bty : TypeId} (ty : TypeId) (x y : Operand) (ho : o.op = .store ty x y) (H : Sat w L) (hk : nth k L = some (blkA g old bty)) (hx : a.eval x = .pointer (some ⟨g, 0, none⟩)) (hy : a.eval y = .agg arr) (hi : (P.info? ty).map (·.size) = some arr.size) (hold : old.size = arr.size) (h1 : ∀ u ∈ arr.toList, u.oneCell' = true)
    (h : ∀ w', Sat w' (lset k (blkA g arr bty) L) → K (a.put o.dst undef) w') : o.wp P a w K Q :=
  wp_store_row ty x y ho g arr hx hy bty old (H.bkAt k hk).eq hi hold (Array.all_eq_true_iff_forall_mem.2 fun u hu => h1 u (by simpa using hu)) (h _ (by
    have H1 := (H.to k hk).blkTo (w' := w.setRow g arr) (arr' := arr) (Fz.row _ _ _) ⟨setRow_heap _ _ _ _ _ _ (H.bkAt k hk).eq⟩
    exact H1.perm (perm_lset k L _ _ hk)))
theorem wpList_putrow (k g : Nat) (arr : Array Value) {old : Array Value} {bty : TypeId} (hgd : o.guard = none) (ty : TypeId) (x y : Operand) (ho : o.op = .store ty x y) (H : Sat w L) (hk : nth k L = some (blkA g old bty)) (hx : a.eval x = .pointer (some ⟨g, 0, none⟩)) (hy : a.eval y = .agg arr) (hi : (P.info? ty).map (·.size) = some arr.size) (hold : old.size = arr.size) (h1 : ∀ u ∈ arr.toList, u.oneCell' = true)
    (h : ∀ w', Sat w' (lset k (blkA g arr bty) L) → wpList P ops Q rest (a.put o.dst undef) w') : wpList P ops Q (o :: rest) a w :=
  wpList_plain hgd fun _ hK => wp_putrow k g arr ty x y ho H hk hx hy hi hold h1 fun w' hS => hK _ _ (h w' hS)
end
section
variable {P : Program} {w : World} {L : List HA} {ops : Array Oper} {o : Oper} {a : Act} {K : Act → World → Prop} {Q : Exit → Act → World → Prop} {E : Prop} {rest : List Oper} {v z : Value} {n k by' g : Nat} {xs cs : List Value} {ty ty' : TypeId}
theorem wp_appR {α : Type} (s x : Operand) (t : TypeId) (ho : o.op = .call { callee := .builtin .append, args := #[s, x], argTypes := #[t, t] }) (ht : P.underlying t = some (.slice ty))
    (hinf : (P.info? ty).map (fun i => (i.zero, i.size, i.bytes)) = some (some z, k, by')) (hzs : z.cells.size = k) (hk : 0 < k) (hb : by' ≤ 1000) {A : Option Addr} {m c : Nat} {enc : α → List Value} {l : List α} (H : Sat w (rowA ty k v n xs :: L))
    (hs : a.eval s = v) (hx : a.eval x = .slice A m c) (hA : A = none → c = 0) (hm : l.length = m) (hr : Rd w w.heap.size k enc A l) (henc : ∀ x, (enc x).length = k) (h1 : ∀ x, ∀ u ∈ enc x, u.oneCell' = true) (hn : n + m ≤ 1000000)
    (h : ∀ A' c' w', Sat w' (rowA ty k (.slice A' (n + m) c') (n + m) (xs ++ l.flatMap enc) :: L) → K (a.put o.dst (.slice A' (n + m) c')) w') : o.wp P a w K Q := by
  obtain ⟨i0, hi, hz0, hz1, hz2⟩ := info_parts hinf
  have hby : (n + m) * by' ≤ 140737488355328 := Nat.le_trans (Nat.mul_le_mul hn hb) (by decide)
  refine wp_append_rd s x t ho 0 ty i0 z k by' ht hi hz0 hz1 hz2 hzs hk v n xs hs H.own A m c w.heap.size enc l hx hA hm henc hr h1 (by unfold maxLen; omega) hby (Nat.zero_le _) ?_
  intro v' w' h2 h3 h4
  obtain ⟨A', c', rfl, _⟩ := own_slice h2
  exact h A' c' w' (H.grow h2 h3 h4)
theorem step_appR {α : Type} (hw : Region.wanted o (yielded ops a.tmps) = true) (s x : Operand) (t : TypeId) (ho : o.op = .call { callee := .builtin .append, args := #[s, x], argTypes := #[t, t] }) (ht : P.underlying t = some (.slice ty))
    (hinf : (P.info? ty).map (fun i => (i.zero, i.size, i.bytes)) = some (some z, k, by')) (hzs : z.cells.size = k) (hk : 0 < k) (hb : by' ≤ 1000) {A : Option Addr} {m c : Nat} {enc : α → List Value} {l : List α} (H : Sat w (rowA ty k v n xs :: L))
    (hs : a.eval s = v) (hx : a.eval x = .slice A m c) (hA : A = none → c = 0) (hm : l.length = m) (hr : Rd w w.heap.size k enc A l) (henc : ∀ x, (enc x).length = k) (h1 : ∀ x, ∀ u ∈ enc x, u.oneCell' = true) (hn : n + m ≤ 1000000)
    (h : ∀ A' c' w', Sat w' (rowA ty k (.slice A' (n + m) c') (n + m) (xs ++ l.flatMap enc) :: L) → K (a.put o.dst (.slice A' (n + m) c')) w') : if Region.wanted o (yielded ops a.tmps) = true then o.wp P a w K Q else E := by
  rw [if_pos hw]
  exact wp_appR s x t ho ht hinf hzs hk hb H hs hx hA hm hr henc h1 hn h
theorem wpList_appR {α : Type} (hgd : o.guard = none) (s x : Operand) (t : TypeId) (ho : o.op = .call { callee := .builtin .append, args := #[s, x], argTypes := #[t, t] }) (ht : P.underlying t = some (.slice ty))
    (hinf : (P.info? ty).map (fun i => (i.zero, i.size, i.bytes)) = some (some z, k, by')) (hzs : z.cells.size = k) (hk : 0 < k) (hb : by' ≤ 1000) {A : Option Addr} {m c : Nat} {enc : α → List Value} {l : List α} (H : Sat w (rowA ty k v n xs :: L))
    (hs : a.eval s = v) (hx : a.eval x = .slice A m c) (hA : A = none → c = 0) (hm : l.length = m) (hr : Rd w w.heap.size k enc A l) (henc : ∀ x, (enc x).length = k) (h1 : ∀ x, ∀ u ∈ enc x, u.oneCell' = true) (hn : n + m ≤ 1000000)
    (h : ∀ A' c' w', Sat w' (rowA ty k (.slice A' (n + m) c') (n + m) (xs ++ l.flatMap enc) :: L) → wpList P ops Q rest (a.put o.dst (.slice A' (n + m) c')) w') : wpList P ops Q (o :: rest) a w :=
  wpList_plain hgd fun _ hK => wp_appR s x t ho ht hinf hzs hk hb H hs hx hA hm hr henc h1 hn fun A' c' w' hS => hK _ _ (h A' c' w' hS)
theorem wp_app {α : Type} (s x : Operand) (t : TypeId) (ho : o.op = .call { callee := .builtin .append, args := #[s, x], argTypes := #[t, t] }) (ht : P.underlying t = some (.slice ty))
    (hinf : (P.info? ty).map (fun i => (i.zero, i.size, i.bytes)) = some (some z, k, by')) (hzs : z.cells.size = k) (hk : 0 < k) (hb : by' ≤ 1000) (xv : Value) {enc : α → List Value} {l : List α} (H : Sat w (rowA ty k v n xs :: rdA k enc xv l :: L))
    (hs : a.eval s = v) (hx : a.eval x = xv) (henc : ∀ x, (enc x).length = k) (h1 : ∀ x, ∀ u ∈ enc x, u.oneCell' = true) (hn : n + l.length ≤ 1000000)
    (h : ∀ A c w', Sat w' (rowA ty k (.slice A (n + l.length) c) (n + l.length) (xs ++ l.flatMap enc) :: rdA k enc xv l :: L) → K (a.put o.dst (.slice A (n + l.length) c)) w') : o.wp P a w K Q := by
  obtain ⟨A, c, rfl, hc, hm, hA, hr⟩ := (H.to 1 rfl).rd
  exact wp_appR s x t ho ht hinf hzs hk hb H hs hx hA rfl hr henc h1 hn h
theorem Sat.blkRd {g : Nat} {cs : List Value} (H : Sat w (blkA g cs.toArray ty :: L)) : Sat w (rdA cs.length (fun _ : Unit => cs) (.slice (some ⟨g, 0, none⟩) 1 1) [()] :: L) :=
  H.mono fun _ _ p => ⟨some ⟨g, 0, none⟩, 1, rfl, Nat.le_refl _, by unfold maxLen; omega, (fun e => by cases e), fun _ => ⟨g, 0, cs.toArray, ty, (0, 0), rfl, p, fun i y hy j u hu => by
    cases i with
    | zero => simpa using hu
    | succ i => simp at hy⟩⟩
theorem wp_push (s x : Operand) (t : TypeId) (ho : o.op = .call { callee := .builtin .append, args := #[s, x], argTypes := #[t, t] }) (ht : P.underlying t = some (.slice ty))
    (hinf : (P.info? ty).map (fun i => (i.zero, i.size, i.bytes)) = some (some z, k, by')) (hzs : z.cells.size = k) (hk : 0 < k) (hb : by' ≤ 1000) (H : Sat w (rowA ty k v n xs :: blkA g cs.toArray ty' :: L))
    (hs : a.eval s = v) (hx : a.eval x = .slice (some ⟨g, 0, none⟩) 1 1) (hlen : cs.length = k) (h1 : ∀ u ∈ cs, u.oneCell' = true) (hn : n < 1000000)
    (h : ∀ A c w', Sat w' (rowA ty k (.slice A (n + 1) c) (n + 1) (xs ++ cs) :: L) → K (a.put o.dst (.slice A (n + 1) c)) w') : o.wp P a w K Q := by
  subst hlen
  refine wp_app (α := Unit) s x t ho ht hinf hzs hk hb _ ((H.to 1 rfl).blkRd.back 1) hs hx (fun _ => rfl) (fun _ => h1) (by simp; omega) fun A c w' hS => ?_
  exact h A c w' (by simpa [rmv] using hS.rm 1 rfl)
theorem wpList_push (hgd : o.guard = none) (s x : Operand) (t : TypeId) (ho : o.op = .call { callee := .builtin .append, args := #[s, x], argTypes := #[t, t] }) (ht : P.underlying t = some (.slice ty))
    (hinf : (P.info? ty).map (fun i => (i.zero, i.size, i.bytes)) = some (some z, k, by')) (hzs : z.cells.size = k) (hk : 0 < k) (hb : by' ≤ 1000) (H : Sat w (rowA ty k v n xs :: blkA g cs.toArray ty' :: L))
    (hs : a.eval s = v) (hx : a.eval x = .slice (some ⟨g, 0, none⟩) 1 1) (hlen : cs.length = k) (h1 : ∀ u ∈ cs, u.oneCell' = true) (hn : n < 1000000)
    (h : ∀ A c w', Sat w' (rowA ty k (.slice A (n + 1) c) (n + 1) (xs ++ cs) :: L) → wpList P ops Q rest (a.put o.dst (.slice A (n + 1) c)) w') : wpList P ops Q (o :: rest) a w :=
  wpList_plain hgd fun _ hK => wp_push s x t ho ht hinf hzs hk hb H hs hx hlen h1 hn fun A c w' hS => hK _ _ (h A c w' hS)
end
theorem results_ct {P : Program} {fn : Func} {p q : Tmp} {ty : TypeId} (h : fn.results = #[.cell p ty, .tmp q]) (tmps : Array Value) (w : World) (g : Nat) (t : TypeId) (cs : Array Value) (fr : Nat × Nat) (d : TypeDesc)
    (hp : tmps.getD p undef = .pointer (some ⟨g, 0, none⟩)) (hg : w.heap[g]? = some (.cells cs t fr))
    (hu : P.underlying ty = some d) (hd : (match d with | .struct _ | .array _ _ => true | _ => false) = true) (hi : (P.info? ty).map (·.size) = some cs.size) :
    (results fn tmps).run P w = .ok (.tuple #[.agg cs, tmps.getD q undef]) w := by
  have hp' : tmps[p]?.getD undef = .pointer (some ⟨g, 0, none⟩) := by simpa using hp
  simp [results, h, hp', asAddr, run_loadVar_row w g t ty cs fr d hg hu hd hi]
def initA (w0 : World) : HA := fun e h => e = envW w0 ∧ ∀ k, k < w0.heap.size → h k = w0.heap[k]?
theorem Sat.init (w0 : World) : Sat w0 [initA w0] := ⟨hpW w0, fun _ => none, hle_refl _, (fun _ _ h => by cases h), fun _ => .inr rfl, ⟨rfl, fun _ _ => rfl⟩, trivial⟩
theorem Sat.initB {w0 w : World} {L : List HA} (H : Sat w (initA w0 :: L)) : Below w0.heap.size w0 w := by
  obtain ⟨h, x, he, hk⟩ := H.hd
  have hh : ∀ k, k < w0.heap.size → w.heap[k]? = w0.heap[k]? := fun k hlt => by
    have e : h k = some w0.heap[k] := by rw [hk k hlt]; simp [hlt]
    rw [show w.heap[k]? = _ from x k _ e]; simp [hlt]
  have h1 : (envW w).os = (envW w0).os := by rw [he]
  have h2 : (envW w).tape = (envW w0).tape := by rw [he]
  have h3 : (envW w).output = (envW w0).output := by rw [he]
  refine ⟨h1, h2, h3, ?_, hh⟩
  rcases Nat.eq_zero_or_pos w0.heap.size with e | e
  · omega
  · have := hh (w0.heap.size - 1) (by omega)
    have h5 : (w0.heap[w0.heap.size - 1]?).isSome = true := by simp; omega
    rw [← this] at h5
    simp at h5
    omega
end Go.Proofs.YtjpokeakemlffaaGreatDoor
