/-
  Two arrays of bytes that hold the same are equal: the law of == at an array type whose elements are integers.
-/
import Derived.Test.YtkcmemhoabadaaaDoorShaD
import Derived.Laws.StructEq
namespace Go.Proofs.YtkcmemhoabadaaaDoor
open Go.RowKit

section
variable {P : Program}
theorem run_equalIn_arr (d : Nat) (t e : TypeId) (n : Nat) (k : IntKind) (ht : P.underlying t = some (.array n e)) (he : P.underlying e = some (.int k)) (hs : (P.info? e).map (·.size) = some 1)
    (xs : List Int) (hl : xs.length = n) (w : World) :
    (Op.equalIn (d + 1 + 1) t (.agg (xs.map (Value.int k)).toArray) (.agg (xs.map (Value.int k)).toArray)).run P w = .ok true w := by
  have hsz : (sizeOf e).run P w = .ok 1 w := by
    cases hq : P.info? e with
    | none => simp [hq] at hs
    | some i =>
      have h1 : i.size = 1 := by simpa [hq] using hs
      simp [sizeOf, typeInfo, hq, h1]
  have hag : ∀ w, (isAgg e).run P w = .ok false w := fun w => by simp [isAgg, run_underlying he]
  have hpart : ∀ (i : Nat) (hi : i < n) (w : World), (part e (xs.map (Value.int k)).toArray (i * 1)).run P w = .ok (.int k (xs[i]'(by omega))) w := fun i hi w => by
    have : i < xs.length := by omega
    simp [part, hag, this]
  have heq : ∀ a (w : World), (Op.equalIn (d + 1) e (.int k a) (.int k a)).run P w = .ok true w := fun a w => by rw [run_equalIn_int w d e k k a a he]; simp
  generalize d + 1 = D at heq ⊢
  simp only [Op.equalIn.eq_2, Sem.run_bind, run_underlying ht, Result.andThen_ok, hsz]
  rw [Std.Legacy.Range.forIn_eq_forIn_range']
  have hm : ∀ i ∈ List.range' 0 n 1, i < n := fun i hi => by simpa using hi
  simp only [Std.Legacy.Range.size, Nat.sub_zero, Nat.add_sub_cancel, Nat.div_one]
  generalize List.range' 0 n 1 = l at hm ⊢
  induction l with
  | nil => simp
  | cons i r ih =>
    rw [List.forIn_cons]
    simp only [Sem.run_bind, hpart i (hm i (by simp)), Result.andThen_ok, heq, Bool.not_true, Bool.false_eq_true, if_false, Sem.run_pure]
    exact ih (fun j hj => hm j (by simp [hj]))
theorem run_eql_arr (t e : TypeId) (n : Nat) (k : IntKind) (ht : P.underlying t = some (.array n e)) (he : P.underlying e = some (.int k)) (hs : (P.info? e).map (·.size) = some 1)
    (xs : List Int) (hl : xs.length = n) (w : World) :
    (binOp .eql t (.agg (xs.map (Value.int k)).toArray) (.agg (xs.map (Value.int k)).toArray)).run P w = .ok (.bool true) w := by
  rw [run_eql_struct, show (10000 : Nat) = 9998 + 1 + 1 from rfl, run_equalIn_arr 9998 t e n k ht he hs xs hl w]
  rfl
theorem wpList_eql_arr {ops : Array Oper} {rest : List Oper} {o : Oper} {a : Act} {w : World} {Q : Exit → Act → World → Prop} (hgd : o.guard = none) (t t' : TypeId) (x y : Operand) (ho : o.op = .binOp .eql t x y t')
    (e : TypeId) (n : Nat) (k : IntKind) (ht : P.underlying t = some (.array n e)) (he : P.underlying e = some (.int k)) (hs : (P.info? e).map (·.size) = some 1) (hm : P.eqGuardType P.depth t = false)
    (xs : List Int) (hl : xs.length = n) (hx : a.eval x = .agg (xs.map (Value.int k)).toArray) (hy : a.eval y = .agg (xs.map (Value.int k)).toArray)
    (h : wpList P ops Q rest (a.put o.dst (.bool true)) w) : wpList P ops Q (o :: rest) a w :=
  wpList_plain hgd fun K hK => by
    unfold Oper.wp execOp
    simp only [ho, hx, hy, Sem.run_bind, run_eqGuard_agg w .eql t x y _ _ hm, Result.andThen_ok, run_eql_arr t e n k ht he hs xs hl w]
    exact hK _ _ h
end
end Go.Proofs.YtkcmemhoabadaaaDoor
