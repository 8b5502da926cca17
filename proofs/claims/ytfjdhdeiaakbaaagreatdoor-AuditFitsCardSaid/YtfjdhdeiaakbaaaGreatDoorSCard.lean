/-
  The law AuditFits answers true: any two streams fit just where the document says: the tied card AuditFitsCardSaid. The listed package variables start as the text of the program lays them; no other condition.
-/
import Derived.Deep.DeepHandedRow
import Derived.Deep.DeepWitnessRowRef
import Derived.Deep.Slices
import Derived.LaidMore
import Derived.Test.YtfjdhdeiaakbaaaGreatDoorCards
import Derived.Test.YtfjdhdeiaakbaaaGreatDoorTie
import Derived.Test.YtfjdhdeiaakbaaaGreatDoorS1
import Derived.Test.YtfjdhdeiaakbaaaGreatDoorS6
import Derived.Test.YtfjdhdeiaakbaaaGreatDoorS35
import Derived.Test.YtfjdhdeiaakbaaaGreatDoorS48
set_option linter.unusedSimpArgs false
set_option linter.unusedVariables false
namespace Go.Proofs.YtfjdhdeiaakbaaaGreatDoor
open Go.RowKit Go.ChangeShapes Go.WideShapes Go.ChangeAt
namespace AuditFits

theorem own : ownKnob Tryz.prog.godebug = none := by kernel_rfl
theorem laidOut : laidOutB Tryz.prog = true := by kernel_rfl
theorem laid_met (os : Os) (args : Array Value) : laidMet Tryz.prog Rows.auditFitsRow.laid ((World.doorLaid Tryz.prog 92 os).forCall (fun _ _ => 0) ⟨#[], args, []⟩).memory :=
  laidMet_of_run' 8 (by kernel_rfl) (by kernel_rfl)
theorem reads (os : Os) {H : Type} (enc : TypeId × Value → H) : ∃ places, DataW.whole enc Tryz.prog ((World.doorLaid Tryz.prog 92 os).forCall (fun _ _ => 0) ⟨#[], #[.agg #[.slice none 0 0, .slice none 0 0, .bool false, .bool false]], []⟩).memory Tryz.f5.params.toList Rows.auditFitsSpec.vars false (#[.agg #[.slice none 0 0, .slice none 0 0, .bool false, .bool false]] : Array Value).toList 8 = some ([.agg [.nil, .nil, .lit (.bool false), .lit (.bool false)]], [], places) :=
  ⟨[], by kernel_rfl⟩

set_option maxRecDepth 100000 in
set_option maxHeartbeats 1600000 in
theorem lifted (os : Os) (started : os.Started) (H : Type) (enc : TypeId × Value → H) (F : Stop.Interp) :
    ReturnsInHanded {} Tryz.checked os 5 .any ((OpenSpec.ofChange Rows.auditFitsSpec).preRow enc Tryz.prog Tryz.f5 Rows.auditFitsRow.domain false Rows.auditFitsRow.laid) (((OpenSpec.ofChange Rows.auditFitsSpec).at F).post enc Tryz.prog Tryz.f5 false true false false) := by
  obtain ⟨places, hx⟩ := reads os enc
  refine returnsInHanded_of_row (C := Tryz.checked) (s := OpenSpec.ofChange Rows.auditFitsSpec) own started (by kernel_rfl) Tryz.func5
    (witness_row_atRef (enc := enc) (C := Tryz.checked) false (World.doorLaid Tryz.prog 92 os) #[.agg #[.slice none 0 0, .slice none 0 0, .bool false, .bool false]] rfl (by kernel_rfl) (by kernel_rfl) (by kernel_rfl)
      (OpenSpec.preRow_of_cond 8 hx (by kernel_rfl) (fun k hk => by cases hk) (by kernel_rfl) (laid_met os _))) ?_
  intro W base args ds gs before hval0 hW _ _ _ hL _ _
  have hval : ∀ (j : Nat) t v, Tryz.f5.params[j]? = some t → args[j]? = some v → Value.okWide Tryz.prog W .any base t v := hval0
  have hW' := hW
  obtain ⟨p, q, hA0, hV, rfl, hfz, hnd⟩ := hW
  have hA : DataW.TrodAll enc Tryz.prog W 0 (fun _ => true) true Tryz.f5.params.toList args.toList ds p := hA0
  rw [Tryz.params5] at hA hval
  obtain ⟨v0, vs0, d0, ds0, p0, q0, hargs0, rfl, rfl, h0, r0⟩ := trodAll_cons hA
  obtain ⟨rfl, rfl, rfl⟩ := trodAll_nil r0
  obtain rfl : args = #[v0] := by cases args; simp_all
  obtain ⟨rfl, rfl⟩ := trodVars_none hV
  obtain ⟨pa1, pn1, pc1, pl1, pa2, pn2, pc2, pl2, pb3, pb4, rfl, pha1, pha2, pr1, pr2⟩ := arg_pair2 (hval 0 34 v0 rfl rfl) h0
  have lt0 : ∀ x ∈ p0, x.block < W.heap.size := by obtain ⟨m, hm⟩ := h0; exact DataW.trod_lt m _ _ _ hm
  clear hA0 hval0
  have hgw : Gw W := gw_of_laid hL.tail.tail.tail.tail.tail.tail
  refine (auditFits_walk pa1 pn1 pc1 pl1 pa2 pn2 pc2 pl2 pb3 pb4 W hgw pha1 pha2 pr1 pr2).mono fun e W' ⟨he, bel⟩ => ?_
  subst he
  exact ⟨_, rfl, _, _, _, [], _, [], hW', trodAll_mk1 (shut_bool Tryz.underlying4 _), (trodAll_cons_mk (Below.trod laidOut (by kernel_rfl) (of_decide_eq_true (by kernel_rfl)) h0 bel lt0) trodAll_mk0), rfl, bel.frame _, fun h => by cases h⟩

theorem kInPlace : (Rows.auditFitsRow.inPlace == Tryz.prog.inPlace 5) = true := by kernel_rfl

theorem kUnfollowed : (Rows.auditFitsRow.unfollowed == Tryz.prog.unfollowed 5) = true := by kernel_rfl

theorem kRecurses : (Rows.auditFitsRow.recurses == Tryz.prog.recurses 5) = true := by kernel_rfl

theorem kNamed : (Rows.auditFitsRow.named == Tryz.prog.varsNamed 5) = true := by kernel_rfl
theorem kRowed : mapsRowed Tryz.prog = true := by kernel_rfl
theorem kHeard : Tryz.prog.stopsHeard = true := by kernel_rfl
theorem kPlain : (Rows.auditFitsRow.plainKeys == Tryz.prog.plainKeys) = true := by kernel_rfl
theorem closed : joinedFacts Tryz.prog 5 Tryz.f5 (OpenSpec.ofChange Rows.auditFitsSpec).bare Rows.auditFitsRow = true := by
  simp only [joinedFacts, laidOut, kRowed, kHeard, kPlain, kInPlace, kUnfollowed, kRecurses, kNamed, Bool.and_true]
  kernel_rfl

theorem said : Rows.AuditFitsSaid :=
  OpenClaim.holds_of_cond 5 Tryz.f5 rfl rfl rfl rfl rfl rfl rfl ⟨rfl, rfl, rfl, rfl, rfl⟩ rfl rfl rfl rfl rfl (by kernel_rfl) Tryz.func5 closed
    (of_decide_eq_true (by kernel_rfl)) (by unfold Func.isWrapper; first | (rw [if_pos (by decide +kernel)]; kernel_rfl) | (rw [if_neg (by decide +kernel)]; exact ⟨rfl, rfl⟩))
    (fun os started H enc _ F => by rw [OpenClaim.pre_eq_preRow]; exact lifted os started H enc F)

theorem plain (f : FuncId) (fn : Func) (hf : Tryz.pinned.checked.prog.funcNamed "ferrybridge/ferrybridgelaw25.AuditFits" = some f) (hfn : Tryz.pinned.checked.prog.funcs[f]? = some fn) :
    true = Tryz.pinned.checked.prog.looks [] ∧ ∀ (j : Nat) t, fn.params[j]? = some t → Tryz.pinned.checked.prog.wantsStandIn t = false := by
  obtain rfl : f = 5 := Option.some.inj ((show Tryz.prog.funcNamed "ferrybridge/ferrybridgelaw25.AuditFits" = some 5 by kernel_rfl).symm.trans hf) |>.symm
  obtain rfl : fn = Tryz.f5 := (Option.some.inj (Tryz.func5.symm.trans hfn)).symm
  refine ⟨by kernel_rfl, fun j t ht => ?_⟩
  rw [Tryz.params5] at ht
  have hm : t ∈ [34] := by
    have := Array.mem_of_getElem? ht
    simpa using this
  have hall : ([34].all fun u => !Tryz.prog.wantsStandIn u) = true := by kernel_rfl
  exact (show Tryz.prog.wantsStandIn t = false by simpa using List.all_eq_true.1 hall t hm)
end AuditFits

/-- The tied card. -/
theorem auditFits_holds : Rows.AuditFitsCardSaid :=
  Claim7.holds_tied_plain_at .later [] _ _ _ _ AuditFits.said (fun _ h => by cases h) (by kernel_rfl) (fun _ h => by cases h) auditFits_row_tie rfl ⟨rfl, rfl⟩ (by kernel_rfl) rfl AuditFits.plain (goesBy_no _ rfl).symm
end Go.Proofs.YtfjdhdeiaakbaaaGreatDoor
