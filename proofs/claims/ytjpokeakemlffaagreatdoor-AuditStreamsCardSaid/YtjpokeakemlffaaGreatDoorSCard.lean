/-
  The law AuditStreams answers true: any log has just the streams that the document says, in order, each found by its side and handle: the tied card AuditStreamsCardSaid. The listed package variables start as the text of the program lays them; no other condition.
-/
import Derived.Deep.DeepHandedRow
import Derived.Deep.DeepWitnessRowRef
import Derived.Deep.Slices
import Derived.LaidMore
import Derived.Test.YtjpokeakemlffaaGreatDoorCards
import Derived.Test.YtjpokeakemlffaaGreatDoorTie
import Derived.Test.YtjpokeakemlffaaGreatDoorS1
import Derived.Test.YtjpokeakemlffaaGreatDoorS6
import Derived.Test.YtjpokeakemlffaaGreatDoorS35
import Derived.Test.YtjpokeakemlffaaGreatDoorS50
set_option linter.unusedSimpArgs false
set_option linter.unusedVariables false
namespace Go.Proofs.YtjpokeakemlffaaGreatDoor
open Go.RowKit Go.ChangeShapes Go.WideShapes Go.ChangeAt
namespace AuditStreams

theorem own : ownKnob Tryz.prog.godebug = none := by kernel_rfl
theorem laidOut : laidOutB Tryz.prog = true := by kernel_rfl
theorem laid_met (os : Os) (args : Array Value) : laidMet Tryz.prog Rows.auditStreamsRow.laid ((World.doorLaid Tryz.prog 92 os).forCall (fun _ _ => 0) ⟨#[], args, []⟩).memory :=
  laidMet_of_run' 8 (by kernel_rfl) (by kernel_rfl)
theorem reads (os : Os) {H : Type} (enc : TypeId × Value → H) : ∃ places, DataW.whole enc Tryz.prog ((World.doorLaid Tryz.prog 92 os).forCall (fun _ _ => 0) ⟨#[], #[.slice none 0 0], []⟩).memory Tryz.f3.params.toList Rows.auditStreamsSpec.vars false (#[.slice none 0 0] : Array Value).toList 8 = some ([.nil], [], places) :=
  ⟨[], by kernel_rfl⟩

set_option maxRecDepth 100000 in
set_option maxHeartbeats 1600000 in
theorem lifted (os : Os) (started : os.Started) (H : Type) (enc : TypeId × Value → H) (F : Stop.Interp) :
    ReturnsInHanded {} Tryz.checked os 3 .any ((OpenSpec.ofChange Rows.auditStreamsSpec).preRow enc Tryz.prog Tryz.f3 Rows.auditStreamsRow.domain false Rows.auditStreamsRow.laid) (((OpenSpec.ofChange Rows.auditStreamsSpec).at F).post enc Tryz.prog Tryz.f3 false true false false) := by
  obtain ⟨places, hx⟩ := reads os enc
  refine returnsInHanded_of_row (C := Tryz.checked) (s := OpenSpec.ofChange Rows.auditStreamsSpec) own started (by kernel_rfl) Tryz.func3
    (witness_row_atRef (enc := enc) (C := Tryz.checked) false (World.doorLaid Tryz.prog 92 os) #[.slice none 0 0] rfl (by kernel_rfl) (by kernel_rfl) (by kernel_rfl)
      (OpenSpec.preRow_of_cond 8 hx (by kernel_rfl) (fun k hk => by cases hk) (by kernel_rfl) (laid_met os _))) ?_
  intro W base args ds gs before hval0 hW _ _ _ hL _ _
  have hval : ∀ (j : Nat) t v, Tryz.f3.params[j]? = some t → args[j]? = some v → Value.okWide Tryz.prog W .any base t v := hval0
  have hW' := hW
  obtain ⟨p, q, hA0, hV, rfl, hfz, hnd⟩ := hW
  have hA : DataW.TrodAll enc Tryz.prog W 0 (fun _ => true) true Tryz.f3.params.toList args.toList ds p := hA0
  rw [Tryz.params3] at hA hval
  obtain ⟨v0, vs0, d0, ds0, p0, q0, hargs0, rfl, rfl, h0, r0⟩ := trodAll_cons hA
  obtain ⟨rfl, rfl, rfl⟩ := trodAll_nil r0
  obtain rfl : args = #[v0] := by cases args; simp_all
  obtain ⟨rfl, rfl⟩ := trodVars_none hV
  obtain ⟨a0, len0, cap0, rfl⟩ := okWide_slice Tryz.underlying22 (hval 0 22 v0 rfl rfl)
  have lt0 : ∀ x ∈ p0, x.block < W.heap.size := by obtain ⟨m, hm⟩ := h0; exact DataW.trod_lt m _ _ _ hm
  obtain ⟨l0, ha0, hall0⟩ := arg_told h0
  clear hA0 hval0
  have hgw : Gw W := gw_of_laid hL.tail.tail.tail.tail.tail.tail
  refine (auditStreams_w a0 len0 cap0 l0 W hgw ha0 hall0).mono fun e W' ⟨he, bel⟩ => ?_
  subst he
  exact ⟨_, rfl, _, _, _, [], _, [], hW', trodAll_mk1 (shut_bool Tryz.underlying4 _), (trodAll_cons_mk (Below.trod laidOut (by kernel_rfl) (of_decide_eq_true (by kernel_rfl)) h0 bel lt0) trodAll_mk0), rfl, bel.frame _, fun h => by cases h⟩

theorem kInPlace : (Rows.auditStreamsRow.inPlace == Tryz.prog.inPlace 3) = true := by kernel_rfl

theorem kUnfollowed : (Rows.auditStreamsRow.unfollowed == Tryz.prog.unfollowed 3) = true := by kernel_rfl

theorem kRecurses : (Rows.auditStreamsRow.recurses == Tryz.prog.recurses 3) = true := by kernel_rfl

theorem kNamed : (Rows.auditStreamsRow.named == Tryz.prog.varsNamed 3) = true := by kernel_rfl
theorem kRowed : mapsRowed Tryz.prog = true := by kernel_rfl
theorem kHeard : Tryz.prog.stopsHeard = true := by kernel_rfl
theorem kPlain : (Rows.auditStreamsRow.plainKeys == Tryz.prog.plainKeys) = true := by kernel_rfl
theorem closed : joinedFacts Tryz.prog 3 Tryz.f3 (OpenSpec.ofChange Rows.auditStreamsSpec).bare Rows.auditStreamsRow = true := by
  simp only [joinedFacts, laidOut, kRowed, kHeard, kPlain, kInPlace, kUnfollowed, kRecurses, kNamed, Bool.and_true]
  kernel_rfl

theorem said : Rows.AuditStreamsSaid :=
  OpenClaim.holds_of_cond 3 Tryz.f3 rfl rfl rfl rfl rfl rfl rfl ⟨rfl, rfl, rfl, rfl, rfl⟩ rfl rfl rfl rfl rfl (by kernel_rfl) Tryz.func3 closed
    (of_decide_eq_true (by kernel_rfl)) (by unfold Func.isWrapper; first | (rw [if_pos (by decide +kernel)]; kernel_rfl) | (rw [if_neg (by decide +kernel)]; exact ⟨rfl, rfl⟩))
    (fun os started H enc _ F => by rw [OpenClaim.pre_eq_preRow]; exact lifted os started H enc F)

theorem plain (f : FuncId) (fn : Func) (hf : Tryz.pinned.checked.prog.funcNamed "ferrybridge/ferrybridgelaw25.AuditStreams" = some f) (hfn : Tryz.pinned.checked.prog.funcs[f]? = some fn) :
    true = Tryz.pinned.checked.prog.looks [] ∧ ∀ (j : Nat) t, fn.params[j]? = some t → Tryz.pinned.checked.prog.wantsStandIn t = false := by
  obtain rfl : f = 3 := Option.some.inj ((show Tryz.prog.funcNamed "ferrybridge/ferrybridgelaw25.AuditStreams" = some 3 by kernel_rfl).symm.trans hf) |>.symm
  obtain rfl : fn = Tryz.f3 := (Option.some.inj (Tryz.func3.symm.trans hfn)).symm
  refine ⟨by kernel_rfl, fun j t ht => ?_⟩
  rw [Tryz.params3] at ht
  have hm : t ∈ [22] := by
    have := Array.mem_of_getElem? ht
    simpa using this
  have hall : ([22].all fun u => !Tryz.prog.wantsStandIn u) = true := by kernel_rfl
  exact (show Tryz.prog.wantsStandIn t = false by simpa using List.all_eq_true.1 hall t hm)
end AuditStreams

/-- The tied card. -/
theorem auditStreams_holds : Rows.AuditStreamsCardSaid :=
  Claim7.holds_tied_plain_at .later [] _ _ _ _ AuditStreams.said (fun _ h => by cases h) (by kernel_rfl) (fun _ h => by cases h) auditStreams_row_tie rfl ⟨rfl, rfl⟩ (by kernel_rfl) rfl AuditStreams.plain (goesBy_no _ rfl).symm
end Go.Proofs.YtjpokeakemlffaaGreatDoor
