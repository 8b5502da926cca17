/-
  The law WorldTicks answers true: time goes on alike on both sides, by as many ticks as are told, at most twenty each time: the tied card WorldTicksCardSaid. The listed package variables start as the text of the program lays them; no other condition.
-/
import Derived.Deep.DeepHandedRow
import Derived.Deep.DeepWitnessRowRef
import Derived.Deep.Slices
import Derived.LaidMore
import Derived.Test.YtplhjemlbadkmaaGreatDoorCards
import Derived.Test.YtplhjemlbadkmaaGreatDoorTie
import Derived.Test.YtplhjemlbadkmaaGreatDoorT1
import Derived.Test.YtplhjemlbadkmaaGreatDoorT6
import Derived.Test.YtplhjemlbadkmaaGreatDoorT35
import Derived.Test.YtplhjemlbadkmaaGreatDoorT39
set_option linter.unusedSimpArgs false
set_option linter.unusedVariables false
namespace Go.Proofs.YtplhjemlbadkmaaGreatDoor
open Go.RowKit Go.ChangeShapes Go.WideShapes Go.ChangeAt
namespace WorldTicks

theorem own : ownKnob Tryz.prog.godebug = none := by kernel_rfl
theorem laidOut : laidOutB Tryz.prog = true := by kernel_rfl
theorem laid_met (os : Os) (args : Array Value) : laidMet Tryz.prog Rows.worldTicksRow.laid ((World.doorLaid Tryz.prog 92 os).forCall (fun _ _ => 0) ⟨#[], args, []⟩).memory :=
  laidMet_of_run' 8 (by kernel_rfl) (by kernel_rfl)
theorem reads (os : Os) {H : Type} (enc : TypeId × Value → H) : ∃ places, DataW.whole enc Tryz.prog ((World.doorLaid Tryz.prog 92 os).forCall (fun _ _ => 0) ⟨#[], #[.int .u64 0, .slice none 0 0], []⟩).memory Tryz.f3.params.toList Rows.worldTicksSpec.vars false (#[.int .u64 0, .slice none 0 0] : Array Value).toList 8 = some ([.lit (.int .u64 0), .nil], [], places) :=
  ⟨[], by kernel_rfl⟩

set_option maxRecDepth 100000 in
set_option maxHeartbeats 1600000 in
theorem lifted (os : Os) (started : os.Started) (H : Type) (enc : TypeId × Value → H) (F : Stop.Interp) :
    ReturnsInHanded {} Tryz.checked os 3 .any ((OpenSpec.ofChange Rows.worldTicksSpec).preRow enc Tryz.prog Tryz.f3 Rows.worldTicksRow.domain false Rows.worldTicksRow.laid) (((OpenSpec.ofChange Rows.worldTicksSpec).at F).post enc Tryz.prog Tryz.f3 false true false false) := by
  obtain ⟨places, hx⟩ := reads os enc
  refine returnsInHanded_of_row (C := Tryz.checked) (s := OpenSpec.ofChange Rows.worldTicksSpec) own started (by kernel_rfl) Tryz.func3
    (witness_row_atRef (enc := enc) (C := Tryz.checked) false (World.doorLaid Tryz.prog 92 os) #[.int .u64 0, .slice none 0 0] rfl (by kernel_rfl) (by kernel_rfl) (by kernel_rfl)
      (OpenSpec.preRow_of_cond 8 hx (by kernel_rfl) (fun k hk => by cases hk) (by kernel_rfl) (laid_met os _))) ?_
  intro W base args ds gs before hval0 hW _ _ _ hL _ _
  have hval : ∀ (j : Nat) t v, Tryz.f3.params[j]? = some t → args[j]? = some v → Value.okWide Tryz.prog W .any base t v := hval0
  have hW' := hW
  obtain ⟨p, q, hA0, hV, rfl, hfz, hnd⟩ := hW
  have hA : DataW.TrodAll enc Tryz.prog W 0 (fun _ => true) true Tryz.f3.params.toList args.toList ds p := hA0
  rw [Tryz.params3] at hA hval
  obtain ⟨v0, vs0, d0, ds0, p0, q0, hargs0, rfl, rfl, h0, r0⟩ := trodAll_cons hA
  obtain ⟨v1, vs1, d1, ds1, p1, q1, hargs1, rfl, rfl, h1, r1⟩ := trodAll_cons r0
  obtain ⟨rfl, rfl, rfl⟩ := trodAll_nil r1
  obtain rfl : args = #[v0, v1] := by cases args; simp_all
  obtain ⟨rfl, rfl⟩ := trodVars_none hV
  obtain ⟨n0, rfl, rfl, rfl, wf0⟩ := open_int Tryz.underlying22 (hval 0 22 v0 rfl rfl) h0
  obtain ⟨a1, len1, cap1, rfl⟩ := okWide_slice Tryz.underlying23 (hval 1 23 v1 rfl rfl)
  have lt0 : ∀ x ∈ ([] : List MemPlace), x.block < W.heap.size := by simp
  have lt1 : ∀ x ∈ p1, x.block < W.heap.size := by obtain ⟨m, hm⟩ := h1; exact DataW.trod_lt m _ _ _ hm
  have bd0 := bounds_u64 wf0
  obtain ⟨l1, ha1, hall1⟩ := arg_ints Tryz.underlying23 Tryz.underlying3 (by kernel_rfl) h1
  clear hA0 hval0
  have hgw : Gw W := gw_of_laid hL.tail.tail.tail.tail.tail.tail
  refine (worldTicks_walk n0 a1 len1 cap1 l1 W hgw bd0.1 (by have := bd0.2; omega) ha1 hall1).mono fun e W' ⟨he, bel⟩ => ?_
  subst he
  exact ⟨_, rfl, _, _, _, [], _, [], hW', trodAll_mk1 (shut_bool Tryz.underlying4 _), (trodAll_cons_mk (Below.trod laidOut (by kernel_rfl) (of_decide_eq_true (by kernel_rfl)) h0 bel lt0) (trodAll_cons_mk (Below.trod laidOut (by kernel_rfl) (of_decide_eq_true (by kernel_rfl)) h1 bel lt1) trodAll_mk0)), rfl, bel.frame _, fun h => by cases h⟩

theorem kInPlace : (Rows.worldTicksRow.inPlace == Tryz.prog.inPlace 3) = true := by kernel_rfl

theorem kUnfollowed : (Rows.worldTicksRow.unfollowed == Tryz.prog.unfollowed 3) = true := by kernel_rfl

theorem kRecurses : (Rows.worldTicksRow.recurses == Tryz.prog.recurses 3) = true := by kernel_rfl

theorem kNamed : (Rows.worldTicksRow.named == Tryz.prog.varsNamed 3) = true := by kernel_rfl
theorem kRowed : mapsRowed Tryz.prog = true := by kernel_rfl
theorem kHeard : Tryz.prog.stopsHeard = true := by kernel_rfl
theorem kPlain : (Rows.worldTicksRow.plainKeys == Tryz.prog.plainKeys) = true := by kernel_rfl
theorem closed : joinedFacts Tryz.prog 3 Tryz.f3 (OpenSpec.ofChange Rows.worldTicksSpec).bare Rows.worldTicksRow = true := by
  simp only [joinedFacts, laidOut, kRowed, kHeard, kPlain, kInPlace, kUnfollowed, kRecurses, kNamed, Bool.and_true]
  kernel_rfl

theorem said : Rows.WorldTicksSaid :=
  OpenClaim.holds_of_cond 3 Tryz.f3 rfl rfl rfl rfl rfl rfl rfl ⟨rfl, rfl, rfl, rfl, rfl⟩ rfl rfl rfl rfl rfl (by kernel_rfl) Tryz.func3 closed
    (of_decide_eq_true (by kernel_rfl)) (by unfold Func.isWrapper; first | (rw [if_pos (by decide +kernel)]; kernel_rfl) | (rw [if_neg (by decide +kernel)]; exact ⟨rfl, rfl⟩))
    (fun os started H enc _ F => by rw [OpenClaim.pre_eq_preRow]; exact lifted os started H enc F)

theorem plain (f : FuncId) (fn : Func) (hf : Tryz.pinned.checked.prog.funcNamed "ferrybridge/ferrybridgelaw23.WorldTicks" = some f) (hfn : Tryz.pinned.checked.prog.funcs[f]? = some fn) :
    true = Tryz.pinned.checked.prog.looks [] ∧ ∀ (j : Nat) t, fn.params[j]? = some t → Tryz.pinned.checked.prog.wantsStandIn t = false := by
  obtain rfl : f = 3 := Option.some.inj ((show Tryz.prog.funcNamed "ferrybridge/ferrybridgelaw23.WorldTicks" = some 3 by kernel_rfl).symm.trans hf) |>.symm
  obtain rfl : fn = Tryz.f3 := (Option.some.inj (Tryz.func3.symm.trans hfn)).symm
  refine ⟨by kernel_rfl, fun j t ht => ?_⟩
  rw [Tryz.params3] at ht
  have hm : t ∈ [22, 23] := by
    have := Array.mem_of_getElem? ht
    simpa using this
  have hall : ([22, 23].all fun u => !Tryz.prog.wantsStandIn u) = true := by kernel_rfl
  exact (show Tryz.prog.wantsStandIn t = false by simpa using List.all_eq_true.1 hall t hm)
end WorldTicks

/-- The tied card. -/
theorem worldTicks_holds : Rows.WorldTicksCardSaid :=
  Claim7.holds_tied_plain_at .later [] _ _ _ _ WorldTicks.said (fun _ h => by cases h) (by kernel_rfl) (fun _ h => by cases h) worldTicks_row_tie rfl ⟨rfl, rfl⟩ (by kernel_rfl) rfl WorldTicks.plain (goesBy_no _ rfl).symm
end Go.Proofs.YtplhjemlbadkmaaGreatDoor
