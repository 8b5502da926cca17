/-
  No cell of these rows narrows 'for every input' (looked for: loops, veiled, ifaces, maps, wideKeys, modest, calm, conditions, laid).
  DERIVED. THE GIVEN ROWS OF THIS SEAT. 4 by the template 'for every input the law returns true; each argument reads behind the call as it read before'; 0 by the template 'total and deterministic' (their statements: YtmiannlghigagaaTotals.lean).
  GIVEN WITH THE SEED: the statements are not yours to turn. If you find one false, say at which input.
  Laid BY PROGRAM, IN A SANDBOX (cutbox-rows.mjs): the forced cells as the released guide's own fill.sh prints them over the translation 4a863e22586809ef… (all of the seat's roots in one cut). By AI agents, Wed Nov 11 2026. No macro, syntax, notation, axiom, sorry.
-/
import Derived.Test.YtmiannlghigagaaChecked
import GoSem.Claim
import GoSem.ClaimJoined
import GoSem.ClaimMapViews
import Derived.JoinedTies
import Derived.KernelRfl
namespace Go.Proofs.Ytmiannlghigagaa
/- THE CELL 'sum', in the pinned program and in every row, IS THE sha256 OF THE DUMP (.gsa) THAT YtmiannlghigagaaProg.lean LOADS. Nothing in Lean hashes anything: it is a label: what it is worth is what the hold of that sum in a sandbox is worth. -/
noncomputable def Try.pinned : Pinned := { name := "ytmiannlghigagaa", sum := "4a863e22586809ef1e0dcc76f714ff795010b46bb91ec6085ac495a04f0620d5", checked := Try.checked }
namespace Rows
def none {H : Type} : Left H := { results := [], args := [] }

/-- 'ferrybridgelaw24.ScriptGets': WHATEVER THE INPUT: true; the input reads as it did. -/
def scriptGetsSpec : ChangeSpec := { name := "scriptGets", fn := fun _ => fun
  | [d] => { results := [.lit (.bool true)], args := [d] }
  | _ => none }
def scriptGetsRow : OpenClaim := { program := "ytmiannlghigagaa", sum := "4a863e22586809ef1e0dcc76f714ff795010b46bb91ec6085ac495a04f0620d5", func := "ferrybridge/ferrybridgelaw24.ScriptGets", spec := "scriptGets", unfollowed := true, recurses := true, apart := false }
def ScriptGetsSaid : Prop := scriptGetsRow.holds Try.pinned (OpenSpec.ofChange scriptGetsSpec)

/-- ITS FALSE NEIGHBOUR: 'it returns false'. Refute it at one input. -/
def scriptGetsWrong : ChangeSpec := { name := "scriptGets", fn := fun _ => fun
  | [d] => { results := [.lit (.bool false)], args := [d] }
  | _ => none }
def ScriptGetsWrongFalsely : Prop := scriptGetsRow.holds Try.pinned (OpenSpec.ofChange scriptGetsWrong)

/-- 'ferrybridgelaw24.ScriptPuts': WHATEVER THE INPUT: true; the input reads as it did. -/
def scriptPutsSpec : ChangeSpec := { name := "scriptPuts", fn := fun _ => fun
  | [d] => { results := [.lit (.bool true)], args := [d] }
  | _ => none }
def scriptPutsRow : OpenClaim := { program := "ytmiannlghigagaa", sum := "4a863e22586809ef1e0dcc76f714ff795010b46bb91ec6085ac495a04f0620d5", func := "ferrybridge/ferrybridgelaw24.ScriptPuts", spec := "scriptPuts", unfollowed := true, recurses := true, apart := false }
def ScriptPutsSaid : Prop := scriptPutsRow.holds Try.pinned (OpenSpec.ofChange scriptPutsSpec)

/-- ITS FALSE NEIGHBOUR: 'it returns false'. Refute it at one input. -/
def scriptPutsWrong : ChangeSpec := { name := "scriptPuts", fn := fun _ => fun
  | [d] => { results := [.lit (.bool false)], args := [d] }
  | _ => none }
def ScriptPutsWrongFalsely : Prop := scriptPutsRow.holds Try.pinned (OpenSpec.ofChange scriptPutsWrong)

/-- 'ferrybridgelaw24.ScriptCut': WHATEVER THE INPUT: true; the input reads as it did. -/
def scriptCutSpec : ChangeSpec := { name := "scriptCut", fn := fun _ => fun
  | [d1, d2, d3] => { results := [.lit (.bool true)], args := [d1, d2, d3] }
  | _ => none }
def scriptCutRow : OpenClaim := { program := "ytmiannlghigagaa", sum := "4a863e22586809ef1e0dcc76f714ff795010b46bb91ec6085ac495a04f0620d5", func := "ferrybridge/ferrybridgelaw24.ScriptCut", spec := "scriptCut", unfollowed := true, recurses := true, apart := false }
def ScriptCutSaid : Prop := scriptCutRow.holds Try.pinned (OpenSpec.ofChange scriptCutSpec)

/-- ITS FALSE NEIGHBOUR: 'it returns false'. Refute it at one input. -/
def scriptCutWrong : ChangeSpec := { name := "scriptCut", fn := fun _ => fun
  | [d1, d2, d3] => { results := [.lit (.bool false)], args := [d1, d2, d3] }
  | _ => none }
def ScriptCutWrongFalsely : Prop := scriptCutRow.holds Try.pinned (OpenSpec.ofChange scriptCutWrong)

/-- 'ferrybridgelaw24.ScriptMany': WHATEVER THE INPUT: true; the input reads as it did. -/
def scriptManySpec : ChangeSpec := { name := "scriptMany", fn := fun _ => fun
  | [d] => { results := [.lit (.bool true)], args := [d] }
  | _ => none }
def scriptManyRow : OpenClaim := { program := "ytmiannlghigagaa", sum := "4a863e22586809ef1e0dcc76f714ff795010b46bb91ec6085ac495a04f0620d5", func := "ferrybridge/ferrybridgelaw24.ScriptMany", spec := "scriptMany", unfollowed := true, recurses := true, apart := false }
def ScriptManySaid : Prop := scriptManyRow.holds Try.pinned (OpenSpec.ofChange scriptManySpec)

/-- ITS FALSE NEIGHBOUR: 'it returns false'. Refute it at one input. -/
def scriptManyWrong : ChangeSpec := { name := "scriptMany", fn := fun _ => fun
  | [d] => { results := [.lit (.bool false)], args := [d] }
  | _ => none }
def ScriptManyWrongFalsely : Prop := scriptManyRow.holds Try.pinned (OpenSpec.ofChange scriptManyWrong)

/- THE SECOND FORM. 'bulk': how many values and letters a reading holds, each counted each time it is reached (what is shared counts as often as it is met; a slice's spare places count too). A statement '..UptoSaid' is the law's where the arguments, and the package variables that the reading takes, are together of bulk at most 1048576: NARROWER than '..Said'. Prove '..Said' where nothing that the law and all that it calls make is longer than what came in: it says more and counts as full. Else prove '..UptoSaid'. A law counts once. -/
mutual
def uptoBulk {H : Type} : DataW H → Nat
  | .lit (.string bytes) => bytes.length + 1
  | .lit _ => 1
  | .nil => 1
  | .ptr d => uptoBulk d + 1
  | .slice elems spare => uptoBulkAll elems + uptoBulkAll spare + 1
  | .agg parts => uptoBulkAll parts + 1
  | .iface _ d => uptoBulk d + 1
  | .map entries => uptoBulkEntries entries + 1
  | .held _ => 1
def uptoBulkAll {H : Type} : List (DataW H) → Nat
  | [] => 0
  | d :: r => uptoBulk d + uptoBulkAll r
def uptoBulkEntries {H : Type} : List (Lit × DataW H) → Nat
  | [] => 0
  | x :: r => uptoBulkEntry x + uptoBulkEntries r
def uptoBulkEntry {H : Type} : Lit × DataW H → Nat
  | (.string bytes, d) => bytes.length + uptoBulk d + 1
  | (_, d) => uptoBulk d + 1
 end
def uptoSmall : (H : Type) → List (DataW H) → Bool := fun _ ds => decide (uptoBulkAll ds ≤ 1048576)
def OpenSpec.upto (s : _root_.Go.ChangeSpec) : _root_.Go.OpenSpec := { _root_.Go.OpenSpec.ofChange s with cond := some uptoSmall }

/-- 'ferrybridgelaw24.ScriptGets', WHERE WHAT IT READS IS OF BULK AT MOST 1048576: true; the input reads as it did. -/
def scriptGetsUptoRow : OpenClaim := { program := "ytmiannlghigagaa", sum := "4a863e22586809ef1e0dcc76f714ff795010b46bb91ec6085ac495a04f0620d5", func := "ferrybridge/ferrybridgelaw24.ScriptGets", spec := "scriptGets", unfollowed := true, recurses := true, apart := false, narrowed := true }
def ScriptGetsUptoSaid : Prop := scriptGetsUptoRow.holds Try.pinned (OpenSpec.upto scriptGetsSpec)

/-- 'ferrybridgelaw24.ScriptPuts', WHERE WHAT IT READS IS OF BULK AT MOST 1048576: true; the input reads as it did. -/
def scriptPutsUptoRow : OpenClaim := { program := "ytmiannlghigagaa", sum := "4a863e22586809ef1e0dcc76f714ff795010b46bb91ec6085ac495a04f0620d5", func := "ferrybridge/ferrybridgelaw24.ScriptPuts", spec := "scriptPuts", unfollowed := true, recurses := true, apart := false, narrowed := true }
def ScriptPutsUptoSaid : Prop := scriptPutsUptoRow.holds Try.pinned (OpenSpec.upto scriptPutsSpec)

/-- 'ferrybridgelaw24.ScriptCut', WHERE WHAT IT READS IS OF BULK AT MOST 1048576: true; the input reads as it did. -/
def scriptCutUptoRow : OpenClaim := { program := "ytmiannlghigagaa", sum := "4a863e22586809ef1e0dcc76f714ff795010b46bb91ec6085ac495a04f0620d5", func := "ferrybridge/ferrybridgelaw24.ScriptCut", spec := "scriptCut", unfollowed := true, recurses := true, apart := false, narrowed := true }
def ScriptCutUptoSaid : Prop := scriptCutUptoRow.holds Try.pinned (OpenSpec.upto scriptCutSpec)

/-- 'ferrybridgelaw24.ScriptMany', WHERE WHAT IT READS IS OF BULK AT MOST 1048576: true; the input reads as it did. -/
def scriptManyUptoRow : OpenClaim := { program := "ytmiannlghigagaa", sum := "4a863e22586809ef1e0dcc76f714ff795010b46bb91ec6085ac495a04f0620d5", func := "ferrybridge/ferrybridgelaw24.ScriptMany", spec := "scriptMany", unfollowed := true, recurses := true, apart := false, narrowed := true }
def ScriptManyUptoSaid : Prop := scriptManyUptoRow.holds Try.pinned (OpenSpec.upto scriptManySpec)

end Rows
end Go.Proofs.Ytmiannlghigagaa
