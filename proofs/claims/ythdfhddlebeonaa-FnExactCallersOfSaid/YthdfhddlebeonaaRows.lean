/-
  No cell of these rows narrows 'for every input' (looked for: loops, veiled, ifaces, maps, wideKeys, modest, calm, conditions, laid).
  DERIVED. THE GIVEN ROWS OF THIS SEAT. 12 by the template 'for every input the law returns true; each argument reads behind the call as it read before'; 0 by the template 'total and deterministic' (their statements: YthdfhddlebeonaaTotals.lean).
  GIVEN WITH THE SEED: the statements are not yours to turn. If you find one false, say at which input.
  Laid BY PROGRAM, IN A SANDBOX (cutbox-rows.mjs): the forced cells as the released guide's own fill.sh prints them over the translation 281cbfca60f3040b… (all of the seat's roots in one cut). By AI agents, Wed Nov 11 2026. No macro, syntax, notation, axiom, sorry.
-/
import Derived.Test.YthdfhddlebeonaaChecked
import GoSem.Claim
import GoSem.ClaimJoined
import GoSem.ClaimMapViews
import Derived.JoinedTies
import Derived.KernelRfl
namespace Go.Proofs.Ythdfhddlebeonaa
/- THE CELL 'sum', in the pinned program and in every row, IS THE sha256 OF THE DUMP (.gsa) THAT YthdfhddlebeonaaProg.lean LOADS. Nothing in Lean hashes anything: it is a label: what it is worth is what the hold of that sum in a sandbox is worth. -/
noncomputable def Try.pinned : Pinned := { name := "ythdfhddlebeonaa", sum := "281cbfca60f3040bb8f820d11eb04e7fe32a160aef396dbe12b1f4257576a496", checked := Try.checked }
namespace Rows
def none {H : Type} : Left H := { results := [], args := [] }

/-- 'laws.FnExactDistanceOf': WHATEVER THE INPUT: true; the input reads as it did. -/
def fnExactDistanceOfSpec : ChangeSpec := { name := "fnExactDistanceOf", fn := fun _ => fun
  | [d1, d2] => { results := [.lit (.bool true)], args := [d1, d2] }
  | _ => none }
def fnExactDistanceOfRow : OpenClaim := { program := "ythdfhddlebeonaa", sum := "281cbfca60f3040bb8f820d11eb04e7fe32a160aef396dbe12b1f4257576a496", func := "loop.example/g01020/laws.FnExactDistanceOf", spec := "fnExactDistanceOf", apart := false }
def FnExactDistanceOfSaid : Prop := fnExactDistanceOfRow.holds Try.pinned (OpenSpec.ofChange fnExactDistanceOfSpec)

/-- ITS FALSE NEIGHBOUR: 'it returns false'. Refute it at one input. -/
def fnExactDistanceOfWrong : ChangeSpec := { name := "fnExactDistanceOf", fn := fun _ => fun
  | [d1, d2] => { results := [.lit (.bool false)], args := [d1, d2] }
  | _ => none }
def FnExactDistanceOfWrongFalsely : Prop := fnExactDistanceOfRow.holds Try.pinned (OpenSpec.ofChange fnExactDistanceOfWrong)

/-- 'laws.FnExactAreOneEvent': WHATEVER THE INPUT: true; the input reads as it did. -/
def fnExactAreOneEventSpec : ChangeSpec := { name := "fnExactAreOneEvent", fn := fun _ => fun
  | [d1, d2, d3, d4] => { results := [.lit (.bool true)], args := [d1, d2, d3, d4] }
  | _ => none }
def fnExactAreOneEventRow : OpenClaim := { program := "ythdfhddlebeonaa", sum := "281cbfca60f3040bb8f820d11eb04e7fe32a160aef396dbe12b1f4257576a496", func := "loop.example/g01020/laws.FnExactAreOneEvent", spec := "fnExactAreOneEvent", apart := false }
def FnExactAreOneEventSaid : Prop := fnExactAreOneEventRow.holds Try.pinned (OpenSpec.ofChange fnExactAreOneEventSpec)

/-- ITS FALSE NEIGHBOUR: 'it returns false'. Refute it at one input. -/
def fnExactAreOneEventWrong : ChangeSpec := { name := "fnExactAreOneEvent", fn := fun _ => fun
  | [d1, d2, d3, d4] => { results := [.lit (.bool false)], args := [d1, d2, d3, d4] }
  | _ => none }
def FnExactAreOneEventWrongFalsely : Prop := fnExactAreOneEventRow.holds Try.pinned (OpenSpec.ofChange fnExactAreOneEventWrong)

/-- 'laws.FnExactAreCalls': WHATEVER THE INPUT: true; the input reads as it did. -/
def fnExactAreCallsSpec : ChangeSpec := { name := "fnExactAreCalls", fn := fun _ => fun
  | [d] => { results := [.lit (.bool true)], args := [d] }
  | _ => none }
def fnExactAreCallsRow : OpenClaim := { program := "ythdfhddlebeonaa", sum := "281cbfca60f3040bb8f820d11eb04e7fe32a160aef396dbe12b1f4257576a496", func := "loop.example/g01020/laws.FnExactAreCalls", spec := "fnExactAreCalls", apart := false }
def FnExactAreCallsSaid : Prop := fnExactAreCallsRow.holds Try.pinned (OpenSpec.ofChange fnExactAreCallsSpec)

/-- ITS FALSE NEIGHBOUR: 'it returns false'. Refute it at one input. -/
def fnExactAreCallsWrong : ChangeSpec := { name := "fnExactAreCalls", fn := fun _ => fun
  | [d] => { results := [.lit (.bool false)], args := [d] }
  | _ => none }
def FnExactAreCallsWrongFalsely : Prop := fnExactAreCallsRow.holds Try.pinned (OpenSpec.ofChange fnExactAreCallsWrong)

/-- 'laws.FnExactBusiestWindow': WHATEVER THE INPUT: true; the input reads as it did. -/
def fnExactBusiestWindowSpec : ChangeSpec := { name := "fnExactBusiestWindow", fn := fun _ => fun
  | [d1, d2] => { results := [.lit (.bool true)], args := [d1, d2] }
  | _ => none }
def fnExactBusiestWindowRow : OpenClaim := { program := "ythdfhddlebeonaa", sum := "281cbfca60f3040bb8f820d11eb04e7fe32a160aef396dbe12b1f4257576a496", func := "loop.example/g01020/laws.FnExactBusiestWindow", spec := "fnExactBusiestWindow", apart := false }
def FnExactBusiestWindowSaid : Prop := fnExactBusiestWindowRow.holds Try.pinned (OpenSpec.ofChange fnExactBusiestWindowSpec)

/-- ITS FALSE NEIGHBOUR: 'it returns false'. Refute it at one input. -/
def fnExactBusiestWindowWrong : ChangeSpec := { name := "fnExactBusiestWindow", fn := fun _ => fun
  | [d1, d2] => { results := [.lit (.bool false)], args := [d1, d2] }
  | _ => none }
def FnExactBusiestWindowWrongFalsely : Prop := fnExactBusiestWindowRow.holds Try.pinned (OpenSpec.ofChange fnExactBusiestWindowWrong)

/-- 'laws.FnExactCallersOf': WHATEVER THE INPUT: true; the input reads as it did. -/
def fnExactCallersOfSpec : ChangeSpec := { name := "fnExactCallersOf", fn := fun _ => fun
  | [d1, d2] => { results := [.lit (.bool true)], args := [d1, d2] }
  | _ => none }
def fnExactCallersOfRow : OpenClaim := { program := "ythdfhddlebeonaa", sum := "281cbfca60f3040bb8f820d11eb04e7fe32a160aef396dbe12b1f4257576a496", func := "loop.example/g01020/laws.FnExactCallersOf", spec := "fnExactCallersOf", apart := false }
def FnExactCallersOfSaid : Prop := fnExactCallersOfRow.holds Try.pinned (OpenSpec.ofChange fnExactCallersOfSpec)

/-- ITS FALSE NEIGHBOUR: 'it returns false'. Refute it at one input. -/
def fnExactCallersOfWrong : ChangeSpec := { name := "fnExactCallersOf", fn := fun _ => fun
  | [d1, d2] => { results := [.lit (.bool false)], args := [d1, d2] }
  | _ => none }
def FnExactCallersOfWrongFalsely : Prop := fnExactCallersOfRow.holds Try.pinned (OpenSpec.ofChange fnExactCallersOfWrong)

/-- 'laws.FnExactRepeatedCalls': WHATEVER THE INPUT: true; the input reads as it did. -/
def fnExactRepeatedCallsSpec : ChangeSpec := { name := "fnExactRepeatedCalls", fn := fun _ => fun
  | [d1, d2] => { results := [.lit (.bool true)], args := [d1, d2] }
  | _ => none }
def fnExactRepeatedCallsRow : OpenClaim := { program := "ythdfhddlebeonaa", sum := "281cbfca60f3040bb8f820d11eb04e7fe32a160aef396dbe12b1f4257576a496", func := "loop.example/g01020/laws.FnExactRepeatedCalls", spec := "fnExactRepeatedCalls", unfollowed := true, recurses := true, apart := false }
def FnExactRepeatedCallsSaid : Prop := fnExactRepeatedCallsRow.holds Try.pinned (OpenSpec.ofChange fnExactRepeatedCallsSpec)

/-- ITS FALSE NEIGHBOUR: 'it returns false'. Refute it at one input. -/
def fnExactRepeatedCallsWrong : ChangeSpec := { name := "fnExactRepeatedCalls", fn := fun _ => fun
  | [d1, d2] => { results := [.lit (.bool false)], args := [d1, d2] }
  | _ => none }
def FnExactRepeatedCallsWrongFalsely : Prop := fnExactRepeatedCallsRow.holds Try.pinned (OpenSpec.ofChange fnExactRepeatedCallsWrong)

/-- 'laws.FnExactIsStretch': WHATEVER THE INPUT: true; the input reads as it did. -/
def fnExactIsStretchSpec : ChangeSpec := { name := "fnExactIsStretch", fn := fun _ => fun
  | [d] => { results := [.lit (.bool true)], args := [d] }
  | _ => none }
def fnExactIsStretchRow : OpenClaim := { program := "ythdfhddlebeonaa", sum := "281cbfca60f3040bb8f820d11eb04e7fe32a160aef396dbe12b1f4257576a496", func := "loop.example/g01020/laws.FnExactIsStretch", spec := "fnExactIsStretch", apart := false }
def FnExactIsStretchSaid : Prop := fnExactIsStretchRow.holds Try.pinned (OpenSpec.ofChange fnExactIsStretchSpec)

/-- ITS FALSE NEIGHBOUR: 'it returns false'. Refute it at one input. -/
def fnExactIsStretchWrong : ChangeSpec := { name := "fnExactIsStretch", fn := fun _ => fun
  | [d] => { results := [.lit (.bool false)], args := [d] }
  | _ => none }
def FnExactIsStretchWrongFalsely : Prop := fnExactIsStretchRow.holds Try.pinned (OpenSpec.ofChange fnExactIsStretchWrong)

/-- 'laws.FnExactAreStretches': WHATEVER THE INPUT: true; the input reads as it did. -/
def fnExactAreStretchesSpec : ChangeSpec := { name := "fnExactAreStretches", fn := fun _ => fun
  | [d] => { results := [.lit (.bool true)], args := [d] }
  | _ => none }
def fnExactAreStretchesRow : OpenClaim := { program := "ythdfhddlebeonaa", sum := "281cbfca60f3040bb8f820d11eb04e7fe32a160aef396dbe12b1f4257576a496", func := "loop.example/g01020/laws.FnExactAreStretches", spec := "fnExactAreStretches", apart := false }
def FnExactAreStretchesSaid : Prop := fnExactAreStretchesRow.holds Try.pinned (OpenSpec.ofChange fnExactAreStretchesSpec)

/-- ITS FALSE NEIGHBOUR: 'it returns false'. Refute it at one input. -/
def fnExactAreStretchesWrong : ChangeSpec := { name := "fnExactAreStretches", fn := fun _ => fun
  | [d] => { results := [.lit (.bool false)], args := [d] }
  | _ => none }
def FnExactAreStretchesWrongFalsely : Prop := fnExactAreStretchesRow.holds Try.pinned (OpenSpec.ofChange fnExactAreStretchesWrong)

/-- 'laws.FnExactHousesOf': WHATEVER THE INPUT: true; the input reads as it did. -/
def fnExactHousesOfSpec : ChangeSpec := { name := "fnExactHousesOf", fn := fun _ => fun
  | [d1, d2] => { results := [.lit (.bool true)], args := [d1, d2] }
  | _ => none }
def fnExactHousesOfRow : OpenClaim := { program := "ythdfhddlebeonaa", sum := "281cbfca60f3040bb8f820d11eb04e7fe32a160aef396dbe12b1f4257576a496", func := "loop.example/g01020/laws.FnExactHousesOf", spec := "fnExactHousesOf", apart := false }
def FnExactHousesOfSaid : Prop := fnExactHousesOfRow.holds Try.pinned (OpenSpec.ofChange fnExactHousesOfSpec)

/-- ITS FALSE NEIGHBOUR: 'it returns false'. Refute it at one input. -/
def fnExactHousesOfWrong : ChangeSpec := { name := "fnExactHousesOf", fn := fun _ => fun
  | [d1, d2] => { results := [.lit (.bool false)], args := [d1, d2] }
  | _ => none }
def FnExactHousesOfWrongFalsely : Prop := fnExactHousesOfRow.holds Try.pinned (OpenSpec.ofChange fnExactHousesOfWrong)

/-- 'laws.FnExactHighestRisk': WHATEVER THE INPUT: true; the input reads as it did. -/
def fnExactHighestRiskSpec : ChangeSpec := { name := "fnExactHighestRisk", fn := fun _ => fun
  | [d1, d2] => { results := [.lit (.bool true)], args := [d1, d2] }
  | _ => none }
def fnExactHighestRiskRow : OpenClaim := { program := "ythdfhddlebeonaa", sum := "281cbfca60f3040bb8f820d11eb04e7fe32a160aef396dbe12b1f4257576a496", func := "loop.example/g01020/laws.FnExactHighestRisk", spec := "fnExactHighestRisk", apart := false }
def FnExactHighestRiskSaid : Prop := fnExactHighestRiskRow.holds Try.pinned (OpenSpec.ofChange fnExactHighestRiskSpec)

/-- ITS FALSE NEIGHBOUR: 'it returns false'. Refute it at one input. -/
def fnExactHighestRiskWrong : ChangeSpec := { name := "fnExactHighestRisk", fn := fun _ => fun
  | [d1, d2] => { results := [.lit (.bool false)], args := [d1, d2] }
  | _ => none }
def FnExactHighestRiskWrongFalsely : Prop := fnExactHighestRiskRow.holds Try.pinned (OpenSpec.ofChange fnExactHighestRiskWrong)

/-- 'laws.FnExactFindAddress': WHATEVER THE INPUT: true; the input reads as it did. -/
def fnExactFindAddressSpec : ChangeSpec := { name := "fnExactFindAddress", fn := fun _ => fun
  | [d1, d2, d3] => { results := [.lit (.bool true)], args := [d1, d2, d3] }
  | _ => none }
def fnExactFindAddressRow : OpenClaim := { program := "ythdfhddlebeonaa", sum := "281cbfca60f3040bb8f820d11eb04e7fe32a160aef396dbe12b1f4257576a496", func := "loop.example/g01020/laws.FnExactFindAddress", spec := "fnExactFindAddress", unfollowed := true, recurses := true, apart := false }
def FnExactFindAddressSaid : Prop := fnExactFindAddressRow.holds Try.pinned (OpenSpec.ofChange fnExactFindAddressSpec)

/-- ITS FALSE NEIGHBOUR: 'it returns false'. Refute it at one input. -/
def fnExactFindAddressWrong : ChangeSpec := { name := "fnExactFindAddress", fn := fun _ => fun
  | [d1, d2, d3] => { results := [.lit (.bool false)], args := [d1, d2, d3] }
  | _ => none }
def FnExactFindAddressWrongFalsely : Prop := fnExactFindAddressRow.holds Try.pinned (OpenSpec.ofChange fnExactFindAddressWrong)

/-- 'laws.FnExactGapsOf': WHATEVER THE INPUT: true; the input reads as it did. -/
def fnExactGapsOfSpec : ChangeSpec := { name := "fnExactGapsOf", fn := fun _ => fun
  | [d1, d2] => { results := [.lit (.bool true)], args := [d1, d2] }
  | _ => none }
def fnExactGapsOfRow : OpenClaim := { program := "ythdfhddlebeonaa", sum := "281cbfca60f3040bb8f820d11eb04e7fe32a160aef396dbe12b1f4257576a496", func := "loop.example/g01020/laws.FnExactGapsOf", spec := "fnExactGapsOf", apart := false }
def FnExactGapsOfSaid : Prop := fnExactGapsOfRow.holds Try.pinned (OpenSpec.ofChange fnExactGapsOfSpec)

/-- ITS FALSE NEIGHBOUR: 'it returns false'. Refute it at one input. -/
def fnExactGapsOfWrong : ChangeSpec := { name := "fnExactGapsOf", fn := fun _ => fun
  | [d1, d2] => { results := [.lit (.bool false)], args := [d1, d2] }
  | _ => none }
def FnExactGapsOfWrongFalsely : Prop := fnExactGapsOfRow.holds Try.pinned (OpenSpec.ofChange fnExactGapsOfWrong)

/- THE SECOND FORM. 'bulk': how many values and letters a reading holds, each counted each time it is reached (what is shared counts as often as it is met; a slice's spare places count too). A statement '..UptoSaid' is the law's where the arguments, and the package variables that the reading takes, are together of bulk at most 1048576: NARROWER than '..Said'. Prove '..Said' where nothing that the law and all that it calls make is longer than what came in: it says more and counts as full. Else prove '..UptoSaid'. A law counts once. -/
mutual
def uptoBulk {H : Type} : DataW H → Nat
  | .lit (.string bytes) => bytes.length + 1
  | .lit _ => 1
  | .nil => 1
  | .ptr d => uptoBulk d + 1
  | .slice elems spare => uptoBulkAll elems + uptoBulkAll spare + 1
  | .agg parts => uptoBulkAll parts + 1
  | .iface _ d => uptoBulk d + 1
  | .map entries => uptoBulkEntries entries + 1
  | .held _ => 1
def uptoBulkAll {H : Type} : List (DataW H) → Nat
  | [] => 0
  | d :: r => uptoBulk d + uptoBulkAll r
def uptoBulkEntries {H : Type} : List (Lit × DataW H) → Nat
  | [] => 0
  | x :: r => uptoBulkEntry x + uptoBulkEntries r
def uptoBulkEntry {H : Type} : Lit × DataW H → Nat
  | (.string bytes, d) => bytes.length + uptoBulk d + 1
  | (_, d) => uptoBulk d + 1
 end
def uptoSmall : (H : Type) → List (DataW H) → Bool := fun _ ds => decide (uptoBulkAll ds ≤ 1048576)
def OpenSpec.upto (s : _root_.Go.ChangeSpec) : _root_.Go.OpenSpec := { _root_.Go.OpenSpec.ofChange s with cond := some uptoSmall }

/-- 'laws.FnExactDistanceOf', WHERE WHAT IT READS IS OF BULK AT MOST 1048576: true; the input reads as it did. -/
def fnExactDistanceOfUptoRow : OpenClaim := { program := "ythdfhddlebeonaa", sum := "281cbfca60f3040bb8f820d11eb04e7fe32a160aef396dbe12b1f4257576a496", func := "loop.example/g01020/laws.FnExactDistanceOf", spec := "fnExactDistanceOf", apart := false, narrowed := true }
def FnExactDistanceOfUptoSaid : Prop := fnExactDistanceOfUptoRow.holds Try.pinned (OpenSpec.upto fnExactDistanceOfSpec)

/-- 'laws.FnExactAreOneEvent', WHERE WHAT IT READS IS OF BULK AT MOST 1048576: true; the input reads as it did. -/
def fnExactAreOneEventUptoRow : OpenClaim := { program := "ythdfhddlebeonaa", sum := "281cbfca60f3040bb8f820d11eb04e7fe32a160aef396dbe12b1f4257576a496", func := "loop.example/g01020/laws.FnExactAreOneEvent", spec := "fnExactAreOneEvent", apart := false, narrowed := true }
def FnExactAreOneEventUptoSaid : Prop := fnExactAreOneEventUptoRow.holds Try.pinned (OpenSpec.upto fnExactAreOneEventSpec)

/-- 'laws.FnExactAreCalls', WHERE WHAT IT READS IS OF BULK AT MOST 1048576: true; the input reads as it did. -/
def fnExactAreCallsUptoRow : OpenClaim := { program := "ythdfhddlebeonaa", sum := "281cbfca60f3040bb8f820d11eb04e7fe32a160aef396dbe12b1f4257576a496", func := "loop.example/g01020/laws.FnExactAreCalls", spec := "fnExactAreCalls", apart := false, narrowed := true }
def FnExactAreCallsUptoSaid : Prop := fnExactAreCallsUptoRow.holds Try.pinned (OpenSpec.upto fnExactAreCallsSpec)

/-- 'laws.FnExactBusiestWindow', WHERE WHAT IT READS IS OF BULK AT MOST 1048576: true; the input reads as it did. -/
def fnExactBusiestWindowUptoRow : OpenClaim := { program := "ythdfhddlebeonaa", sum := "281cbfca60f3040bb8f820d11eb04e7fe32a160aef396dbe12b1f4257576a496", func := "loop.example/g01020/laws.FnExactBusiestWindow", spec := "fnExactBusiestWindow", apart := false, narrowed := true }
def FnExactBusiestWindowUptoSaid : Prop := fnExactBusiestWindowUptoRow.holds Try.pinned (OpenSpec.upto fnExactBusiestWindowSpec)

/-- 'laws.FnExactCallersOf', WHERE WHAT IT READS IS OF BULK AT MOST 1048576: true; the input reads as it did. -/
def fnExactCallersOfUptoRow : OpenClaim := { program := "ythdfhddlebeonaa", sum := "281cbfca60f3040bb8f820d11eb04e7fe32a160aef396dbe12b1f4257576a496", func := "loop.example/g01020/laws.FnExactCallersOf", spec := "fnExactCallersOf", apart := false, narrowed := true }
def FnExactCallersOfUptoSaid : Prop := fnExactCallersOfUptoRow.holds Try.pinned (OpenSpec.upto fnExactCallersOfSpec)

/-- 'laws.FnExactRepeatedCalls', WHERE WHAT IT READS IS OF BULK AT MOST 1048576: true; the input reads as it did. -/
def fnExactRepeatedCallsUptoRow : OpenClaim := { program := "ythdfhddlebeonaa", sum := "281cbfca60f3040bb8f820d11eb04e7fe32a160aef396dbe12b1f4257576a496", func := "loop.example/g01020/laws.FnExactRepeatedCalls", spec := "fnExactRepeatedCalls", unfollowed := true, recurses := true, apart := false, narrowed := true }
def FnExactRepeatedCallsUptoSaid : Prop := fnExactRepeatedCallsUptoRow.holds Try.pinned (OpenSpec.upto fnExactRepeatedCallsSpec)

/-- 'laws.FnExactIsStretch', WHERE WHAT IT READS IS OF BULK AT MOST 1048576: true; the input reads as it did. -/
def fnExactIsStretchUptoRow : OpenClaim := { program := "ythdfhddlebeonaa", sum := "281cbfca60f3040bb8f820d11eb04e7fe32a160aef396dbe12b1f4257576a496", func := "loop.example/g01020/laws.FnExactIsStretch", spec := "fnExactIsStretch", apart := false, narrowed := true }
def FnExactIsStretchUptoSaid : Prop := fnExactIsStretchUptoRow.holds Try.pinned (OpenSpec.upto fnExactIsStretchSpec)

/-- 'laws.FnExactAreStretches', WHERE WHAT IT READS IS OF BULK AT MOST 1048576: true; the input reads as it did. -/
def fnExactAreStretchesUptoRow : OpenClaim := { program := "ythdfhddlebeonaa", sum := "281cbfca60f3040bb8f820d11eb04e7fe32a160aef396dbe12b1f4257576a496", func := "loop.example/g01020/laws.FnExactAreStretches", spec := "fnExactAreStretches", apart := false, narrowed := true }
def FnExactAreStretchesUptoSaid : Prop := fnExactAreStretchesUptoRow.holds Try.pinned (OpenSpec.upto fnExactAreStretchesSpec)

/-- 'laws.FnExactHousesOf', WHERE WHAT IT READS IS OF BULK AT MOST 1048576: true; the input reads as it did. -/
def fnExactHousesOfUptoRow : OpenClaim := { program := "ythdfhddlebeonaa", sum := "281cbfca60f3040bb8f820d11eb04e7fe32a160aef396dbe12b1f4257576a496", func := "loop.example/g01020/laws.FnExactHousesOf", spec := "fnExactHousesOf", apart := false, narrowed := true }
def FnExactHousesOfUptoSaid : Prop := fnExactHousesOfUptoRow.holds Try.pinned (OpenSpec.upto fnExactHousesOfSpec)

/-- 'laws.FnExactHighestRisk', WHERE WHAT IT READS IS OF BULK AT MOST 1048576: true; the input reads as it did. -/
def fnExactHighestRiskUptoRow : OpenClaim := { program := "ythdfhddlebeonaa", sum := "281cbfca60f3040bb8f820d11eb04e7fe32a160aef396dbe12b1f4257576a496", func := "loop.example/g01020/laws.FnExactHighestRisk", spec := "fnExactHighestRisk", apart := false, narrowed := true }
def FnExactHighestRiskUptoSaid : Prop := fnExactHighestRiskUptoRow.holds Try.pinned (OpenSpec.upto fnExactHighestRiskSpec)

/-- 'laws.FnExactFindAddress', WHERE WHAT IT READS IS OF BULK AT MOST 1048576: true; the input reads as it did. -/
def fnExactFindAddressUptoRow : OpenClaim := { program := "ythdfhddlebeonaa", sum := "281cbfca60f3040bb8f820d11eb04e7fe32a160aef396dbe12b1f4257576a496", func := "loop.example/g01020/laws.FnExactFindAddress", spec := "fnExactFindAddress", unfollowed := true, recurses := true, apart := false, narrowed := true }
def FnExactFindAddressUptoSaid : Prop := fnExactFindAddressUptoRow.holds Try.pinned (OpenSpec.upto fnExactFindAddressSpec)

/-- 'laws.FnExactGapsOf', WHERE WHAT IT READS IS OF BULK AT MOST 1048576: true; the input reads as it did. -/
def fnExactGapsOfUptoRow : OpenClaim := { program := "ythdfhddlebeonaa", sum := "281cbfca60f3040bb8f820d11eb04e7fe32a160aef396dbe12b1f4257576a496", func := "loop.example/g01020/laws.FnExactGapsOf", spec := "fnExactGapsOf", apart := false, narrowed := true }
def FnExactGapsOfUptoSaid : Prop := fnExactGapsOfUptoRow.holds Try.pinned (OpenSpec.upto fnExactGapsOfSpec)

end Rows
end Go.Proofs.Ythdfhddlebeonaa
