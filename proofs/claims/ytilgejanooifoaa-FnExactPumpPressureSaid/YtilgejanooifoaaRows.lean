/-
  No cell of these rows narrows 'for every input' (looked for: loops, veiled, ifaces, maps, wideKeys, modest, calm, conditions, laid).
  DERIVED. THE GIVEN ROWS OF THIS SEAT. 11 by the template 'for every input the law returns true; each argument reads behind the call as it read before'; 0 by the template 'total and deterministic' (their statements: YtilgejanooifoaaTotals.lean).
  GIVEN WITH THE SEED: the statements are not yours to turn. If you find one false, say at which input.
  Laid BY PROGRAM, IN A SANDBOX (cutbox-rows.mjs): the forced cells as the released guide's own fill.sh prints them over the translation 561f7865825e1082… (all of the seat's roots in one cut). By AI agents, Wed Nov 11 2026. No macro, syntax, notation, axiom, sorry.
-/
import Derived.Test.YtilgejanooifoaaChecked
import GoSem.Claim
import GoSem.ClaimJoined
import GoSem.ClaimMapViews
import Derived.JoinedTies
import Derived.KernelRfl
namespace Go.Proofs.Ytilgejanooifoaa
/- THE CELL 'sum', in the pinned program and in every row, IS THE sha256 OF THE DUMP (.gsa) THAT YtilgejanooifoaaProg.lean LOADS. Nothing in Lean hashes anything: it is a label: what it is worth is what the hold of that sum in a sandbox is worth. -/
noncomputable def Try.pinned : Pinned := { name := "ytilgejanooifoaa", sum := "561f7865825e1082b897cd314ff12bd88536ad9c4ef83360d7ab726e5f424632", checked := Try.checked }
namespace Rows
def none {H : Type} : Left H := { results := [], args := [] }

/-- 'laws.FnExactConstants': WHATEVER THE INPUT: true; the input reads as it did. -/
def fnExactConstantsSpec : ChangeSpec := { name := "fnExactConstants", fn := fun _ => fun
  | [] => { results := [.lit (.bool true)], args := [] }
  | _ => none }
def fnExactConstantsRow : OpenClaim := { program := "ytilgejanooifoaa", sum := "561f7865825e1082b897cd314ff12bd88536ad9c4ef83360d7ab726e5f424632", func := "loop.example/g01020/laws.FnExactConstants", spec := "fnExactConstants", apart := false }
def FnExactConstantsSaid : Prop := fnExactConstantsRow.holds Try.pinned (OpenSpec.ofChange fnExactConstantsSpec)

/-- ITS FALSE NEIGHBOUR: 'it returns false'. Refute it at one input. -/
def fnExactConstantsWrong : ChangeSpec := { name := "fnExactConstants", fn := fun _ => fun
  | [] => { results := [.lit (.bool false)], args := [] }
  | _ => none }
def FnExactConstantsWrongFalsely : Prop := fnExactConstantsRow.holds Try.pinned (OpenSpec.ofChange fnExactConstantsWrong)

/-- 'laws.FnExactIsHose': WHATEVER THE INPUT: true; the input reads as it did. -/
def fnExactIsHoseSpec : ChangeSpec := { name := "fnExactIsHose", fn := fun _ => fun
  | [d] => { results := [.lit (.bool true)], args := [d] }
  | _ => none }
def fnExactIsHoseRow : OpenClaim := { program := "ytilgejanooifoaa", sum := "561f7865825e1082b897cd314ff12bd88536ad9c4ef83360d7ab726e5f424632", func := "loop.example/g01020/laws.FnExactIsHose", spec := "fnExactIsHose", apart := false }
def FnExactIsHoseSaid : Prop := fnExactIsHoseRow.holds Try.pinned (OpenSpec.ofChange fnExactIsHoseSpec)

/-- ITS FALSE NEIGHBOUR: 'it returns false'. Refute it at one input. -/
def fnExactIsHoseWrong : ChangeSpec := { name := "fnExactIsHose", fn := fun _ => fun
  | [d] => { results := [.lit (.bool false)], args := [d] }
  | _ => none }
def FnExactIsHoseWrongFalsely : Prop := fnExactIsHoseRow.holds Try.pinned (OpenSpec.ofChange fnExactIsHoseWrong)

/-- 'laws.FnExactHosesFor': WHATEVER THE INPUT: true; the input reads as it did. -/
def fnExactHosesForSpec : ChangeSpec := { name := "fnExactHosesFor", fn := fun _ => fun
  | [d1, d2] => { results := [.lit (.bool true)], args := [d1, d2] }
  | _ => none }
def fnExactHosesForRow : OpenClaim := { program := "ytilgejanooifoaa", sum := "561f7865825e1082b897cd314ff12bd88536ad9c4ef83360d7ab726e5f424632", func := "loop.example/g01020/laws.FnExactHosesFor", spec := "fnExactHosesFor", apart := false }
def FnExactHosesForSaid : Prop := fnExactHosesForRow.holds Try.pinned (OpenSpec.ofChange fnExactHosesForSpec)

/-- ITS FALSE NEIGHBOUR: 'it returns false'. Refute it at one input. -/
def fnExactHosesForWrong : ChangeSpec := { name := "fnExactHosesFor", fn := fun _ => fun
  | [d1, d2] => { results := [.lit (.bool false)], args := [d1, d2] }
  | _ => none }
def FnExactHosesForWrongFalsely : Prop := fnExactHosesForRow.holds Try.pinned (OpenSpec.ofChange fnExactHosesForWrong)

/-- 'laws.FnExactHoseLoss': WHATEVER THE INPUT: true; the input reads as it did. -/
def fnExactHoseLossSpec : ChangeSpec := { name := "fnExactHoseLoss", fn := fun _ => fun
  | [d1, d2] => { results := [.lit (.bool true)], args := [d1, d2] }
  | _ => none }
def fnExactHoseLossRow : OpenClaim := { program := "ytilgejanooifoaa", sum := "561f7865825e1082b897cd314ff12bd88536ad9c4ef83360d7ab726e5f424632", func := "loop.example/g01020/laws.FnExactHoseLoss", spec := "fnExactHoseLoss", apart := false }
def FnExactHoseLossSaid : Prop := fnExactHoseLossRow.holds Try.pinned (OpenSpec.ofChange fnExactHoseLossSpec)

/-- ITS FALSE NEIGHBOUR: 'it returns false'. Refute it at one input. -/
def fnExactHoseLossWrong : ChangeSpec := { name := "fnExactHoseLoss", fn := fun _ => fun
  | [d1, d2] => { results := [.lit (.bool false)], args := [d1, d2] }
  | _ => none }
def FnExactHoseLossWrongFalsely : Prop := fnExactHoseLossRow.holds Try.pinned (OpenSpec.ofChange fnExactHoseLossWrong)

/-- 'laws.FnExactBranchFlow': WHATEVER THE INPUT: true; the input reads as it did. -/
def fnExactBranchFlowSpec : ChangeSpec := { name := "fnExactBranchFlow", fn := fun _ => fun
  | [d1, d2] => { results := [.lit (.bool true)], args := [d1, d2] }
  | _ => none }
def fnExactBranchFlowRow : OpenClaim := { program := "ytilgejanooifoaa", sum := "561f7865825e1082b897cd314ff12bd88536ad9c4ef83360d7ab726e5f424632", func := "loop.example/g01020/laws.FnExactBranchFlow", spec := "fnExactBranchFlow", apart := false }
def FnExactBranchFlowSaid : Prop := fnExactBranchFlowRow.holds Try.pinned (OpenSpec.ofChange fnExactBranchFlowSpec)

/-- ITS FALSE NEIGHBOUR: 'it returns false'. Refute it at one input. -/
def fnExactBranchFlowWrong : ChangeSpec := { name := "fnExactBranchFlow", fn := fun _ => fun
  | [d1, d2] => { results := [.lit (.bool false)], args := [d1, d2] }
  | _ => none }
def FnExactBranchFlowWrongFalsely : Prop := fnExactBranchFlowRow.holds Try.pinned (OpenSpec.ofChange fnExactBranchFlowWrong)

/-- 'laws.FnExactLongestHose': WHATEVER THE INPUT: true; the input reads as it did. -/
def fnExactLongestHoseSpec : ChangeSpec := { name := "fnExactLongestHose", fn := fun _ => fun
  | [d1, d2, d3] => { results := [.lit (.bool true)], args := [d1, d2, d3] }
  | _ => none }
def fnExactLongestHoseRow : OpenClaim := { program := "ytilgejanooifoaa", sum := "561f7865825e1082b897cd314ff12bd88536ad9c4ef83360d7ab726e5f424632", func := "loop.example/g01020/laws.FnExactLongestHose", spec := "fnExactLongestHose", apart := false }
def FnExactLongestHoseSaid : Prop := fnExactLongestHoseRow.holds Try.pinned (OpenSpec.ofChange fnExactLongestHoseSpec)

/-- ITS FALSE NEIGHBOUR: 'it returns false'. Refute it at one input. -/
def fnExactLongestHoseWrong : ChangeSpec := { name := "fnExactLongestHose", fn := fun _ => fun
  | [d1, d2, d3] => { results := [.lit (.bool false)], args := [d1, d2, d3] }
  | _ => none }
def FnExactLongestHoseWrongFalsely : Prop := fnExactLongestHoseRow.holds Try.pinned (OpenSpec.ofChange fnExactLongestHoseWrong)

/-- 'laws.FnExactBranchPressure': WHATEVER THE INPUT: true; the input reads as it did. -/
def fnExactBranchPressureSpec : ChangeSpec := { name := "fnExactBranchPressure", fn := fun _ => fun
  | [d1, d2] => { results := [.lit (.bool true)], args := [d1, d2] }
  | _ => none }
def fnExactBranchPressureRow : OpenClaim := { program := "ytilgejanooifoaa", sum := "561f7865825e1082b897cd314ff12bd88536ad9c4ef83360d7ab726e5f424632", func := "loop.example/g01020/laws.FnExactBranchPressure", spec := "fnExactBranchPressure", apart := false }
def FnExactBranchPressureSaid : Prop := fnExactBranchPressureRow.holds Try.pinned (OpenSpec.ofChange fnExactBranchPressureSpec)

/-- ITS FALSE NEIGHBOUR: 'it returns false'. Refute it at one input. -/
def fnExactBranchPressureWrong : ChangeSpec := { name := "fnExactBranchPressure", fn := fun _ => fun
  | [d1, d2] => { results := [.lit (.bool false)], args := [d1, d2] }
  | _ => none }
def FnExactBranchPressureWrongFalsely : Prop := fnExactBranchPressureRow.holds Try.pinned (OpenSpec.ofChange fnExactBranchPressureWrong)

/-- 'laws.FnExactLineLoss': WHATEVER THE INPUT: true; the input reads as it did. -/
def fnExactLineLossSpec : ChangeSpec := { name := "fnExactLineLoss", fn := fun _ => fun
  | [d1, d2] => { results := [.lit (.bool true)], args := [d1, d2] }
  | _ => none }
def fnExactLineLossRow : OpenClaim := { program := "ytilgejanooifoaa", sum := "561f7865825e1082b897cd314ff12bd88536ad9c4ef83360d7ab726e5f424632", func := "loop.example/g01020/laws.FnExactLineLoss", spec := "fnExactLineLoss", apart := false }
def FnExactLineLossSaid : Prop := fnExactLineLossRow.holds Try.pinned (OpenSpec.ofChange fnExactLineLossSpec)

/-- ITS FALSE NEIGHBOUR: 'it returns false'. Refute it at one input. -/
def fnExactLineLossWrong : ChangeSpec := { name := "fnExactLineLoss", fn := fun _ => fun
  | [d1, d2] => { results := [.lit (.bool false)], args := [d1, d2] }
  | _ => none }
def FnExactLineLossWrongFalsely : Prop := fnExactLineLossRow.holds Try.pinned (OpenSpec.ofChange fnExactLineLossWrong)

/-- 'laws.FnExactGreatestFlow': WHATEVER THE INPUT: true; the input reads as it did. -/
def fnExactGreatestFlowSpec : ChangeSpec := { name := "fnExactGreatestFlow", fn := fun _ => fun
  | [d1, d2] => { results := [.lit (.bool true)], args := [d1, d2] }
  | _ => none }
def fnExactGreatestFlowRow : OpenClaim := { program := "ytilgejanooifoaa", sum := "561f7865825e1082b897cd314ff12bd88536ad9c4ef83360d7ab726e5f424632", func := "loop.example/g01020/laws.FnExactGreatestFlow", spec := "fnExactGreatestFlow", apart := false }
def FnExactGreatestFlowSaid : Prop := fnExactGreatestFlowRow.holds Try.pinned (OpenSpec.ofChange fnExactGreatestFlowSpec)

/-- ITS FALSE NEIGHBOUR: 'it returns false'. Refute it at one input. -/
def fnExactGreatestFlowWrong : ChangeSpec := { name := "fnExactGreatestFlow", fn := fun _ => fun
  | [d1, d2] => { results := [.lit (.bool false)], args := [d1, d2] }
  | _ => none }
def FnExactGreatestFlowWrongFalsely : Prop := fnExactGreatestFlowRow.holds Try.pinned (OpenSpec.ofChange fnExactGreatestFlowWrong)

/-- 'laws.FnExactPumpPressure': WHATEVER THE INPUT: true; the input reads as it did. -/
def fnExactPumpPressureSpec : ChangeSpec := { name := "fnExactPumpPressure", fn := fun _ => fun
  | [d1, d2, d3, d4] => { results := [.lit (.bool true)], args := [d1, d2, d3, d4] }
  | _ => none }
def fnExactPumpPressureRow : OpenClaim := { program := "ytilgejanooifoaa", sum := "561f7865825e1082b897cd314ff12bd88536ad9c4ef83360d7ab726e5f424632", func := "loop.example/g01020/laws.FnExactPumpPressure", spec := "fnExactPumpPressure", apart := false }
def FnExactPumpPressureSaid : Prop := fnExactPumpPressureRow.holds Try.pinned (OpenSpec.ofChange fnExactPumpPressureSpec)

/-- ITS FALSE NEIGHBOUR: 'it returns false'. Refute it at one input. -/
def fnExactPumpPressureWrong : ChangeSpec := { name := "fnExactPumpPressure", fn := fun _ => fun
  | [d1, d2, d3, d4] => { results := [.lit (.bool false)], args := [d1, d2, d3, d4] }
  | _ => none }
def FnExactPumpPressureWrongFalsely : Prop := fnExactPumpPressureRow.holds Try.pinned (OpenSpec.ofChange fnExactPumpPressureWrong)

/-- 'laws.FnBranches': WHATEVER THE INPUT: true; the input reads as it did. -/
def fnBranchesSpec : ChangeSpec := { name := "fnBranches", fn := fun _ => fun
  | [d1, d2] => { results := [.lit (.bool true)], args := [d1, d2] }
  | _ => none }
def fnBranchesRow : OpenClaim := { program := "ytilgejanooifoaa", sum := "561f7865825e1082b897cd314ff12bd88536ad9c4ef83360d7ab726e5f424632", func := "loop.example/g01020/laws.FnBranches", spec := "fnBranches", apart := false }
def FnBranchesSaid : Prop := fnBranchesRow.holds Try.pinned (OpenSpec.ofChange fnBranchesSpec)

/-- ITS FALSE NEIGHBOUR: 'it returns false'. Refute it at one input. -/
def fnBranchesWrong : ChangeSpec := { name := "fnBranches", fn := fun _ => fun
  | [d1, d2] => { results := [.lit (.bool false)], args := [d1, d2] }
  | _ => none }
def FnBranchesWrongFalsely : Prop := fnBranchesRow.holds Try.pinned (OpenSpec.ofChange fnBranchesWrong)

/- THE SECOND FORM. 'bulk': how many values and letters a reading holds, each counted each time it is reached (what is shared counts as often as it is met; a slice's spare places count too). A statement '..UptoSaid' is the law's where the arguments, and the package variables that the reading takes, are together of bulk at most 1048576: NARROWER than '..Said'. Prove '..Said' where nothing that the law and all that it calls make is longer than what came in: it says more and counts as full. Else prove '..UptoSaid'. A law counts once. -/
mutual
def uptoBulk {H : Type} : DataW H → Nat
  | .lit (.string bytes) => bytes.length + 1
  | .lit _ => 1
  | .nil => 1
  | .ptr d => uptoBulk d + 1
  | .slice elems spare => uptoBulkAll elems + uptoBulkAll spare + 1
  | .agg parts => uptoBulkAll parts + 1
  | .iface _ d => uptoBulk d + 1
  | .map entries => uptoBulkEntries entries + 1
  | .held _ => 1
def uptoBulkAll {H : Type} : List (DataW H) → Nat
  | [] => 0
  | d :: r => uptoBulk d + uptoBulkAll r
def uptoBulkEntries {H : Type} : List (Lit × DataW H) → Nat
  | [] => 0
  | x :: r => uptoBulkEntry x + uptoBulkEntries r
def uptoBulkEntry {H : Type} : Lit × DataW H → Nat
  | (.string bytes, d) => bytes.length + uptoBulk d + 1
  | (_, d) => uptoBulk d + 1
 end
def uptoSmall : (H : Type) → List (DataW H) → Bool := fun _ ds => decide (uptoBulkAll ds ≤ 1048576)
def OpenSpec.upto (s : _root_.Go.ChangeSpec) : _root_.Go.OpenSpec := { _root_.Go.OpenSpec.ofChange s with cond := some uptoSmall }

/-- 'laws.FnExactConstants', WHERE WHAT IT READS IS OF BULK AT MOST 1048576: true; the input reads as it did. -/
def fnExactConstantsUptoRow : OpenClaim := { program := "ytilgejanooifoaa", sum := "561f7865825e1082b897cd314ff12bd88536ad9c4ef83360d7ab726e5f424632", func := "loop.example/g01020/laws.FnExactConstants", spec := "fnExactConstants", apart := false, narrowed := true }
def FnExactConstantsUptoSaid : Prop := fnExactConstantsUptoRow.holds Try.pinned (OpenSpec.upto fnExactConstantsSpec)

/-- 'laws.FnExactIsHose', WHERE WHAT IT READS IS OF BULK AT MOST 1048576: true; the input reads as it did. -/
def fnExactIsHoseUptoRow : OpenClaim := { program := "ytilgejanooifoaa", sum := "561f7865825e1082b897cd314ff12bd88536ad9c4ef83360d7ab726e5f424632", func := "loop.example/g01020/laws.FnExactIsHose", spec := "fnExactIsHose", apart := false, narrowed := true }
def FnExactIsHoseUptoSaid : Prop := fnExactIsHoseUptoRow.holds Try.pinned (OpenSpec.upto fnExactIsHoseSpec)

/-- 'laws.FnExactHosesFor', WHERE WHAT IT READS IS OF BULK AT MOST 1048576: true; the input reads as it did. -/
def fnExactHosesForUptoRow : OpenClaim := { program := "ytilgejanooifoaa", sum := "561f7865825e1082b897cd314ff12bd88536ad9c4ef83360d7ab726e5f424632", func := "loop.example/g01020/laws.FnExactHosesFor", spec := "fnExactHosesFor", apart := false, narrowed := true }
def FnExactHosesForUptoSaid : Prop := fnExactHosesForUptoRow.holds Try.pinned (OpenSpec.upto fnExactHosesForSpec)

/-- 'laws.FnExactHoseLoss', WHERE WHAT IT READS IS OF BULK AT MOST 1048576: true; the input reads as it did. -/
def fnExactHoseLossUptoRow : OpenClaim := { program := "ytilgejanooifoaa", sum := "561f7865825e1082b897cd314ff12bd88536ad9c4ef83360d7ab726e5f424632", func := "loop.example/g01020/laws.FnExactHoseLoss", spec := "fnExactHoseLoss", apart := false, narrowed := true }
def FnExactHoseLossUptoSaid : Prop := fnExactHoseLossUptoRow.holds Try.pinned (OpenSpec.upto fnExactHoseLossSpec)

/-- 'laws.FnExactBranchFlow', WHERE WHAT IT READS IS OF BULK AT MOST 1048576: true; the input reads as it did. -/
def fnExactBranchFlowUptoRow : OpenClaim := { program := "ytilgejanooifoaa", sum := "561f7865825e1082b897cd314ff12bd88536ad9c4ef83360d7ab726e5f424632", func := "loop.example/g01020/laws.FnExactBranchFlow", spec := "fnExactBranchFlow", apart := false, narrowed := true }
def FnExactBranchFlowUptoSaid : Prop := fnExactBranchFlowUptoRow.holds Try.pinned (OpenSpec.upto fnExactBranchFlowSpec)

/-- 'laws.FnExactLongestHose', WHERE WHAT IT READS IS OF BULK AT MOST 1048576: true; the input reads as it did. -/
def fnExactLongestHoseUptoRow : OpenClaim := { program := "ytilgejanooifoaa", sum := "561f7865825e1082b897cd314ff12bd88536ad9c4ef83360d7ab726e5f424632", func := "loop.example/g01020/laws.FnExactLongestHose", spec := "fnExactLongestHose", apart := false, narrowed := true }
def FnExactLongestHoseUptoSaid : Prop := fnExactLongestHoseUptoRow.holds Try.pinned (OpenSpec.upto fnExactLongestHoseSpec)

/-- 'laws.FnExactBranchPressure', WHERE WHAT IT READS IS OF BULK AT MOST 1048576: true; the input reads as it did. -/
def fnExactBranchPressureUptoRow : OpenClaim := { program := "ytilgejanooifoaa", sum := "561f7865825e1082b897cd314ff12bd88536ad9c4ef83360d7ab726e5f424632", func := "loop.example/g01020/laws.FnExactBranchPressure", spec := "fnExactBranchPressure", apart := false, narrowed := true }
def FnExactBranchPressureUptoSaid : Prop := fnExactBranchPressureUptoRow.holds Try.pinned (OpenSpec.upto fnExactBranchPressureSpec)

/-- 'laws.FnExactLineLoss', WHERE WHAT IT READS IS OF BULK AT MOST 1048576: true; the input reads as it did. -/
def fnExactLineLossUptoRow : OpenClaim := { program := "ytilgejanooifoaa", sum := "561f7865825e1082b897cd314ff12bd88536ad9c4ef83360d7ab726e5f424632", func := "loop.example/g01020/laws.FnExactLineLoss", spec := "fnExactLineLoss", apart := false, narrowed := true }
def FnExactLineLossUptoSaid : Prop := fnExactLineLossUptoRow.holds Try.pinned (OpenSpec.upto fnExactLineLossSpec)

/-- 'laws.FnExactGreatestFlow', WHERE WHAT IT READS IS OF BULK AT MOST 1048576: true; the input reads as it did. -/
def fnExactGreatestFlowUptoRow : OpenClaim := { program := "ytilgejanooifoaa", sum := "561f7865825e1082b897cd314ff12bd88536ad9c4ef83360d7ab726e5f424632", func := "loop.example/g01020/laws.FnExactGreatestFlow", spec := "fnExactGreatestFlow", apart := false, narrowed := true }
def FnExactGreatestFlowUptoSaid : Prop := fnExactGreatestFlowUptoRow.holds Try.pinned (OpenSpec.upto fnExactGreatestFlowSpec)

/-- 'laws.FnExactPumpPressure', WHERE WHAT IT READS IS OF BULK AT MOST 1048576: true; the input reads as it did. -/
def fnExactPumpPressureUptoRow : OpenClaim := { program := "ytilgejanooifoaa", sum := "561f7865825e1082b897cd314ff12bd88536ad9c4ef83360d7ab726e5f424632", func := "loop.example/g01020/laws.FnExactPumpPressure", spec := "fnExactPumpPressure", apart := false, narrowed := true }
def FnExactPumpPressureUptoSaid : Prop := fnExactPumpPressureUptoRow.holds Try.pinned (OpenSpec.upto fnExactPumpPressureSpec)

/-- 'laws.FnBranches', WHERE WHAT IT READS IS OF BULK AT MOST 1048576: true; the input reads as it did. -/
def fnBranchesUptoRow : OpenClaim := { program := "ytilgejanooifoaa", sum := "561f7865825e1082b897cd314ff12bd88536ad9c4ef83360d7ab726e5f424632", func := "loop.example/g01020/laws.FnBranches", spec := "fnBranches", apart := false, narrowed := true }
def FnBranchesUptoSaid : Prop := fnBranchesUptoRow.holds Try.pinned (OpenSpec.upto fnBranchesSpec)

end Rows
end Go.Proofs.Ytilgejanooifoaa
