/-
  No cell of these rows narrows 'for every input' (looked for: loops, veiled, ifaces, maps, wideKeys, modest, calm, conditions, laid).
  DERIVED. THE GIVEN ROWS OF THIS SEAT. 11 by the template 'for every input the law returns true; each argument reads behind the call as it read before'; 0 by the template 'total and deterministic' (their statements: YtangiabihgohcaaTotals.lean).
  GIVEN WITH THE SEED: the statements are not yours to turn. If you find one false, say at which input.
  Laid BY PROGRAM, IN A SANDBOX (cutbox-rows.mjs): the forced cells as the released guide's own fill.sh prints them over the translation 0dcfa21545ae474f… (all of the seat's roots in one cut). By AI agents, Wed Nov 11 2026. No macro, syntax, notation, axiom, sorry.
-/
import Derived.Test.YtangiabihgohcaaChecked
import GoSem.Claim
import GoSem.ClaimJoined
import GoSem.ClaimMapViews
import Derived.JoinedTies
import Derived.KernelRfl
namespace Go.Proofs.Ytangiabihgohcaa
/- THE CELL 'sum', in the pinned program and in every row, IS THE sha256 OF THE DUMP (.gsa) THAT YtangiabihgohcaaProg.lean LOADS. Nothing in Lean hashes anything: it is a label: what it is worth is what the hold of that sum in a sandbox is worth. -/
noncomputable def Try.pinned : Pinned := { name := "ytangiabihgohcaa", sum := "0dcfa21545ae474f8d8f868c829589ae6407d27664b3f3cf2cfa6ac3dc67cb4a", checked := Try.checked }
namespace Rows
def none {H : Type} : Left H := { results := [], args := [] }

/-- 'laws.FnExactIsNet': WHATEVER THE INPUT: true; the input reads as it did. -/
def fnExactIsNetSpec : ChangeSpec := { name := "fnExactIsNet", fn := fun _ => fun
  | [d] => { results := [.lit (.bool true)], args := [d] }
  | _ => none }
def fnExactIsNetRow : OpenClaim := { program := "ytangiabihgohcaa", sum := "0dcfa21545ae474f8d8f868c829589ae6407d27664b3f3cf2cfa6ac3dc67cb4a", func := "loop.example/g01020/laws.FnExactIsNet", spec := "fnExactIsNet", apart := false }
def FnExactIsNetSaid : Prop := fnExactIsNetRow.holds Try.pinned (OpenSpec.ofChange fnExactIsNetSpec)

/-- ITS FALSE NEIGHBOUR: 'it returns false'. Refute it at one input. -/
def fnExactIsNetWrong : ChangeSpec := { name := "fnExactIsNet", fn := fun _ => fun
  | [d] => { results := [.lit (.bool false)], args := [d] }
  | _ => none }
def FnExactIsNetWrongFalsely : Prop := fnExactIsNetRow.holds Try.pinned (OpenSpec.ofChange fnExactIsNetWrong)

/-- 'laws.FnExactLoadsOf': WHATEVER THE INPUT: true; the input reads as it did. -/
def fnExactLoadsOfSpec : ChangeSpec := { name := "fnExactLoadsOf", fn := fun _ => fun
  | [d1, d2] => { results := [.lit (.bool true)], args := [d1, d2] }
  | _ => none }
def fnExactLoadsOfRow : OpenClaim := { program := "ytangiabihgohcaa", sum := "0dcfa21545ae474f8d8f868c829589ae6407d27664b3f3cf2cfa6ac3dc67cb4a", func := "loop.example/g01020/laws.FnExactLoadsOf", spec := "fnExactLoadsOf", apart := false }
def FnExactLoadsOfSaid : Prop := fnExactLoadsOfRow.holds Try.pinned (OpenSpec.ofChange fnExactLoadsOfSpec)

/-- ITS FALSE NEIGHBOUR: 'it returns false'. Refute it at one input. -/
def fnExactLoadsOfWrong : ChangeSpec := { name := "fnExactLoadsOf", fn := fun _ => fun
  | [d1, d2] => { results := [.lit (.bool false)], args := [d1, d2] }
  | _ => none }
def FnExactLoadsOfWrongFalsely : Prop := fnExactLoadsOfRow.holds Try.pinned (OpenSpec.ofChange fnExactLoadsOfWrong)

/-- 'laws.FnExactOverloadedMains': WHATEVER THE INPUT: true; the input reads as it did. -/
def fnExactOverloadedMainsSpec : ChangeSpec := { name := "fnExactOverloadedMains", fn := fun _ => fun
  | [d1, d2] => { results := [.lit (.bool true)], args := [d1, d2] }
  | _ => none }
def fnExactOverloadedMainsRow : OpenClaim := { program := "ytangiabihgohcaa", sum := "0dcfa21545ae474f8d8f868c829589ae6407d27664b3f3cf2cfa6ac3dc67cb4a", func := "loop.example/g01020/laws.FnExactOverloadedMains", spec := "fnExactOverloadedMains", unfollowed := true, recurses := true, apart := false }
def FnExactOverloadedMainsSaid : Prop := fnExactOverloadedMainsRow.holds Try.pinned (OpenSpec.ofChange fnExactOverloadedMainsSpec)

/-- ITS FALSE NEIGHBOUR: 'it returns false'. Refute it at one input. -/
def fnExactOverloadedMainsWrong : ChangeSpec := { name := "fnExactOverloadedMains", fn := fun _ => fun
  | [d1, d2] => { results := [.lit (.bool false)], args := [d1, d2] }
  | _ => none }
def FnExactOverloadedMainsWrongFalsely : Prop := fnExactOverloadedMainsRow.holds Try.pinned (OpenSpec.ofChange fnExactOverloadedMainsWrong)

/-- 'laws.FnExactTightMains': WHATEVER THE INPUT: true; the input reads as it did. -/
def fnExactTightMainsSpec : ChangeSpec := { name := "fnExactTightMains", fn := fun _ => fun
  | [d1, d2] => { results := [.lit (.bool true)], args := [d1, d2] }
  | _ => none }
def fnExactTightMainsRow : OpenClaim := { program := "ytangiabihgohcaa", sum := "0dcfa21545ae474f8d8f868c829589ae6407d27664b3f3cf2cfa6ac3dc67cb4a", func := "loop.example/g01020/laws.FnExactTightMains", spec := "fnExactTightMains", unfollowed := true, recurses := true, apart := false }
def FnExactTightMainsSaid : Prop := fnExactTightMainsRow.holds Try.pinned (OpenSpec.ofChange fnExactTightMainsSpec)

/-- ITS FALSE NEIGHBOUR: 'it returns false'. Refute it at one input. -/
def fnExactTightMainsWrong : ChangeSpec := { name := "fnExactTightMains", fn := fun _ => fun
  | [d1, d2] => { results := [.lit (.bool false)], args := [d1, d2] }
  | _ => none }
def FnExactTightMainsWrongFalsely : Prop := fnExactTightMainsRow.holds Try.pinned (OpenSpec.ofChange fnExactTightMainsWrong)

/-- 'laws.FnExactGreatestSum': WHATEVER THE INPUT: true; the input reads as it did. -/
def fnExactGreatestSumSpec : ChangeSpec := { name := "fnExactGreatestSum", fn := fun _ => fun
  | [d1, d2] => { results := [.lit (.bool true)], args := [d1, d2] }
  | _ => none }
def fnExactGreatestSumRow : OpenClaim := { program := "ytangiabihgohcaa", sum := "0dcfa21545ae474f8d8f868c829589ae6407d27664b3f3cf2cfa6ac3dc67cb4a", func := "loop.example/g01020/laws.FnExactGreatestSum", spec := "fnExactGreatestSum", recurses := true, apart := false }
def FnExactGreatestSumSaid : Prop := fnExactGreatestSumRow.holds Try.pinned (OpenSpec.ofChange fnExactGreatestSumSpec)

/-- ITS FALSE NEIGHBOUR: 'it returns false'. Refute it at one input. -/
def fnExactGreatestSumWrong : ChangeSpec := { name := "fnExactGreatestSum", fn := fun _ => fun
  | [d1, d2] => { results := [.lit (.bool false)], args := [d1, d2] }
  | _ => none }
def FnExactGreatestSumWrongFalsely : Prop := fnExactGreatestSumRow.holds Try.pinned (OpenSpec.ofChange fnExactGreatestSumWrong)

/-- 'laws.FnExactFilledFlows': WHATEVER THE INPUT: true; the input reads as it did. -/
def fnExactFilledFlowsSpec : ChangeSpec := { name := "fnExactFilledFlows", fn := fun _ => fun
  | [d1, d2] => { results := [.lit (.bool true)], args := [d1, d2] }
  | _ => none }
def fnExactFilledFlowsRow : OpenClaim := { program := "ytangiabihgohcaa", sum := "0dcfa21545ae474f8d8f868c829589ae6407d27664b3f3cf2cfa6ac3dc67cb4a", func := "loop.example/g01020/laws.FnExactFilledFlows", spec := "fnExactFilledFlows", apart := false }
def FnExactFilledFlowsSaid : Prop := fnExactFilledFlowsRow.holds Try.pinned (OpenSpec.ofChange fnExactFilledFlowsSpec)

/-- ITS FALSE NEIGHBOUR: 'it returns false'. Refute it at one input. -/
def fnExactFilledFlowsWrong : ChangeSpec := { name := "fnExactFilledFlows", fn := fun _ => fun
  | [d1, d2] => { results := [.lit (.bool false)], args := [d1, d2] }
  | _ => none }
def FnExactFilledFlowsWrongFalsely : Prop := fnExactFilledFlowsRow.holds Try.pinned (OpenSpec.ofChange fnExactFilledFlowsWrong)

/-- 'laws.FnExactIsGreatest': WHATEVER THE INPUT: true; the input reads as it did. -/
def fnExactIsGreatestSpec : ChangeSpec := { name := "fnExactIsGreatest", fn := fun _ => fun
  | [d1, d2, d3] => { results := [.lit (.bool true)], args := [d1, d2, d3] }
  | _ => none }
def fnExactIsGreatestRow : OpenClaim := { program := "ytangiabihgohcaa", sum := "0dcfa21545ae474f8d8f868c829589ae6407d27664b3f3cf2cfa6ac3dc67cb4a", func := "loop.example/g01020/laws.FnExactIsGreatest", spec := "fnExactIsGreatest", unfollowed := true, recurses := true, apart := false }
def FnExactIsGreatestSaid : Prop := fnExactIsGreatestRow.holds Try.pinned (OpenSpec.ofChange fnExactIsGreatestSpec)

/-- ITS FALSE NEIGHBOUR: 'it returns false'. Refute it at one input. -/
def fnExactIsGreatestWrong : ChangeSpec := { name := "fnExactIsGreatest", fn := fun _ => fun
  | [d1, d2, d3] => { results := [.lit (.bool false)], args := [d1, d2, d3] }
  | _ => none }
def FnExactIsGreatestWrongFalsely : Prop := fnExactIsGreatestRow.holds Try.pinned (OpenSpec.ofChange fnExactIsGreatestWrong)

/-- 'laws.FnExactFairFlow': WHATEVER THE INPUT: true; the input reads as it did. -/
def fnExactFairFlowSpec : ChangeSpec := { name := "fnExactFairFlow", fn := fun _ => fun
  | [d1, d2] => { results := [.lit (.bool true)], args := [d1, d2] }
  | _ => none }
def fnExactFairFlowRow : OpenClaim := { program := "ytangiabihgohcaa", sum := "0dcfa21545ae474f8d8f868c829589ae6407d27664b3f3cf2cfa6ac3dc67cb4a", func := "loop.example/g01020/laws.FnExactFairFlow", spec := "fnExactFairFlow", apart := false }
def FnExactFairFlowSaid : Prop := fnExactFairFlowRow.holds Try.pinned (OpenSpec.ofChange fnExactFairFlowSpec)

/-- ITS FALSE NEIGHBOUR: 'it returns false'. Refute it at one input. -/
def fnExactFairFlowWrong : ChangeSpec := { name := "fnExactFairFlow", fn := fun _ => fun
  | [d1, d2] => { results := [.lit (.bool false)], args := [d1, d2] }
  | _ => none }
def FnExactFairFlowWrongFalsely : Prop := fnExactFairFlowRow.holds Try.pinned (OpenSpec.ofChange fnExactFairFlowWrong)

/-- 'laws.FnExactWithoutMain': WHATEVER THE INPUT: true; the input reads as it did. -/
def fnExactWithoutMainSpec : ChangeSpec := { name := "fnExactWithoutMain", fn := fun _ => fun
  | [d1, d2] => { results := [.lit (.bool true)], args := [d1, d2] }
  | _ => none }
def fnExactWithoutMainRow : OpenClaim := { program := "ytangiabihgohcaa", sum := "0dcfa21545ae474f8d8f868c829589ae6407d27664b3f3cf2cfa6ac3dc67cb4a", func := "loop.example/g01020/laws.FnExactWithoutMain", spec := "fnExactWithoutMain", apart := false }
def FnExactWithoutMainSaid : Prop := fnExactWithoutMainRow.holds Try.pinned (OpenSpec.ofChange fnExactWithoutMainSpec)

/-- ITS FALSE NEIGHBOUR: 'it returns false'. Refute it at one input. -/
def fnExactWithoutMainWrong : ChangeSpec := { name := "fnExactWithoutMain", fn := fun _ => fun
  | [d1, d2] => { results := [.lit (.bool false)], args := [d1, d2] }
  | _ => none }
def FnExactWithoutMainWrongFalsely : Prop := fnExactWithoutMainRow.holds Try.pinned (OpenSpec.ofChange fnExactWithoutMainWrong)

/-- 'laws.FnExactScarceMain': WHATEVER THE INPUT: true; the input reads as it did. -/
def fnExactScarceMainSpec : ChangeSpec := { name := "fnExactScarceMain", fn := fun _ => fun
  | [d1, d2] => { results := [.lit (.bool true)], args := [d1, d2] }
  | _ => none }
def fnExactScarceMainRow : OpenClaim := { program := "ytangiabihgohcaa", sum := "0dcfa21545ae474f8d8f868c829589ae6407d27664b3f3cf2cfa6ac3dc67cb4a", func := "loop.example/g01020/laws.FnExactScarceMain", spec := "fnExactScarceMain", recurses := true, apart := false }
def FnExactScarceMainSaid : Prop := fnExactScarceMainRow.holds Try.pinned (OpenSpec.ofChange fnExactScarceMainSpec)

/-- ITS FALSE NEIGHBOUR: 'it returns false'. Refute it at one input. -/
def fnExactScarceMainWrong : ChangeSpec := { name := "fnExactScarceMain", fn := fun _ => fun
  | [d1, d2] => { results := [.lit (.bool false)], args := [d1, d2] }
  | _ => none }
def FnExactScarceMainWrongFalsely : Prop := fnExactScarceMainRow.holds Try.pinned (OpenSpec.ofChange fnExactScarceMainWrong)

/-- 'laws.FnHydrantFlows': WHATEVER THE INPUT: true; the input reads as it did. -/
def fnHydrantFlowsSpec : ChangeSpec := { name := "fnHydrantFlows", fn := fun _ => fun
  | [d1, d2] => { results := [.lit (.bool true)], args := [d1, d2] }
  | _ => none }
def fnHydrantFlowsRow : OpenClaim := { program := "ytangiabihgohcaa", sum := "0dcfa21545ae474f8d8f868c829589ae6407d27664b3f3cf2cfa6ac3dc67cb4a", func := "loop.example/g01020/laws.FnHydrantFlows", spec := "fnHydrantFlows", unfollowed := true, recurses := true, apart := false }
def FnHydrantFlowsSaid : Prop := fnHydrantFlowsRow.holds Try.pinned (OpenSpec.ofChange fnHydrantFlowsSpec)

/-- ITS FALSE NEIGHBOUR: 'it returns false'. Refute it at one input. -/
def fnHydrantFlowsWrong : ChangeSpec := { name := "fnHydrantFlows", fn := fun _ => fun
  | [d1, d2] => { results := [.lit (.bool false)], args := [d1, d2] }
  | _ => none }
def FnHydrantFlowsWrongFalsely : Prop := fnHydrantFlowsRow.holds Try.pinned (OpenSpec.ofChange fnHydrantFlowsWrong)

/- THE SECOND FORM. 'bulk': how many values and letters a reading holds, each counted each time it is reached (what is shared counts as often as it is met; a slice's spare places count too). A statement '..UptoSaid' is the law's where the arguments, and the package variables that the reading takes, are together of bulk at most 1048576: NARROWER than '..Said'. Prove '..Said' where nothing that the law and all that it calls make is longer than what came in: it says more and counts as full. Else prove '..UptoSaid'. A law counts once. -/
mutual
def uptoBulk {H : Type} : DataW H → Nat
  | .lit (.string bytes) => bytes.length + 1
  | .lit _ => 1
  | .nil => 1
  | .ptr d => uptoBulk d + 1
  | .slice elems spare => uptoBulkAll elems + uptoBulkAll spare + 1
  | .agg parts => uptoBulkAll parts + 1
  | .iface _ d => uptoBulk d + 1
  | .map entries => uptoBulkEntries entries + 1
  | .held _ => 1
def uptoBulkAll {H : Type} : List (DataW H) → Nat
  | [] => 0
  | d :: r => uptoBulk d + uptoBulkAll r
def uptoBulkEntries {H : Type} : List (Lit × DataW H) → Nat
  | [] => 0
  | x :: r => uptoBulkEntry x + uptoBulkEntries r
def uptoBulkEntry {H : Type} : Lit × DataW H → Nat
  | (.string bytes, d) => bytes.length + uptoBulk d + 1
  | (_, d) => uptoBulk d + 1
 end
def uptoSmall : (H : Type) → List (DataW H) → Bool := fun _ ds => decide (uptoBulkAll ds ≤ 1048576)
def OpenSpec.upto (s : _root_.Go.ChangeSpec) : _root_.Go.OpenSpec := { _root_.Go.OpenSpec.ofChange s with cond := some uptoSmall }

/-- 'laws.FnExactIsNet', WHERE WHAT IT READS IS OF BULK AT MOST 1048576: true; the input reads as it did. -/
def fnExactIsNetUptoRow : OpenClaim := { program := "ytangiabihgohcaa", sum := "0dcfa21545ae474f8d8f868c829589ae6407d27664b3f3cf2cfa6ac3dc67cb4a", func := "loop.example/g01020/laws.FnExactIsNet", spec := "fnExactIsNet", apart := false, narrowed := true }
def FnExactIsNetUptoSaid : Prop := fnExactIsNetUptoRow.holds Try.pinned (OpenSpec.upto fnExactIsNetSpec)

/-- 'laws.FnExactLoadsOf', WHERE WHAT IT READS IS OF BULK AT MOST 1048576: true; the input reads as it did. -/
def fnExactLoadsOfUptoRow : OpenClaim := { program := "ytangiabihgohcaa", sum := "0dcfa21545ae474f8d8f868c829589ae6407d27664b3f3cf2cfa6ac3dc67cb4a", func := "loop.example/g01020/laws.FnExactLoadsOf", spec := "fnExactLoadsOf", apart := false, narrowed := true }
def FnExactLoadsOfUptoSaid : Prop := fnExactLoadsOfUptoRow.holds Try.pinned (OpenSpec.upto fnExactLoadsOfSpec)

/-- 'laws.FnExactOverloadedMains', WHERE WHAT IT READS IS OF BULK AT MOST 1048576: true; the input reads as it did. -/
def fnExactOverloadedMainsUptoRow : OpenClaim := { program := "ytangiabihgohcaa", sum := "0dcfa21545ae474f8d8f868c829589ae6407d27664b3f3cf2cfa6ac3dc67cb4a", func := "loop.example/g01020/laws.FnExactOverloadedMains", spec := "fnExactOverloadedMains", unfollowed := true, recurses := true, apart := false, narrowed := true }
def FnExactOverloadedMainsUptoSaid : Prop := fnExactOverloadedMainsUptoRow.holds Try.pinned (OpenSpec.upto fnExactOverloadedMainsSpec)

/-- 'laws.FnExactTightMains', WHERE WHAT IT READS IS OF BULK AT MOST 1048576: true; the input reads as it did. -/
def fnExactTightMainsUptoRow : OpenClaim := { program := "ytangiabihgohcaa", sum := "0dcfa21545ae474f8d8f868c829589ae6407d27664b3f3cf2cfa6ac3dc67cb4a", func := "loop.example/g01020/laws.FnExactTightMains", spec := "fnExactTightMains", unfollowed := true, recurses := true, apart := false, narrowed := true }
def FnExactTightMainsUptoSaid : Prop := fnExactTightMainsUptoRow.holds Try.pinned (OpenSpec.upto fnExactTightMainsSpec)

/-- 'laws.FnExactGreatestSum', WHERE WHAT IT READS IS OF BULK AT MOST 1048576: true; the input reads as it did. -/
def fnExactGreatestSumUptoRow : OpenClaim := { program := "ytangiabihgohcaa", sum := "0dcfa21545ae474f8d8f868c829589ae6407d27664b3f3cf2cfa6ac3dc67cb4a", func := "loop.example/g01020/laws.FnExactGreatestSum", spec := "fnExactGreatestSum", recurses := true, apart := false, narrowed := true }
def FnExactGreatestSumUptoSaid : Prop := fnExactGreatestSumUptoRow.holds Try.pinned (OpenSpec.upto fnExactGreatestSumSpec)

/-- 'laws.FnExactFilledFlows', WHERE WHAT IT READS IS OF BULK AT MOST 1048576: true; the input reads as it did. -/
def fnExactFilledFlowsUptoRow : OpenClaim := { program := "ytangiabihgohcaa", sum := "0dcfa21545ae474f8d8f868c829589ae6407d27664b3f3cf2cfa6ac3dc67cb4a", func := "loop.example/g01020/laws.FnExactFilledFlows", spec := "fnExactFilledFlows", apart := false, narrowed := true }
def FnExactFilledFlowsUptoSaid : Prop := fnExactFilledFlowsUptoRow.holds Try.pinned (OpenSpec.upto fnExactFilledFlowsSpec)

/-- 'laws.FnExactIsGreatest', WHERE WHAT IT READS IS OF BULK AT MOST 1048576: true; the input reads as it did. -/
def fnExactIsGreatestUptoRow : OpenClaim := { program := "ytangiabihgohcaa", sum := "0dcfa21545ae474f8d8f868c829589ae6407d27664b3f3cf2cfa6ac3dc67cb4a", func := "loop.example/g01020/laws.FnExactIsGreatest", spec := "fnExactIsGreatest", unfollowed := true, recurses := true, apart := false, narrowed := true }
def FnExactIsGreatestUptoSaid : Prop := fnExactIsGreatestUptoRow.holds Try.pinned (OpenSpec.upto fnExactIsGreatestSpec)

/-- 'laws.FnExactFairFlow', WHERE WHAT IT READS IS OF BULK AT MOST 1048576: true; the input reads as it did. -/
def fnExactFairFlowUptoRow : OpenClaim := { program := "ytangiabihgohcaa", sum := "0dcfa21545ae474f8d8f868c829589ae6407d27664b3f3cf2cfa6ac3dc67cb4a", func := "loop.example/g01020/laws.FnExactFairFlow", spec := "fnExactFairFlow", apart := false, narrowed := true }
def FnExactFairFlowUptoSaid : Prop := fnExactFairFlowUptoRow.holds Try.pinned (OpenSpec.upto fnExactFairFlowSpec)

/-- 'laws.FnExactWithoutMain', WHERE WHAT IT READS IS OF BULK AT MOST 1048576: true; the input reads as it did. -/
def fnExactWithoutMainUptoRow : OpenClaim := { program := "ytangiabihgohcaa", sum := "0dcfa21545ae474f8d8f868c829589ae6407d27664b3f3cf2cfa6ac3dc67cb4a", func := "loop.example/g01020/laws.FnExactWithoutMain", spec := "fnExactWithoutMain", apart := false, narrowed := true }
def FnExactWithoutMainUptoSaid : Prop := fnExactWithoutMainUptoRow.holds Try.pinned (OpenSpec.upto fnExactWithoutMainSpec)

/-- 'laws.FnExactScarceMain', WHERE WHAT IT READS IS OF BULK AT MOST 1048576: true; the input reads as it did. -/
def fnExactScarceMainUptoRow : OpenClaim := { program := "ytangiabihgohcaa", sum := "0dcfa21545ae474f8d8f868c829589ae6407d27664b3f3cf2cfa6ac3dc67cb4a", func := "loop.example/g01020/laws.FnExactScarceMain", spec := "fnExactScarceMain", recurses := true, apart := false, narrowed := true }
def FnExactScarceMainUptoSaid : Prop := fnExactScarceMainUptoRow.holds Try.pinned (OpenSpec.upto fnExactScarceMainSpec)

/-- 'laws.FnHydrantFlows', WHERE WHAT IT READS IS OF BULK AT MOST 1048576: true; the input reads as it did. -/
def fnHydrantFlowsUptoRow : OpenClaim := { program := "ytangiabihgohcaa", sum := "0dcfa21545ae474f8d8f868c829589ae6407d27664b3f3cf2cfa6ac3dc67cb4a", func := "loop.example/g01020/laws.FnHydrantFlows", spec := "fnHydrantFlows", unfollowed := true, recurses := true, apart := false, narrowed := true }
def FnHydrantFlowsUptoSaid : Prop := fnHydrantFlowsUptoRow.holds Try.pinned (OpenSpec.upto fnHydrantFlowsSpec)

end Rows
end Go.Proofs.Ytangiabihgohcaa
