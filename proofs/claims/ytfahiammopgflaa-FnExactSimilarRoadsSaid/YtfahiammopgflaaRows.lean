/-
  No cell of these rows narrows 'for every input' (looked for: loops, veiled, ifaces, maps, wideKeys, modest, calm, conditions, laid).
  DERIVED. THE GIVEN ROWS OF THIS SEAT. 4 by the template 'for every input the law returns true; each argument reads behind the call as it read before'; 0 by the template 'total and deterministic' (their statements: YtfahiammopgflaaTotals.lean).
  GIVEN WITH THE SEED: the statements are not yours to turn. If you find one false, say at which input.
  Laid BY PROGRAM, IN A SANDBOX (cutbox-rows.mjs): the forced cells as the released guide's own fill.sh prints them over the translation b0b95b009dc60e85… (all of the seat's roots in one cut). By AI agents, Wed Nov 11 2026. No macro, syntax, notation, axiom, sorry.
-/
import Derived.Test.YtfahiammopgflaaChecked
import GoSem.Claim
import GoSem.ClaimJoined
import GoSem.ClaimMapViews
import Derived.JoinedTies
import Derived.KernelRfl
namespace Go.Proofs.Ytfahiammopgflaa
/- THE CELL 'sum', in the pinned program and in every row, IS THE sha256 OF THE DUMP (.gsa) THAT YtfahiammopgflaaProg.lean LOADS. Nothing in Lean hashes anything: it is a label: what it is worth is what the hold of that sum in a sandbox is worth. -/
noncomputable def Try.pinned : Pinned := { name := "ytfahiammopgflaa", sum := "b0b95b009dc60e8504a1e3436544088696060dd387573319e9db46ff44a35d31", checked := Try.checked }
namespace Rows
def none {H : Type} : Left H := { results := [], args := [] }

/-- 'laws.FnExactSimilarRoads': WHATEVER THE INPUT: true; the input reads as it did. -/
def fnExactSimilarRoadsSpec : ChangeSpec := { name := "fnExactSimilarRoads", fn := fun _ => fun
  | [d1, d2] => { results := [.lit (.bool true)], args := [d1, d2] }
  | _ => none }
def fnExactSimilarRoadsRow : OpenClaim := { program := "ytfahiammopgflaa", sum := "b0b95b009dc60e8504a1e3436544088696060dd387573319e9db46ff44a35d31", func := "loop.example/g01020/laws.FnExactSimilarRoads", spec := "fnExactSimilarRoads", apart := false }
def FnExactSimilarRoadsSaid : Prop := fnExactSimilarRoadsRow.holds Try.pinned (OpenSpec.ofChange fnExactSimilarRoadsSpec)

/-- ITS FALSE NEIGHBOUR: 'it returns false'. Refute it at one input. -/
def fnExactSimilarRoadsWrong : ChangeSpec := { name := "fnExactSimilarRoads", fn := fun _ => fun
  | [d1, d2] => { results := [.lit (.bool false)], args := [d1, d2] }
  | _ => none }
def FnExactSimilarRoadsWrongFalsely : Prop := fnExactSimilarRoadsRow.holds Try.pinned (OpenSpec.ofChange fnExactSimilarRoadsWrong)

/-- 'laws.FnExactLikelyAddress': WHATEVER THE INPUT: true; the input reads as it did. -/
def fnExactLikelyAddressSpec : ChangeSpec := { name := "fnExactLikelyAddress", fn := fun _ => fun
  | [d1, d2, d3] => { results := [.lit (.bool true)], args := [d1, d2, d3] }
  | _ => none }
def fnExactLikelyAddressRow : OpenClaim := { program := "ytfahiammopgflaa", sum := "b0b95b009dc60e8504a1e3436544088696060dd387573319e9db46ff44a35d31", func := "loop.example/g01020/laws.FnExactLikelyAddress", spec := "fnExactLikelyAddress", unfollowed := true, recurses := true, apart := false }
def FnExactLikelyAddressSaid : Prop := fnExactLikelyAddressRow.holds Try.pinned (OpenSpec.ofChange fnExactLikelyAddressSpec)

/-- ITS FALSE NEIGHBOUR: 'it returns false'. Refute it at one input. -/
def fnExactLikelyAddressWrong : ChangeSpec := { name := "fnExactLikelyAddress", fn := fun _ => fun
  | [d1, d2, d3] => { results := [.lit (.bool false)], args := [d1, d2, d3] }
  | _ => none }
def FnExactLikelyAddressWrongFalsely : Prop := fnExactLikelyAddressRow.holds Try.pinned (OpenSpec.ofChange fnExactLikelyAddressWrong)

/-- 'laws.FnExactAddStretch': WHATEVER THE INPUT: true; the input reads as it did. -/
def fnExactAddStretchSpec : ChangeSpec := { name := "fnExactAddStretch", fn := fun _ => fun
  | [d1, d2] => { results := [.lit (.bool true)], args := [d1, d2] }
  | _ => none }
def fnExactAddStretchRow : OpenClaim := { program := "ytfahiammopgflaa", sum := "b0b95b009dc60e8504a1e3436544088696060dd387573319e9db46ff44a35d31", func := "loop.example/g01020/laws.FnExactAddStretch", spec := "fnExactAddStretch", inPlace := ["slices.overlaps[loop.example/g01020/impl.Stretch]"], unfollowed := true, recurses := true, apart := false }
def FnExactAddStretchSaid : Prop := fnExactAddStretchRow.holds Try.pinned (OpenSpec.ofChange fnExactAddStretchSpec)

/-- ITS FALSE NEIGHBOUR: 'it returns false'. Refute it at one input. -/
def fnExactAddStretchWrong : ChangeSpec := { name := "fnExactAddStretch", fn := fun _ => fun
  | [d1, d2] => { results := [.lit (.bool false)], args := [d1, d2] }
  | _ => none }
def FnExactAddStretchWrongFalsely : Prop := fnExactAddStretchRow.holds Try.pinned (OpenSpec.ofChange fnExactAddStretchWrong)

/-- 'laws.FnExactRemoveHouse': WHATEVER THE INPUT: true; the input reads as it did. -/
def fnExactRemoveHouseSpec : ChangeSpec := { name := "fnExactRemoveHouse", fn := fun _ => fun
  | [d1, d2, d3] => { results := [.lit (.bool true)], args := [d1, d2, d3] }
  | _ => none }
def fnExactRemoveHouseRow : OpenClaim := { program := "ytfahiammopgflaa", sum := "b0b95b009dc60e8504a1e3436544088696060dd387573319e9db46ff44a35d31", func := "loop.example/g01020/laws.FnExactRemoveHouse", spec := "fnExactRemoveHouse", unfollowed := true, recurses := true, apart := false }
def FnExactRemoveHouseSaid : Prop := fnExactRemoveHouseRow.holds Try.pinned (OpenSpec.ofChange fnExactRemoveHouseSpec)

/-- ITS FALSE NEIGHBOUR: 'it returns false'. Refute it at one input. -/
def fnExactRemoveHouseWrong : ChangeSpec := { name := "fnExactRemoveHouse", fn := fun _ => fun
  | [d1, d2, d3] => { results := [.lit (.bool false)], args := [d1, d2, d3] }
  | _ => none }
def FnExactRemoveHouseWrongFalsely : Prop := fnExactRemoveHouseRow.holds Try.pinned (OpenSpec.ofChange fnExactRemoveHouseWrong)

/- THE SECOND FORM. 'bulk': how many values and letters a reading holds, each counted each time it is reached (what is shared counts as often as it is met; a slice's spare places count too). A statement '..UptoSaid' is the law's where the arguments, and the package variables that the reading takes, are together of bulk at most 1048576: NARROWER than '..Said'. Prove '..Said' where nothing that the law and all that it calls make is longer than what came in: it says more and counts as full. Else prove '..UptoSaid'. A law counts once. -/
mutual
def uptoBulk {H : Type} : DataW H → Nat
  | .lit (.string bytes) => bytes.length + 1
  | .lit _ => 1
  | .nil => 1
  | .ptr d => uptoBulk d + 1
  | .slice elems spare => uptoBulkAll elems + uptoBulkAll spare + 1
  | .agg parts => uptoBulkAll parts + 1
  | .iface _ d => uptoBulk d + 1
  | .map entries => uptoBulkEntries entries + 1
  | .held _ => 1
def uptoBulkAll {H : Type} : List (DataW H) → Nat
  | [] => 0
  | d :: r => uptoBulk d + uptoBulkAll r
def uptoBulkEntries {H : Type} : List (Lit × DataW H) → Nat
  | [] => 0
  | x :: r => uptoBulkEntry x + uptoBulkEntries r
def uptoBulkEntry {H : Type} : Lit × DataW H → Nat
  | (.string bytes, d) => bytes.length + uptoBulk d + 1
  | (_, d) => uptoBulk d + 1
 end
def uptoSmall : (H : Type) → List (DataW H) → Bool := fun _ ds => decide (uptoBulkAll ds ≤ 1048576)
def OpenSpec.upto (s : _root_.Go.ChangeSpec) : _root_.Go.OpenSpec := { _root_.Go.OpenSpec.ofChange s with cond := some uptoSmall }

/-- 'laws.FnExactSimilarRoads', WHERE WHAT IT READS IS OF BULK AT MOST 1048576: true; the input reads as it did. -/
def fnExactSimilarRoadsUptoRow : OpenClaim := { program := "ytfahiammopgflaa", sum := "b0b95b009dc60e8504a1e3436544088696060dd387573319e9db46ff44a35d31", func := "loop.example/g01020/laws.FnExactSimilarRoads", spec := "fnExactSimilarRoads", apart := false, narrowed := true }
def FnExactSimilarRoadsUptoSaid : Prop := fnExactSimilarRoadsUptoRow.holds Try.pinned (OpenSpec.upto fnExactSimilarRoadsSpec)

/-- 'laws.FnExactLikelyAddress', WHERE WHAT IT READS IS OF BULK AT MOST 1048576: true; the input reads as it did. -/
def fnExactLikelyAddressUptoRow : OpenClaim := { program := "ytfahiammopgflaa", sum := "b0b95b009dc60e8504a1e3436544088696060dd387573319e9db46ff44a35d31", func := "loop.example/g01020/laws.FnExactLikelyAddress", spec := "fnExactLikelyAddress", unfollowed := true, recurses := true, apart := false, narrowed := true }
def FnExactLikelyAddressUptoSaid : Prop := fnExactLikelyAddressUptoRow.holds Try.pinned (OpenSpec.upto fnExactLikelyAddressSpec)

/-- 'laws.FnExactAddStretch', WHERE WHAT IT READS IS OF BULK AT MOST 1048576: true; the input reads as it did. -/
def fnExactAddStretchUptoRow : OpenClaim := { program := "ytfahiammopgflaa", sum := "b0b95b009dc60e8504a1e3436544088696060dd387573319e9db46ff44a35d31", func := "loop.example/g01020/laws.FnExactAddStretch", spec := "fnExactAddStretch", inPlace := ["slices.overlaps[loop.example/g01020/impl.Stretch]"], unfollowed := true, recurses := true, apart := false, narrowed := true }
def FnExactAddStretchUptoSaid : Prop := fnExactAddStretchUptoRow.holds Try.pinned (OpenSpec.upto fnExactAddStretchSpec)

/-- 'laws.FnExactRemoveHouse', WHERE WHAT IT READS IS OF BULK AT MOST 1048576: true; the input reads as it did. -/
def fnExactRemoveHouseUptoRow : OpenClaim := { program := "ytfahiammopgflaa", sum := "b0b95b009dc60e8504a1e3436544088696060dd387573319e9db46ff44a35d31", func := "loop.example/g01020/laws.FnExactRemoveHouse", spec := "fnExactRemoveHouse", unfollowed := true, recurses := true, apart := false, narrowed := true }
def FnExactRemoveHouseUptoSaid : Prop := fnExactRemoveHouseUptoRow.holds Try.pinned (OpenSpec.upto fnExactRemoveHouseSpec)

end Rows
end Go.Proofs.Ytfahiammopgflaa
