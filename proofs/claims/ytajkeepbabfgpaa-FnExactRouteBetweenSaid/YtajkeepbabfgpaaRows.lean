/-
  No cell of these rows narrows 'for every input' (looked for: loops, veiled, ifaces, maps, wideKeys, modest, calm, conditions, laid).
  DERIVED. THE GIVEN ROWS OF THIS SEAT. 12 by the template 'for every input the law returns true; each argument reads behind the call as it read before'; 0 by the template 'total and deterministic' (their statements: YtajkeepbabfgpaaTotals.lean).
  GIVEN WITH THE SEED: the statements are not yours to turn. If you find one false, say at which input.
  Laid BY PROGRAM, IN A SANDBOX (cutbox-rows.mjs): the forced cells as the released guide's own fill.sh prints them over the translation d190869304749262… (all of the seat's roots in one cut). By AI agents, Wed Nov 11 2026. No macro, syntax, notation, axiom, sorry.
-/
import Derived.Test.YtajkeepbabfgpaaChecked
import GoSem.Claim
import GoSem.ClaimJoined
import GoSem.ClaimMapViews
import Derived.JoinedTies
import Derived.KernelRfl
namespace Go.Proofs.Ytajkeepbabfgpaa
/- THE CELL 'sum', in the pinned program and in every row, IS THE sha256 OF THE DUMP (.gsa) THAT YtajkeepbabfgpaaProg.lean LOADS. Nothing in Lean hashes anything: it is a label: what it is worth is what the hold of that sum in a sandbox is worth. -/
noncomputable def Try.pinned : Pinned := { name := "ytajkeepbabfgpaa", sum := "d190869304749262f243d9e47e9c00e5cb308c7777114ebd684b83ee49d67fe1", checked := Try.checked }
namespace Rows
def none {H : Type} : Left H := { results := [], args := [] }

/-- 'laws.FnExactIsTown': WHATEVER THE INPUT: true; the input reads as it did. -/
def fnExactIsTownSpec : ChangeSpec := { name := "fnExactIsTown", fn := fun _ => fun
  | [d] => { results := [.lit (.bool true)], args := [d] }
  | _ => none }
def fnExactIsTownRow : OpenClaim := { program := "ytajkeepbabfgpaa", sum := "d190869304749262f243d9e47e9c00e5cb308c7777114ebd684b83ee49d67fe1", func := "loop.example/g01020/laws.FnExactIsTown", spec := "fnExactIsTown", apart := false }
def FnExactIsTownSaid : Prop := fnExactIsTownRow.holds Try.pinned (OpenSpec.ofChange fnExactIsTownSpec)

/-- ITS FALSE NEIGHBOUR: 'it returns false'. Refute it at one input. -/
def fnExactIsTownWrong : ChangeSpec := { name := "fnExactIsTown", fn := fun _ => fun
  | [d] => { results := [.lit (.bool false)], args := [d] }
  | _ => none }
def FnExactIsTownWrongFalsely : Prop := fnExactIsTownRow.holds Try.pinned (OpenSpec.ofChange fnExactIsTownWrong)

/-- 'laws.FnExactTimesFrom': WHATEVER THE INPUT: true; the input reads as it did. -/
def fnExactTimesFromSpec : ChangeSpec := { name := "fnExactTimesFrom", fn := fun _ => fun
  | [d1, d2] => { results := [.lit (.bool true)], args := [d1, d2] }
  | _ => none }
def fnExactTimesFromRow : OpenClaim := { program := "ytajkeepbabfgpaa", sum := "d190869304749262f243d9e47e9c00e5cb308c7777114ebd684b83ee49d67fe1", func := "loop.example/g01020/laws.FnExactTimesFrom", spec := "fnExactTimesFrom", apart := false }
def FnExactTimesFromSaid : Prop := fnExactTimesFromRow.holds Try.pinned (OpenSpec.ofChange fnExactTimesFromSpec)

/-- ITS FALSE NEIGHBOUR: 'it returns false'. Refute it at one input. -/
def fnExactTimesFromWrong : ChangeSpec := { name := "fnExactTimesFrom", fn := fun _ => fun
  | [d1, d2] => { results := [.lit (.bool false)], args := [d1, d2] }
  | _ => none }
def FnExactTimesFromWrongFalsely : Prop := fnExactTimesFromRow.holds Try.pinned (OpenSpec.ofChange fnExactTimesFromWrong)

/-- 'laws.FnExactTravelTime': WHATEVER THE INPUT: true; the input reads as it did. -/
def fnExactTravelTimeSpec : ChangeSpec := { name := "fnExactTravelTime", fn := fun _ => fun
  | [d1, d2, d3] => { results := [.lit (.bool true)], args := [d1, d2, d3] }
  | _ => none }
def fnExactTravelTimeRow : OpenClaim := { program := "ytajkeepbabfgpaa", sum := "d190869304749262f243d9e47e9c00e5cb308c7777114ebd684b83ee49d67fe1", func := "loop.example/g01020/laws.FnExactTravelTime", spec := "fnExactTravelTime", apart := false }
def FnExactTravelTimeSaid : Prop := fnExactTravelTimeRow.holds Try.pinned (OpenSpec.ofChange fnExactTravelTimeSpec)

/-- ITS FALSE NEIGHBOUR: 'it returns false'. Refute it at one input. -/
def fnExactTravelTimeWrong : ChangeSpec := { name := "fnExactTravelTime", fn := fun _ => fun
  | [d1, d2, d3] => { results := [.lit (.bool false)], args := [d1, d2, d3] }
  | _ => none }
def FnExactTravelTimeWrongFalsely : Prop := fnExactTravelTimeRow.holds Try.pinned (OpenSpec.ofChange fnExactTravelTimeWrong)

/-- 'laws.FnExactRouteBetween': WHATEVER THE INPUT: true; the input reads as it did. -/
def fnExactRouteBetweenSpec : ChangeSpec := { name := "fnExactRouteBetween", fn := fun _ => fun
  | [d1, d2, d3] => { results := [.lit (.bool true)], args := [d1, d2, d3] }
  | _ => none }
def fnExactRouteBetweenRow : OpenClaim := { program := "ytajkeepbabfgpaa", sum := "d190869304749262f243d9e47e9c00e5cb308c7777114ebd684b83ee49d67fe1", func := "loop.example/g01020/laws.FnExactRouteBetween", spec := "fnExactRouteBetween", unfollowed := true, recurses := true, apart := false }
def FnExactRouteBetweenSaid : Prop := fnExactRouteBetweenRow.holds Try.pinned (OpenSpec.ofChange fnExactRouteBetweenSpec)

/-- ITS FALSE NEIGHBOUR: 'it returns false'. Refute it at one input. -/
def fnExactRouteBetweenWrong : ChangeSpec := { name := "fnExactRouteBetween", fn := fun _ => fun
  | [d1, d2, d3] => { results := [.lit (.bool false)], args := [d1, d2, d3] }
  | _ => none }
def FnExactRouteBetweenWrongFalsely : Prop := fnExactRouteBetweenRow.holds Try.pinned (OpenSpec.ofChange fnExactRouteBetweenWrong)

/-- 'laws.FnExactRouteTime': WHATEVER THE INPUT: true; the input reads as it did. -/
def fnExactRouteTimeSpec : ChangeSpec := { name := "fnExactRouteTime", fn := fun _ => fun
  | [d1, d2] => { results := [.lit (.bool true)], args := [d1, d2] }
  | _ => none }
def fnExactRouteTimeRow : OpenClaim := { program := "ytajkeepbabfgpaa", sum := "d190869304749262f243d9e47e9c00e5cb308c7777114ebd684b83ee49d67fe1", func := "loop.example/g01020/laws.FnExactRouteTime", spec := "fnExactRouteTime", unfollowed := true, recurses := true, apart := false }
def FnExactRouteTimeSaid : Prop := fnExactRouteTimeRow.holds Try.pinned (OpenSpec.ofChange fnExactRouteTimeSpec)

/-- ITS FALSE NEIGHBOUR: 'it returns false'. Refute it at one input. -/
def fnExactRouteTimeWrong : ChangeSpec := { name := "fnExactRouteTime", fn := fun _ => fun
  | [d1, d2] => { results := [.lit (.bool false)], args := [d1, d2] }
  | _ => none }
def FnExactRouteTimeWrongFalsely : Prop := fnExactRouteTimeRow.holds Try.pinned (OpenSpec.ofChange fnExactRouteTimeWrong)

/-- 'laws.FnExactCloseStreet': WHATEVER THE INPUT: true; the input reads as it did. -/
def fnExactCloseStreetSpec : ChangeSpec := { name := "fnExactCloseStreet", fn := fun _ => fun
  | [d1, d2, d3] => { results := [.lit (.bool true)], args := [d1, d2, d3] }
  | _ => none }
def fnExactCloseStreetRow : OpenClaim := { program := "ytajkeepbabfgpaa", sum := "d190869304749262f243d9e47e9c00e5cb308c7777114ebd684b83ee49d67fe1", func := "loop.example/g01020/laws.FnExactCloseStreet", spec := "fnExactCloseStreet", unfollowed := true, recurses := true, apart := false }
def FnExactCloseStreetSaid : Prop := fnExactCloseStreetRow.holds Try.pinned (OpenSpec.ofChange fnExactCloseStreetSpec)

/-- ITS FALSE NEIGHBOUR: 'it returns false'. Refute it at one input. -/
def fnExactCloseStreetWrong : ChangeSpec := { name := "fnExactCloseStreet", fn := fun _ => fun
  | [d1, d2, d3] => { results := [.lit (.bool false)], args := [d1, d2, d3] }
  | _ => none }
def FnExactCloseStreetWrongFalsely : Prop := fnExactCloseStreetRow.holds Try.pinned (OpenSpec.ofChange fnExactCloseStreetWrong)

/-- 'laws.FnExactAddStreet': WHATEVER THE INPUT: true; the input reads as it did. -/
def fnExactAddStreetSpec : ChangeSpec := { name := "fnExactAddStreet", fn := fun _ => fun
  | [d1, d2] => { results := [.lit (.bool true)], args := [d1, d2] }
  | _ => none }
def fnExactAddStreetRow : OpenClaim := { program := "ytajkeepbabfgpaa", sum := "d190869304749262f243d9e47e9c00e5cb308c7777114ebd684b83ee49d67fe1", func := "loop.example/g01020/laws.FnExactAddStreet", spec := "fnExactAddStreet", inPlace := ["slices.overlaps[loop.example/g01020/impl.Street]"], unfollowed := true, recurses := true, apart := false }
def FnExactAddStreetSaid : Prop := fnExactAddStreetRow.holds Try.pinned (OpenSpec.ofChange fnExactAddStreetSpec)

/-- ITS FALSE NEIGHBOUR: 'it returns false'. Refute it at one input. -/
def fnExactAddStreetWrong : ChangeSpec := { name := "fnExactAddStreet", fn := fun _ => fun
  | [d1, d2] => { results := [.lit (.bool false)], args := [d1, d2] }
  | _ => none }
def FnExactAddStreetWrongFalsely : Prop := fnExactAddStreetRow.holds Try.pinned (OpenSpec.ofChange fnExactAddStreetWrong)

/-- 'laws.FnExactDetourOf': WHATEVER THE INPUT: true; the input reads as it did. -/
def fnExactDetourOfSpec : ChangeSpec := { name := "fnExactDetourOf", fn := fun _ => fun
  | [d1, d2, d3] => { results := [.lit (.bool true)], args := [d1, d2, d3] }
  | _ => none }
def fnExactDetourOfRow : OpenClaim := { program := "ytajkeepbabfgpaa", sum := "d190869304749262f243d9e47e9c00e5cb308c7777114ebd684b83ee49d67fe1", func := "loop.example/g01020/laws.FnExactDetourOf", spec := "fnExactDetourOf", unfollowed := true, recurses := true, apart := false }
def FnExactDetourOfSaid : Prop := fnExactDetourOfRow.holds Try.pinned (OpenSpec.ofChange fnExactDetourOfSpec)

/-- ITS FALSE NEIGHBOUR: 'it returns false'. Refute it at one input. -/
def fnExactDetourOfWrong : ChangeSpec := { name := "fnExactDetourOf", fn := fun _ => fun
  | [d1, d2, d3] => { results := [.lit (.bool false)], args := [d1, d2, d3] }
  | _ => none }
def FnExactDetourOfWrongFalsely : Prop := fnExactDetourOfRow.holds Try.pinned (OpenSpec.ofChange fnExactDetourOfWrong)

/-- 'laws.FnExactNearestOf': WHATEVER THE INPUT: true; the input reads as it did. -/
def fnExactNearestOfSpec : ChangeSpec := { name := "fnExactNearestOf", fn := fun _ => fun
  | [d1, d2, d3] => { results := [.lit (.bool true)], args := [d1, d2, d3] }
  | _ => none }
def fnExactNearestOfRow : OpenClaim := { program := "ytajkeepbabfgpaa", sum := "d190869304749262f243d9e47e9c00e5cb308c7777114ebd684b83ee49d67fe1", func := "loop.example/g01020/laws.FnExactNearestOf", spec := "fnExactNearestOf", unfollowed := true, recurses := true, apart := false }
def FnExactNearestOfSaid : Prop := fnExactNearestOfRow.holds Try.pinned (OpenSpec.ofChange fnExactNearestOfSpec)

/-- ITS FALSE NEIGHBOUR: 'it returns false'. Refute it at one input. -/
def fnExactNearestOfWrong : ChangeSpec := { name := "fnExactNearestOf", fn := fun _ => fun
  | [d1, d2, d3] => { results := [.lit (.bool false)], args := [d1, d2, d3] }
  | _ => none }
def FnExactNearestOfWrongFalsely : Prop := fnExactNearestOfRow.holds Try.pinned (OpenSpec.ofChange fnExactNearestOfWrong)

/-- 'laws.FnExactMiddleNode': WHATEVER THE INPUT: true; the input reads as it did. -/
def fnExactMiddleNodeSpec : ChangeSpec := { name := "fnExactMiddleNode", fn := fun _ => fun
  | [d] => { results := [.lit (.bool true)], args := [d] }
  | _ => none }
def fnExactMiddleNodeRow : OpenClaim := { program := "ytajkeepbabfgpaa", sum := "d190869304749262f243d9e47e9c00e5cb308c7777114ebd684b83ee49d67fe1", func := "loop.example/g01020/laws.FnExactMiddleNode", spec := "fnExactMiddleNode", apart := false }
def FnExactMiddleNodeSaid : Prop := fnExactMiddleNodeRow.holds Try.pinned (OpenSpec.ofChange fnExactMiddleNodeSpec)

/-- ITS FALSE NEIGHBOUR: 'it returns false'. Refute it at one input. -/
def fnExactMiddleNodeWrong : ChangeSpec := { name := "fnExactMiddleNode", fn := fun _ => fun
  | [d] => { results := [.lit (.bool false)], args := [d] }
  | _ => none }
def FnExactMiddleNodeWrongFalsely : Prop := fnExactMiddleNodeRow.holds Try.pinned (OpenSpec.ofChange fnExactMiddleNodeWrong)

/-- 'laws.FnExactCutStreets': WHATEVER THE INPUT: true; the input reads as it did. -/
def fnExactCutStreetsSpec : ChangeSpec := { name := "fnExactCutStreets", fn := fun _ => fun
  | [d] => { results := [.lit (.bool true)], args := [d] }
  | _ => none }
def fnExactCutStreetsRow : OpenClaim := { program := "ytajkeepbabfgpaa", sum := "d190869304749262f243d9e47e9c00e5cb308c7777114ebd684b83ee49d67fe1", func := "loop.example/g01020/laws.FnExactCutStreets", spec := "fnExactCutStreets", apart := false }
def FnExactCutStreetsSaid : Prop := fnExactCutStreetsRow.holds Try.pinned (OpenSpec.ofChange fnExactCutStreetsSpec)

/-- ITS FALSE NEIGHBOUR: 'it returns false'. Refute it at one input. -/
def fnExactCutStreetsWrong : ChangeSpec := { name := "fnExactCutStreets", fn := fun _ => fun
  | [d] => { results := [.lit (.bool false)], args := [d] }
  | _ => none }
def FnExactCutStreetsWrongFalsely : Prop := fnExactCutStreetsRow.holds Try.pinned (OpenSpec.ofChange fnExactCutStreetsWrong)

/-- 'laws.FnTravel': WHATEVER THE INPUT: true; the input reads as it did. -/
def fnTravelSpec : ChangeSpec := { name := "fnTravel", fn := fun _ => fun
  | [d1, d2] => { results := [.lit (.bool true)], args := [d1, d2] }
  | _ => none }
def fnTravelRow : OpenClaim := { program := "ytajkeepbabfgpaa", sum := "d190869304749262f243d9e47e9c00e5cb308c7777114ebd684b83ee49d67fe1", func := "loop.example/g01020/laws.FnTravel", spec := "fnTravel", unfollowed := true, recurses := true, apart := false }
def FnTravelSaid : Prop := fnTravelRow.holds Try.pinned (OpenSpec.ofChange fnTravelSpec)

/-- ITS FALSE NEIGHBOUR: 'it returns false'. Refute it at one input. -/
def fnTravelWrong : ChangeSpec := { name := "fnTravel", fn := fun _ => fun
  | [d1, d2] => { results := [.lit (.bool false)], args := [d1, d2] }
  | _ => none }
def FnTravelWrongFalsely : Prop := fnTravelRow.holds Try.pinned (OpenSpec.ofChange fnTravelWrong)

/- THE SECOND FORM. 'bulk': how many values and letters a reading holds, each counted each time it is reached (what is shared counts as often as it is met; a slice's spare places count too). A statement '..UptoSaid' is the law's where the arguments, and the package variables that the reading takes, are together of bulk at most 1048576: NARROWER than '..Said'. Prove '..Said' where nothing that the law and all that it calls make is longer than what came in: it says more and counts as full. Else prove '..UptoSaid'. A law counts once. -/
mutual
def uptoBulk {H : Type} : DataW H → Nat
  | .lit (.string bytes) => bytes.length + 1
  | .lit _ => 1
  | .nil => 1
  | .ptr d => uptoBulk d + 1
  | .slice elems spare => uptoBulkAll elems + uptoBulkAll spare + 1
  | .agg parts => uptoBulkAll parts + 1
  | .iface _ d => uptoBulk d + 1
  | .map entries => uptoBulkEntries entries + 1
  | .held _ => 1
def uptoBulkAll {H : Type} : List (DataW H) → Nat
  | [] => 0
  | d :: r => uptoBulk d + uptoBulkAll r
def uptoBulkEntries {H : Type} : List (Lit × DataW H) → Nat
  | [] => 0
  | x :: r => uptoBulkEntry x + uptoBulkEntries r
def uptoBulkEntry {H : Type} : Lit × DataW H → Nat
  | (.string bytes, d) => bytes.length + uptoBulk d + 1
  | (_, d) => uptoBulk d + 1
 end
def uptoSmall : (H : Type) → List (DataW H) → Bool := fun _ ds => decide (uptoBulkAll ds ≤ 1048576)
def OpenSpec.upto (s : _root_.Go.ChangeSpec) : _root_.Go.OpenSpec := { _root_.Go.OpenSpec.ofChange s with cond := some uptoSmall }

/-- 'laws.FnExactIsTown', WHERE WHAT IT READS IS OF BULK AT MOST 1048576: true; the input reads as it did. -/
def fnExactIsTownUptoRow : OpenClaim := { program := "ytajkeepbabfgpaa", sum := "d190869304749262f243d9e47e9c00e5cb308c7777114ebd684b83ee49d67fe1", func := "loop.example/g01020/laws.FnExactIsTown", spec := "fnExactIsTown", apart := false, narrowed := true }
def FnExactIsTownUptoSaid : Prop := fnExactIsTownUptoRow.holds Try.pinned (OpenSpec.upto fnExactIsTownSpec)

/-- 'laws.FnExactTimesFrom', WHERE WHAT IT READS IS OF BULK AT MOST 1048576: true; the input reads as it did. -/
def fnExactTimesFromUptoRow : OpenClaim := { program := "ytajkeepbabfgpaa", sum := "d190869304749262f243d9e47e9c00e5cb308c7777114ebd684b83ee49d67fe1", func := "loop.example/g01020/laws.FnExactTimesFrom", spec := "fnExactTimesFrom", apart := false, narrowed := true }
def FnExactTimesFromUptoSaid : Prop := fnExactTimesFromUptoRow.holds Try.pinned (OpenSpec.upto fnExactTimesFromSpec)

/-- 'laws.FnExactTravelTime', WHERE WHAT IT READS IS OF BULK AT MOST 1048576: true; the input reads as it did. -/
def fnExactTravelTimeUptoRow : OpenClaim := { program := "ytajkeepbabfgpaa", sum := "d190869304749262f243d9e47e9c00e5cb308c7777114ebd684b83ee49d67fe1", func := "loop.example/g01020/laws.FnExactTravelTime", spec := "fnExactTravelTime", apart := false, narrowed := true }
def FnExactTravelTimeUptoSaid : Prop := fnExactTravelTimeUptoRow.holds Try.pinned (OpenSpec.upto fnExactTravelTimeSpec)

/-- 'laws.FnExactRouteBetween', WHERE WHAT IT READS IS OF BULK AT MOST 1048576: true; the input reads as it did. -/
def fnExactRouteBetweenUptoRow : OpenClaim := { program := "ytajkeepbabfgpaa", sum := "d190869304749262f243d9e47e9c00e5cb308c7777114ebd684b83ee49d67fe1", func := "loop.example/g01020/laws.FnExactRouteBetween", spec := "fnExactRouteBetween", unfollowed := true, recurses := true, apart := false, narrowed := true }
def FnExactRouteBetweenUptoSaid : Prop := fnExactRouteBetweenUptoRow.holds Try.pinned (OpenSpec.upto fnExactRouteBetweenSpec)

/-- 'laws.FnExactRouteTime', WHERE WHAT IT READS IS OF BULK AT MOST 1048576: true; the input reads as it did. -/
def fnExactRouteTimeUptoRow : OpenClaim := { program := "ytajkeepbabfgpaa", sum := "d190869304749262f243d9e47e9c00e5cb308c7777114ebd684b83ee49d67fe1", func := "loop.example/g01020/laws.FnExactRouteTime", spec := "fnExactRouteTime", unfollowed := true, recurses := true, apart := false, narrowed := true }
def FnExactRouteTimeUptoSaid : Prop := fnExactRouteTimeUptoRow.holds Try.pinned (OpenSpec.upto fnExactRouteTimeSpec)

/-- 'laws.FnExactCloseStreet', WHERE WHAT IT READS IS OF BULK AT MOST 1048576: true; the input reads as it did. -/
def fnExactCloseStreetUptoRow : OpenClaim := { program := "ytajkeepbabfgpaa", sum := "d190869304749262f243d9e47e9c00e5cb308c7777114ebd684b83ee49d67fe1", func := "loop.example/g01020/laws.FnExactCloseStreet", spec := "fnExactCloseStreet", unfollowed := true, recurses := true, apart := false, narrowed := true }
def FnExactCloseStreetUptoSaid : Prop := fnExactCloseStreetUptoRow.holds Try.pinned (OpenSpec.upto fnExactCloseStreetSpec)

/-- 'laws.FnExactAddStreet', WHERE WHAT IT READS IS OF BULK AT MOST 1048576: true; the input reads as it did. -/
def fnExactAddStreetUptoRow : OpenClaim := { program := "ytajkeepbabfgpaa", sum := "d190869304749262f243d9e47e9c00e5cb308c7777114ebd684b83ee49d67fe1", func := "loop.example/g01020/laws.FnExactAddStreet", spec := "fnExactAddStreet", inPlace := ["slices.overlaps[loop.example/g01020/impl.Street]"], unfollowed := true, recurses := true, apart := false, narrowed := true }
def FnExactAddStreetUptoSaid : Prop := fnExactAddStreetUptoRow.holds Try.pinned (OpenSpec.upto fnExactAddStreetSpec)

/-- 'laws.FnExactDetourOf', WHERE WHAT IT READS IS OF BULK AT MOST 1048576: true; the input reads as it did. -/
def fnExactDetourOfUptoRow : OpenClaim := { program := "ytajkeepbabfgpaa", sum := "d190869304749262f243d9e47e9c00e5cb308c7777114ebd684b83ee49d67fe1", func := "loop.example/g01020/laws.FnExactDetourOf", spec := "fnExactDetourOf", unfollowed := true, recurses := true, apart := false, narrowed := true }
def FnExactDetourOfUptoSaid : Prop := fnExactDetourOfUptoRow.holds Try.pinned (OpenSpec.upto fnExactDetourOfSpec)

/-- 'laws.FnExactNearestOf', WHERE WHAT IT READS IS OF BULK AT MOST 1048576: true; the input reads as it did. -/
def fnExactNearestOfUptoRow : OpenClaim := { program := "ytajkeepbabfgpaa", sum := "d190869304749262f243d9e47e9c00e5cb308c7777114ebd684b83ee49d67fe1", func := "loop.example/g01020/laws.FnExactNearestOf", spec := "fnExactNearestOf", unfollowed := true, recurses := true, apart := false, narrowed := true }
def FnExactNearestOfUptoSaid : Prop := fnExactNearestOfUptoRow.holds Try.pinned (OpenSpec.upto fnExactNearestOfSpec)

/-- 'laws.FnExactMiddleNode', WHERE WHAT IT READS IS OF BULK AT MOST 1048576: true; the input reads as it did. -/
def fnExactMiddleNodeUptoRow : OpenClaim := { program := "ytajkeepbabfgpaa", sum := "d190869304749262f243d9e47e9c00e5cb308c7777114ebd684b83ee49d67fe1", func := "loop.example/g01020/laws.FnExactMiddleNode", spec := "fnExactMiddleNode", apart := false, narrowed := true }
def FnExactMiddleNodeUptoSaid : Prop := fnExactMiddleNodeUptoRow.holds Try.pinned (OpenSpec.upto fnExactMiddleNodeSpec)

/-- 'laws.FnExactCutStreets', WHERE WHAT IT READS IS OF BULK AT MOST 1048576: true; the input reads as it did. -/
def fnExactCutStreetsUptoRow : OpenClaim := { program := "ytajkeepbabfgpaa", sum := "d190869304749262f243d9e47e9c00e5cb308c7777114ebd684b83ee49d67fe1", func := "loop.example/g01020/laws.FnExactCutStreets", spec := "fnExactCutStreets", apart := false, narrowed := true }
def FnExactCutStreetsUptoSaid : Prop := fnExactCutStreetsUptoRow.holds Try.pinned (OpenSpec.upto fnExactCutStreetsSpec)

/-- 'laws.FnTravel', WHERE WHAT IT READS IS OF BULK AT MOST 1048576: true; the input reads as it did. -/
def fnTravelUptoRow : OpenClaim := { program := "ytajkeepbabfgpaa", sum := "d190869304749262f243d9e47e9c00e5cb308c7777114ebd684b83ee49d67fe1", func := "loop.example/g01020/laws.FnTravel", spec := "fnTravel", unfollowed := true, recurses := true, apart := false, narrowed := true }
def FnTravelUptoSaid : Prop := fnTravelUptoRow.holds Try.pinned (OpenSpec.upto fnTravelSpec)

end Rows
end Go.Proofs.Ytajkeepbabfgpaa
