/-
  No cell of these rows narrows 'for every input' (looked for: loops, veiled, ifaces, maps, wideKeys, modest, calm, conditions, laid).
  DERIVED. THE GIVEN ROWS OF THIS SEAT. 4 by the template 'for every input the law returns true; each argument reads behind the call as it read before'; 0 by the template 'total and deterministic' (their statements: YtobdebagijmkjaaTotals.lean).
  GIVEN WITH THE SEED: the statements are not yours to turn. If you find one false, say at which input.
  Laid BY PROGRAM, IN A SANDBOX (cutbox-rows.mjs): the forced cells as the released guide's own fill.sh prints them over the translation db74d9958db1abab… (all of the seat's roots in one cut). By AI agents, Wed Nov 11 2026. No macro, syntax, notation, axiom, sorry.
-/
import Derived.Test.YtobdebagijmkjaaChecked
import GoSem.Claim
import GoSem.ClaimJoined
import GoSem.ClaimMapViews
import Derived.JoinedTies
import Derived.KernelRfl
namespace Go.Proofs.Ytobdebagijmkjaa
/- THE CELL 'sum', in the pinned program and in every row, IS THE sha256 OF THE DUMP (.gsa) THAT YtobdebagijmkjaaProg.lean LOADS. Nothing in Lean hashes anything: it is a label: what it is worth is what the hold of that sum in a sandbox is worth. -/
noncomputable def Try.pinned : Pinned := { name := "ytobdebagijmkjaa", sum := "db74d9958db1abab92403f52e9b793dc5ea5a151f5f031621cddc60326f2e58b", checked := Try.checked }
namespace Rows
def none {H : Type} : Left H := { results := [], args := [] }

/-- 'laws.FnExactRemoveHouse': WHATEVER THE INPUT: true; the input reads as it did. -/
def fnExactRemoveHouseSpec : ChangeSpec := { name := "fnExactRemoveHouse", fn := fun _ => fun
  | [d1, d2, d3] => { results := [.lit (.bool true)], args := [d1, d2, d3] }
  | _ => none }
def fnExactRemoveHouseRow : OpenClaim := { program := "ytobdebagijmkjaa", sum := "db74d9958db1abab92403f52e9b793dc5ea5a151f5f031621cddc60326f2e58b", func := "loop.example/g01020/laws.FnExactRemoveHouse", spec := "fnExactRemoveHouse", unfollowed := true, recurses := true, apart := false }
def FnExactRemoveHouseSaid : Prop := fnExactRemoveHouseRow.holds Try.pinned (OpenSpec.ofChange fnExactRemoveHouseSpec)

/-- ITS FALSE NEIGHBOUR: 'it returns false'. Refute it at one input. -/
def fnExactRemoveHouseWrong : ChangeSpec := { name := "fnExactRemoveHouse", fn := fun _ => fun
  | [d1, d2, d3] => { results := [.lit (.bool false)], args := [d1, d2, d3] }
  | _ => none }
def FnExactRemoveHouseWrongFalsely : Prop := fnExactRemoveHouseRow.holds Try.pinned (OpenSpec.ofChange fnExactRemoveHouseWrong)

/-- 'laws.FnExactAddStretch': WHATEVER THE INPUT: true; the input reads as it did. -/
def fnExactAddStretchSpec : ChangeSpec := { name := "fnExactAddStretch", fn := fun _ => fun
  | [d1, d2] => { results := [.lit (.bool true)], args := [d1, d2] }
  | _ => none }
def fnExactAddStretchRow : OpenClaim := { program := "ytobdebagijmkjaa", sum := "db74d9958db1abab92403f52e9b793dc5ea5a151f5f031621cddc60326f2e58b", func := "loop.example/g01020/laws.FnExactAddStretch", spec := "fnExactAddStretch", inPlace := ["slices.overlaps[loop.example/g01020/impl.Stretch]"], unfollowed := true, recurses := true, apart := false }
def FnExactAddStretchSaid : Prop := fnExactAddStretchRow.holds Try.pinned (OpenSpec.ofChange fnExactAddStretchSpec)

/-- ITS FALSE NEIGHBOUR: 'it returns false'. Refute it at one input. -/
def fnExactAddStretchWrong : ChangeSpec := { name := "fnExactAddStretch", fn := fun _ => fun
  | [d1, d2] => { results := [.lit (.bool false)], args := [d1, d2] }
  | _ => none }
def FnExactAddStretchWrongFalsely : Prop := fnExactAddStretchRow.holds Try.pinned (OpenSpec.ofChange fnExactAddStretchWrong)

/-- 'laws.FnExactGapsOf': WHATEVER THE INPUT: true; the input reads as it did. -/
def fnExactGapsOfSpec : ChangeSpec := { name := "fnExactGapsOf", fn := fun _ => fun
  | [d1, d2] => { results := [.lit (.bool true)], args := [d1, d2] }
  | _ => none }
def fnExactGapsOfRow : OpenClaim := { program := "ytobdebagijmkjaa", sum := "db74d9958db1abab92403f52e9b793dc5ea5a151f5f031621cddc60326f2e58b", func := "loop.example/g01020/laws.FnExactGapsOf", spec := "fnExactGapsOf", apart := false }
def FnExactGapsOfSaid : Prop := fnExactGapsOfRow.holds Try.pinned (OpenSpec.ofChange fnExactGapsOfSpec)

/-- ITS FALSE NEIGHBOUR: 'it returns false'. Refute it at one input. -/
def fnExactGapsOfWrong : ChangeSpec := { name := "fnExactGapsOf", fn := fun _ => fun
  | [d1, d2] => { results := [.lit (.bool false)], args := [d1, d2] }
  | _ => none }
def FnExactGapsOfWrongFalsely : Prop := fnExactGapsOfRow.holds Try.pinned (OpenSpec.ofChange fnExactGapsOfWrong)

/-- 'laws.FnAddresses': WHATEVER THE INPUT: true; the input reads as it did. -/
def fnAddressesSpec : ChangeSpec := { name := "fnAddresses", fn := fun _ => fun
  | [d1, d2] => { results := [.lit (.bool true)], args := [d1, d2] }
  | _ => none }
def fnAddressesRow : OpenClaim := { program := "ytobdebagijmkjaa", sum := "db74d9958db1abab92403f52e9b793dc5ea5a151f5f031621cddc60326f2e58b", func := "loop.example/g01020/laws.FnAddresses", spec := "fnAddresses", inPlace := ["slices.overlaps[loop.example/g01020/impl.Stretch]"], unfollowed := true, recurses := true, apart := false }
def FnAddressesSaid : Prop := fnAddressesRow.holds Try.pinned (OpenSpec.ofChange fnAddressesSpec)

/-- ITS FALSE NEIGHBOUR: 'it returns false'. Refute it at one input. -/
def fnAddressesWrong : ChangeSpec := { name := "fnAddresses", fn := fun _ => fun
  | [d1, d2] => { results := [.lit (.bool false)], args := [d1, d2] }
  | _ => none }
def FnAddressesWrongFalsely : Prop := fnAddressesRow.holds Try.pinned (OpenSpec.ofChange fnAddressesWrong)

/- THE SECOND FORM. 'bulk': how many values and letters a reading holds, each counted each time it is reached (what is shared counts as often as it is met; a slice's spare places count too). A statement '..UptoSaid' is the law's where the arguments, and the package variables that the reading takes, are together of bulk at most 1048576: NARROWER than '..Said'. Prove '..Said' where nothing that the law and all that it calls make is longer than what came in: it says more and counts as full. Else prove '..UptoSaid'. A law counts once. -/
mutual
def uptoBulk {H : Type} : DataW H → Nat
  | .lit (.string bytes) => bytes.length + 1
  | .lit _ => 1
  | .nil => 1
  | .ptr d => uptoBulk d + 1
  | .slice elems spare => uptoBulkAll elems + uptoBulkAll spare + 1
  | .agg parts => uptoBulkAll parts + 1
  | .iface _ d => uptoBulk d + 1
  | .map entries => uptoBulkEntries entries + 1
  | .held _ => 1
def uptoBulkAll {H : Type} : List (DataW H) → Nat
  | [] => 0
  | d :: r => uptoBulk d + uptoBulkAll r
def uptoBulkEntries {H : Type} : List (Lit × DataW H) → Nat
  | [] => 0
  | x :: r => uptoBulkEntry x + uptoBulkEntries r
def uptoBulkEntry {H : Type} : Lit × DataW H → Nat
  | (.string bytes, d) => bytes.length + uptoBulk d + 1
  | (_, d) => uptoBulk d + 1
 end
def uptoSmall : (H : Type) → List (DataW H) → Bool := fun _ ds => decide (uptoBulkAll ds ≤ 1048576)
def OpenSpec.upto (s : _root_.Go.ChangeSpec) : _root_.Go.OpenSpec := { _root_.Go.OpenSpec.ofChange s with cond := some uptoSmall }

/-- 'laws.FnExactRemoveHouse', WHERE WHAT IT READS IS OF BULK AT MOST 1048576: true; the input reads as it did. -/
def fnExactRemoveHouseUptoRow : OpenClaim := { program := "ytobdebagijmkjaa", sum := "db74d9958db1abab92403f52e9b793dc5ea5a151f5f031621cddc60326f2e58b", func := "loop.example/g01020/laws.FnExactRemoveHouse", spec := "fnExactRemoveHouse", unfollowed := true, recurses := true, apart := false, narrowed := true }
def FnExactRemoveHouseUptoSaid : Prop := fnExactRemoveHouseUptoRow.holds Try.pinned (OpenSpec.upto fnExactRemoveHouseSpec)

/-- 'laws.FnExactAddStretch', WHERE WHAT IT READS IS OF BULK AT MOST 1048576: true; the input reads as it did. -/
def fnExactAddStretchUptoRow : OpenClaim := { program := "ytobdebagijmkjaa", sum := "db74d9958db1abab92403f52e9b793dc5ea5a151f5f031621cddc60326f2e58b", func := "loop.example/g01020/laws.FnExactAddStretch", spec := "fnExactAddStretch", inPlace := ["slices.overlaps[loop.example/g01020/impl.Stretch]"], unfollowed := true, recurses := true, apart := false, narrowed := true }
def FnExactAddStretchUptoSaid : Prop := fnExactAddStretchUptoRow.holds Try.pinned (OpenSpec.upto fnExactAddStretchSpec)

/-- 'laws.FnExactGapsOf', WHERE WHAT IT READS IS OF BULK AT MOST 1048576: true; the input reads as it did. -/
def fnExactGapsOfUptoRow : OpenClaim := { program := "ytobdebagijmkjaa", sum := "db74d9958db1abab92403f52e9b793dc5ea5a151f5f031621cddc60326f2e58b", func := "loop.example/g01020/laws.FnExactGapsOf", spec := "fnExactGapsOf", apart := false, narrowed := true }
def FnExactGapsOfUptoSaid : Prop := fnExactGapsOfUptoRow.holds Try.pinned (OpenSpec.upto fnExactGapsOfSpec)

/-- 'laws.FnAddresses', WHERE WHAT IT READS IS OF BULK AT MOST 1048576: true; the input reads as it did. -/
def fnAddressesUptoRow : OpenClaim := { program := "ytobdebagijmkjaa", sum := "db74d9958db1abab92403f52e9b793dc5ea5a151f5f031621cddc60326f2e58b", func := "loop.example/g01020/laws.FnAddresses", spec := "fnAddresses", inPlace := ["slices.overlaps[loop.example/g01020/impl.Stretch]"], unfollowed := true, recurses := true, apart := false, narrowed := true }
def FnAddressesUptoSaid : Prop := fnAddressesUptoRow.holds Try.pinned (OpenSpec.upto fnAddressesSpec)

end Rows
end Go.Proofs.Ytobdebagijmkjaa
