/-
  DERIVED. GIVEN WITH THE SEED: THE CARDS: each row of YtfcpgpmhjadanaaGreatDoorRows.lean that lists a variable, with what it lists TIED to the program's text (the seventh form; the later family's looks); each row that meets fmt, with fmt's text TOLD by the authors' own Lean function (tested against real Go, not proved from fmt's source: count such statements apart). THE CARD IS WHAT COUNTS. Prove the row's statement (the work); the ties are given (YtfcpgpmhjadanaaGreatDoorTie.lean); close each card by the builder's one call (the guide's Derived/Test/ToyasCard.lean, 'card_holds'). Laid BY PROGRAM, IN A SANDBOX (cutbox-door.mjs). By AI agents, Wed Nov 11 2026. No macro, syntax, notation, axiom, sorry.
-/
import Derived.Test.YtfcpgpmhjadanaaGreatDoorRows
import GoSem.ClaimSeven
namespace Go.Proofs.YtfcpgpmhjadanaaGreatDoor
namespace Rows

/-- THE TIED CARD OF 'laws.FnMains'. -/
def fnMainsCard : Claim7 := { stood := { row := fnMainsRow, standIns := [], harness := (true, "1063154a288bd2b801ccb149f9ff28634957b76949c885dcd64831b98bba7496"), looks := true }, kinds := [], alts := [], laidByText := true, laidKinds := [.data, .data, .data, .data, .sentinel, .sentinel, .listed, .data, .pinned], laidTests := true, laidLooks := .later }
def FnMainsCardSaid : Prop := Claim7.holds Tryz.pinned (.plain (OpenSpec.ofChange fnMainsSpec)) fnMainsCard

/-- THE SECOND FORM's CARD OF 'laws.FnMains'. -/
def fnMainsUptoCard : Claim7 := { stood := { row := fnMainsUptoRow, standIns := [], harness := (true, "1063154a288bd2b801ccb149f9ff28634957b76949c885dcd64831b98bba7496"), looks := true }, kinds := [], alts := [], laidByText := true, laidKinds := [.data, .data, .data, .data, .sentinel, .sentinel, .listed, .data, .pinned], laidTests := true, laidLooks := .later }
def FnMainsUptoCardSaid : Prop := Claim7.holds Tryz.pinned (.plain (OpenSpec.upto fnMainsSpec)) fnMainsUptoCard
end Rows
end Go.Proofs.YtfcpgpmhjadanaaGreatDoor
