/-
  DERIVED. GIVEN WITH THE SEED: THE CARDS: each row of YtbhnaakknfienaaGreatDoorRows.lean that lists a variable, with what it lists TIED to the program's text (the seventh form; the later family's looks); each row that meets fmt, with fmt's text TOLD by the authors' own Lean function (tested against real Go, not proved from fmt's source: count such statements apart). THE CARD IS WHAT COUNTS. Prove the row's statement (the work); the ties are given (YtbhnaakknfienaaGreatDoorTie.lean); close each card by the builder's one call (the guide's Derived/Test/ToyasCard.lean, 'card_holds'). Laid BY PROGRAM, IN A SANDBOX (cutbox-door.mjs). By AI agents, Wed Nov 11 2026. No macro, syntax, notation, axiom, sorry.
-/
import Derived.Test.YtbhnaakknfienaaGreatDoorRows
import GoSem.ClaimSeven
namespace Go.Proofs.YtbhnaakknfienaaGreatDoor
namespace Rows

/-- THE TIED CARD OF 'laws.FnStreets'. -/
def fnStreetsCard : Claim7 := { stood := { row := fnStreetsRow, standIns := [], harness := (true, "bbc04db0d012547168e5e35c8e754aa3cb6942c05d8b2e887365f00cb7c98f61"), looks := true }, kinds := [], alts := [], laidByText := true, laidKinds := [.data, .data, .data, .sentinel, .sentinel, .listed, .data], laidTests := true, laidLooks := .later }
def FnStreetsCardSaid : Prop := Claim7.holds Tryz.pinned (.plain (OpenSpec.ofChange fnStreetsSpec)) fnStreetsCard

/-- THE SECOND FORM's CARD OF 'laws.FnStreets'. -/
def fnStreetsUptoCard : Claim7 := { stood := { row := fnStreetsUptoRow, standIns := [], harness := (true, "bbc04db0d012547168e5e35c8e754aa3cb6942c05d8b2e887365f00cb7c98f61"), looks := true }, kinds := [], alts := [], laidByText := true, laidKinds := [.data, .data, .data, .sentinel, .sentinel, .listed, .data], laidTests := true, laidLooks := .later }
def FnStreetsUptoCardSaid : Prop := Claim7.holds Tryz.pinned (.plain (OpenSpec.upto fnStreetsSpec)) fnStreetsUptoCard
end Rows
end Go.Proofs.YtbhnaakknfienaaGreatDoor
