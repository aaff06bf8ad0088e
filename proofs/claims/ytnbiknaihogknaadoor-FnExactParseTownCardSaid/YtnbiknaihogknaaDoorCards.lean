/-
  DERIVED. GIVEN WITH THE SEED: THE CARDS: each row of YtnbiknaihogknaaDoorRows.lean that lists a variable, with what it lists TIED to the program's text (the seventh form; the later family's looks); each row that meets fmt, with fmt's text TOLD by the authors' own Lean function (tested against real Go, not proved from fmt's source: count such statements apart). THE CARD IS WHAT COUNTS. Prove the row's statement (the work); the ties are given (YtnbiknaihogknaaDoorTie.lean); close each card by the builder's one call (the guide's Derived/Test/ToyasCard.lean, 'card_holds'). Laid BY PROGRAM, IN A SANDBOX (cutbox-door.mjs). By AI agents, Wed Nov 11 2026. No macro, syntax, notation, axiom, sorry.
-/
import Derived.Test.YtnbiknaihogknaaDoorRows
import GoSem.ClaimSeven
namespace Go.Proofs.YtnbiknaihogknaaDoor
namespace Rows

/-- THE TIED CARD OF 'laws.FnExactParseTown'. -/
def fnExactParseTownCard : Claim7 := { stood := { row := fnExactParseTownRow, standIns := [], harness := (true, "02692b55b58e716de4def63232871a447e48b70b29329ba85c642a6893a6823e"), looks := true }, kinds := [], alts := [], laidByText := true, laidKinds := [.data, .data, .data, .sentinel, .sentinel, .listed, .data], laidTests := true, laidLooks := .later }
def FnExactParseTownCardSaid : Prop := Claim7.holds Tryd.pinned (.plain (OpenSpec.ofChange fnExactParseTownSpec)) fnExactParseTownCard

/-- THE SECOND FORM's CARD OF 'laws.FnExactParseTown'. -/
def fnExactParseTownUptoCard : Claim7 := { stood := { row := fnExactParseTownUptoRow, standIns := [], harness := (true, "02692b55b58e716de4def63232871a447e48b70b29329ba85c642a6893a6823e"), looks := true }, kinds := [], alts := [], laidByText := true, laidKinds := [.data, .data, .data, .sentinel, .sentinel, .listed, .data], laidTests := true, laidLooks := .later }
def FnExactParseTownUptoCardSaid : Prop := Claim7.holds Tryd.pinned (.plain (OpenSpec.upto fnExactParseTownSpec)) fnExactParseTownUptoCard
end Rows
end Go.Proofs.YtnbiknaihogknaaDoor
