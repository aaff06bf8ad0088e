/-
  DERIVED. GIVEN WITH THE SEED: THE CARDS: each row of YtbkhejkncmgdeaaDoorRows.lean that lists a variable, with what it lists TIED to the program's text (the seventh form; the later family's looks); each row that meets fmt, with fmt's text TOLD by the authors' own Lean function (tested against real Go, not proved from fmt's source: count such statements apart). THE CARD IS WHAT COUNTS. Prove the row's statement (the work); the ties are given (YtbkhejkncmgdeaaDoorTie.lean); close each card by the builder's one call (the guide's Derived/Test/ToyasCard.lean, 'card_holds'). Laid BY PROGRAM, IN A SANDBOX (cutbox-door.mjs). By AI agents, Wed Nov 11 2026. No macro, syntax, notation, axiom, sorry.
-/
import Derived.Test.YtbkhejkncmgdeaaDoorRows
import GoSem.ClaimSeven
namespace Go.Proofs.YtbkhejkncmgdeaaDoor
namespace Rows

/-- THE TIED CARD OF 'laws.FnExactTownText'. -/
def fnExactTownTextCard : Claim7 := { stood := { row := fnExactTownTextRow, standIns := [], harness := (true, "76c4b048383f17ab74294ea0149ec45687a6fd52a8660be0b9ca0c49965ecba6"), looks := true }, kinds := [], alts := [], laidByText := true, laidKinds := [.data, .data, .data], laidTests := true, laidLooks := .later }
def FnExactTownTextCardSaid : Prop := Claim7.holds Tryd.pinned (.plain (OpenSpec.ofChange fnExactTownTextSpec)) fnExactTownTextCard

/-- THE TIED CARD OF 'laws.FnExactParseTown'. -/
def fnExactParseTownCard : Claim7 := { stood := { row := fnExactParseTownRow, standIns := [], harness := (true, "76c4b048383f17ab74294ea0149ec45687a6fd52a8660be0b9ca0c49965ecba6"), looks := true }, kinds := [], alts := [], laidByText := true, laidKinds := [.data, .data, .data, .sentinel, .sentinel, .listed, .data], laidTests := true, laidLooks := .later }
def FnExactParseTownCardSaid : Prop := Claim7.holds Tryd.pinned (.plain (OpenSpec.ofChange fnExactParseTownSpec)) fnExactParseTownCard

/-- THE SECOND FORM's CARD OF 'laws.FnExactTownText'. -/
def fnExactTownTextUptoCard : Claim7 := { stood := { row := fnExactTownTextUptoRow, standIns := [], harness := (true, "76c4b048383f17ab74294ea0149ec45687a6fd52a8660be0b9ca0c49965ecba6"), looks := true }, kinds := [], alts := [], laidByText := true, laidKinds := [.data, .data, .data], laidTests := true, laidLooks := .later }
def FnExactTownTextUptoCardSaid : Prop := Claim7.holds Tryd.pinned (.plain (OpenSpec.upto fnExactTownTextSpec)) fnExactTownTextUptoCard

/-- THE SECOND FORM's CARD OF 'laws.FnExactParseTown'. -/
def fnExactParseTownUptoCard : Claim7 := { stood := { row := fnExactParseTownUptoRow, standIns := [], harness := (true, "76c4b048383f17ab74294ea0149ec45687a6fd52a8660be0b9ca0c49965ecba6"), looks := true }, kinds := [], alts := [], laidByText := true, laidKinds := [.data, .data, .data, .sentinel, .sentinel, .listed, .data], laidTests := true, laidLooks := .later }
def FnExactParseTownUptoCardSaid : Prop := Claim7.holds Tryd.pinned (.plain (OpenSpec.upto fnExactParseTownSpec)) fnExactParseTownUptoCard
end Rows
end Go.Proofs.YtbkhejkncmgdeaaDoor
