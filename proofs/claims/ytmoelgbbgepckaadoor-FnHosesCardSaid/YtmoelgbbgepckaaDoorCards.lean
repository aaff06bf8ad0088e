/-
  DERIVED. GIVEN WITH THE SEED: THE CARDS: each row of YtmoelgbbgepckaaDoorRows.lean that lists a variable, with what it lists TIED to the program's text (the seventh form; the later family's looks); each row that meets fmt, with fmt's text TOLD by the authors' own Lean function (tested against real Go, not proved from fmt's source: count such statements apart). THE CARD IS WHAT COUNTS. Prove the row's statement (the work); the ties are given (YtmoelgbbgepckaaDoorTie.lean); close each card by the builder's one call (the guide's Derived/Test/ToyasCard.lean, 'card_holds'). Laid BY PROGRAM, IN A SANDBOX (cutbox-door.mjs). By AI agents, Wed Nov 11 2026. No macro, syntax, notation, axiom, sorry.
-/
import Derived.Test.YtmoelgbbgepckaaDoorRows
import GoSem.ClaimSeven
namespace Go.Proofs.YtmoelgbbgepckaaDoor
namespace Rows

/-- THE TIED CARD OF 'laws.FnExactHoseText'. -/
def fnExactHoseTextCard : Claim7 := { stood := { row := fnExactHoseTextRow, standIns := [], harness := (true, "dac7e3cd6b67b31a5a03b5dc01870ff891bfd5ef07e5d03ee0c265703fd90fe8"), looks := true }, kinds := [], alts := [], laidByText := true, laidKinds := [.data, .data, .data], laidTests := true, laidLooks := .later }
def FnExactHoseTextCardSaid : Prop := Claim7.holds Tryd.pinned (.plain (OpenSpec.ofChange fnExactHoseTextSpec)) fnExactHoseTextCard

/-- THE TIED CARD OF 'laws.FnExactParseHoses'. -/
def fnExactParseHosesCard : Claim7 := { stood := { row := fnExactParseHosesRow, standIns := [], harness := (true, "dac7e3cd6b67b31a5a03b5dc01870ff891bfd5ef07e5d03ee0c265703fd90fe8"), looks := true }, kinds := [], alts := [], laidByText := true, laidKinds := [.data, .data, .data, .data, .sentinel, .sentinel, .pinned], laidTests := true, laidLooks := .later }
def FnExactParseHosesCardSaid : Prop := Claim7.holds Tryd.pinned (.plain (OpenSpec.ofChange fnExactParseHosesSpec)) fnExactParseHosesCard

/-- THE TIED CARD OF 'laws.FnHoses'. -/
def fnHosesCard : Claim7 := { stood := { row := fnHosesRow, standIns := [], harness := (true, "dac7e3cd6b67b31a5a03b5dc01870ff891bfd5ef07e5d03ee0c265703fd90fe8"), looks := true }, kinds := [], alts := [], laidByText := true, laidKinds := [.data, .data, .data, .data, .sentinel, .sentinel, .pinned], laidTests := true, laidLooks := .later }
def FnHosesCardSaid : Prop := Claim7.holds Tryd.pinned (.plain (OpenSpec.ofChange fnHosesSpec)) fnHosesCard

/-- THE TIED CARD OF 'laws.FnExactNetText'. -/
def fnExactNetTextCard : Claim7 := { stood := { row := fnExactNetTextRow, standIns := [], harness := (true, "dac7e3cd6b67b31a5a03b5dc01870ff891bfd5ef07e5d03ee0c265703fd90fe8"), looks := true }, kinds := [], alts := [], laidByText := true, laidKinds := [.data, .data, .data], laidTests := true, laidLooks := .later }
def FnExactNetTextCardSaid : Prop := Claim7.holds Tryd.pinned (.plain (OpenSpec.ofChange fnExactNetTextSpec)) fnExactNetTextCard

/-- THE TIED CARD OF 'laws.FnExactParseNet'. -/
def fnExactParseNetCard : Claim7 := { stood := { row := fnExactParseNetRow, standIns := [], harness := (true, "dac7e3cd6b67b31a5a03b5dc01870ff891bfd5ef07e5d03ee0c265703fd90fe8"), looks := true }, kinds := [], alts := [], laidByText := true, laidKinds := [.data, .data, .data, .data, .sentinel, .sentinel, .listed, .data, .pinned], laidTests := true, laidLooks := .later }
def FnExactParseNetCardSaid : Prop := Claim7.holds Tryd.pinned (.plain (OpenSpec.ofChange fnExactParseNetSpec)) fnExactParseNetCard

/-- THE TIED CARD OF 'laws.FnExactParseAddress'. -/
def fnExactParseAddressCard : Claim7 := { stood := { row := fnExactParseAddressRow, standIns := [], harness := (true, "dac7e3cd6b67b31a5a03b5dc01870ff891bfd5ef07e5d03ee0c265703fd90fe8"), looks := true }, kinds := [], alts := [], laidByText := true, laidKinds := [.data, .data, .data, .sentinel, .sentinel], laidTests := true, laidLooks := .later }
def FnExactParseAddressCardSaid : Prop := Claim7.holds Tryd.pinned (.plain (OpenSpec.ofChange fnExactParseAddressSpec)) fnExactParseAddressCard

/-- THE TIED CARD OF 'laws.FnNames'. -/
def fnNamesCard : Claim7 := { stood := { row := fnNamesRow, standIns := [], harness := (true, "dac7e3cd6b67b31a5a03b5dc01870ff891bfd5ef07e5d03ee0c265703fd90fe8"), looks := true }, kinds := [], alts := [], laidByText := true, laidKinds := [.data, .data, .data, .sentinel, .sentinel], laidTests := true, laidLooks := .later }
def FnNamesCardSaid : Prop := Claim7.holds Tryd.pinned (.plain (OpenSpec.ofChange fnNamesSpec)) fnNamesCard

/-- THE SECOND FORM's CARD OF 'laws.FnExactHoseText'. -/
def fnExactHoseTextUptoCard : Claim7 := { stood := { row := fnExactHoseTextUptoRow, standIns := [], harness := (true, "dac7e3cd6b67b31a5a03b5dc01870ff891bfd5ef07e5d03ee0c265703fd90fe8"), looks := true }, kinds := [], alts := [], laidByText := true, laidKinds := [.data, .data, .data], laidTests := true, laidLooks := .later }
def FnExactHoseTextUptoCardSaid : Prop := Claim7.holds Tryd.pinned (.plain (OpenSpec.upto fnExactHoseTextSpec)) fnExactHoseTextUptoCard

/-- THE SECOND FORM's CARD OF 'laws.FnExactParseHoses'. -/
def fnExactParseHosesUptoCard : Claim7 := { stood := { row := fnExactParseHosesUptoRow, standIns := [], harness := (true, "dac7e3cd6b67b31a5a03b5dc01870ff891bfd5ef07e5d03ee0c265703fd90fe8"), looks := true }, kinds := [], alts := [], laidByText := true, laidKinds := [.data, .data, .data, .data, .sentinel, .sentinel, .pinned], laidTests := true, laidLooks := .later }
def FnExactParseHosesUptoCardSaid : Prop := Claim7.holds Tryd.pinned (.plain (OpenSpec.upto fnExactParseHosesSpec)) fnExactParseHosesUptoCard

/-- THE SECOND FORM's CARD OF 'laws.FnHoses'. -/
def fnHosesUptoCard : Claim7 := { stood := { row := fnHosesUptoRow, standIns := [], harness := (true, "dac7e3cd6b67b31a5a03b5dc01870ff891bfd5ef07e5d03ee0c265703fd90fe8"), looks := true }, kinds := [], alts := [], laidByText := true, laidKinds := [.data, .data, .data, .data, .sentinel, .sentinel, .pinned], laidTests := true, laidLooks := .later }
def FnHosesUptoCardSaid : Prop := Claim7.holds Tryd.pinned (.plain (OpenSpec.upto fnHosesSpec)) fnHosesUptoCard

/-- THE SECOND FORM's CARD OF 'laws.FnExactNetText'. -/
def fnExactNetTextUptoCard : Claim7 := { stood := { row := fnExactNetTextUptoRow, standIns := [], harness := (true, "dac7e3cd6b67b31a5a03b5dc01870ff891bfd5ef07e5d03ee0c265703fd90fe8"), looks := true }, kinds := [], alts := [], laidByText := true, laidKinds := [.data, .data, .data], laidTests := true, laidLooks := .later }
def FnExactNetTextUptoCardSaid : Prop := Claim7.holds Tryd.pinned (.plain (OpenSpec.upto fnExactNetTextSpec)) fnExactNetTextUptoCard

/-- THE SECOND FORM's CARD OF 'laws.FnExactParseNet'. -/
def fnExactParseNetUptoCard : Claim7 := { stood := { row := fnExactParseNetUptoRow, standIns := [], harness := (true, "dac7e3cd6b67b31a5a03b5dc01870ff891bfd5ef07e5d03ee0c265703fd90fe8"), looks := true }, kinds := [], alts := [], laidByText := true, laidKinds := [.data, .data, .data, .data, .sentinel, .sentinel, .listed, .data, .pinned], laidTests := true, laidLooks := .later }
def FnExactParseNetUptoCardSaid : Prop := Claim7.holds Tryd.pinned (.plain (OpenSpec.upto fnExactParseNetSpec)) fnExactParseNetUptoCard

/-- THE SECOND FORM's CARD OF 'laws.FnExactParseAddress'. -/
def fnExactParseAddressUptoCard : Claim7 := { stood := { row := fnExactParseAddressUptoRow, standIns := [], harness := (true, "dac7e3cd6b67b31a5a03b5dc01870ff891bfd5ef07e5d03ee0c265703fd90fe8"), looks := true }, kinds := [], alts := [], laidByText := true, laidKinds := [.data, .data, .data, .sentinel, .sentinel], laidTests := true, laidLooks := .later }
def FnExactParseAddressUptoCardSaid : Prop := Claim7.holds Tryd.pinned (.plain (OpenSpec.upto fnExactParseAddressSpec)) fnExactParseAddressUptoCard

/-- THE SECOND FORM's CARD OF 'laws.FnNames'. -/
def fnNamesUptoCard : Claim7 := { stood := { row := fnNamesUptoRow, standIns := [], harness := (true, "dac7e3cd6b67b31a5a03b5dc01870ff891bfd5ef07e5d03ee0c265703fd90fe8"), looks := true }, kinds := [], alts := [], laidByText := true, laidKinds := [.data, .data, .data, .sentinel, .sentinel], laidTests := true, laidLooks := .later }
def FnNamesUptoCardSaid : Prop := Claim7.holds Tryd.pinned (.plain (OpenSpec.upto fnNamesSpec)) fnNamesUptoCard
end Rows
end Go.Proofs.YtmoelgbbgepckaaDoor
