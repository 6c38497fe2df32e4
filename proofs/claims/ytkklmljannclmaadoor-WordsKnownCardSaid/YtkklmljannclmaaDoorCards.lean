/-
  DERIVED. GIVEN WITH THE SEED: THE CARDS: each row of YtkklmljannclmaaDoorRows.lean that lists a variable, with what it lists TIED to the program's text (the seventh form; the later family's looks); each row that meets fmt, with fmt's text TOLD by the authors' own Lean function (tested against real Go, not proved from fmt's source: count such statements apart). THE CARD IS WHAT COUNTS. Prove the row's statement (the work); the ties are given (YtkklmljannclmaaDoorTie.lean); close each card by the builder's one call (the guide's Derived/Test/ToyasCard.lean, 'card_holds'). Laid BY PROGRAM, IN A SANDBOX (cutbox-door.mjs). By AI agents, Wed Nov 11 2026. No macro, syntax, notation, axiom, sorry.
-/
import Derived.Test.YtkklmljannclmaaDoorRows
import GoSem.ClaimSeven
namespace Go.Proofs.YtkklmljannclmaaDoor
namespace Rows

/-- THE TIED CARD OF 'polderlaw01.WordsSplits'. -/
def wordsSplitsCard : Claim7 := { stood := { row := wordsSplitsRow, standIns := [], harness := (true, "1156c5f94337929ef90bbaf5ef4a13f854b3853ae72fd1f5719bc8fa73e50650"), looks := true }, kinds := [], alts := [], laidByText := true, laidKinds := [.data, .data, .data, .data, .sentinel, .sentinel, .data, .pinned], laidTests := true, laidLooks := .later }
def WordsSplitsCardSaid : Prop := Claim7.holds Tryd.pinned (.plain (OpenSpec.ofChange wordsSplitsSpec)) wordsSplitsCard

/-- THE TIED CARD OF 'polderlaw01.WordsJoins'. -/
def wordsJoinsCard : Claim7 := { stood := { row := wordsJoinsRow, standIns := [], harness := (true, "1156c5f94337929ef90bbaf5ef4a13f854b3853ae72fd1f5719bc8fa73e50650"), looks := true }, kinds := [], alts := [], laidByText := true, laidKinds := [.data, .data, .data, .data, .sentinel, .sentinel, .data, .pinned], laidTests := true, laidLooks := .later }
def WordsJoinsCardSaid : Prop := Claim7.holds Tryd.pinned (.plain (OpenSpec.ofChange wordsJoinsSpec)) wordsJoinsCard

/-- THE TIED CARD OF 'polderlaw01.WordsLeast'. -/
def wordsLeastCard : Claim7 := { stood := { row := wordsLeastRow, standIns := [], harness := (true, "1156c5f94337929ef90bbaf5ef4a13f854b3853ae72fd1f5719bc8fa73e50650"), looks := true }, kinds := [], alts := [], laidByText := true, laidKinds := [.data, .data, .data, .data, .sentinel, .sentinel, .data, .pinned], laidTests := true, laidLooks := .later }
def WordsLeastCardSaid : Prop := Claim7.holds Tryd.pinned (.plain (OpenSpec.ofChange wordsLeastSpec)) wordsLeastCard

/-- THE TIED CARD OF 'polderlaw01.WordsAppend'. -/
def wordsAppendCard : Claim7 := { stood := { row := wordsAppendRow, standIns := [], harness := (true, "1156c5f94337929ef90bbaf5ef4a13f854b3853ae72fd1f5719bc8fa73e50650"), looks := true }, kinds := [], alts := [], laidByText := true, laidKinds := [.data, .data, .data, .data, .sentinel, .sentinel, .data, .pinned], laidTests := true, laidLooks := .later }
def WordsAppendCardSaid : Prop := Claim7.holds Tryd.pinned (.plain (OpenSpec.ofChange wordsAppendSpec)) wordsAppendCard

/-- THE TIED CARD OF 'polderlaw01.WordsQuotes'. -/
def wordsQuotesCard : Claim7 := { stood := { row := wordsQuotesRow, standIns := [], harness := (true, "1156c5f94337929ef90bbaf5ef4a13f854b3853ae72fd1f5719bc8fa73e50650"), looks := true }, kinds := [], alts := [], laidByText := true, laidKinds := [.data, .data, .data, .data, .sentinel, .sentinel, .data, .pinned], laidTests := true, laidLooks := .later }
def WordsQuotesCardSaid : Prop := Claim7.holds Tryd.pinned (.plain (OpenSpec.ofChange wordsQuotesSpec)) wordsQuotesCard

/-- THE TIED CARD OF 'polderlaw01.WordsNumbers'. -/
def wordsNumbersCard : Claim7 := { stood := { row := wordsNumbersRow, standIns := [], harness := (true, "1156c5f94337929ef90bbaf5ef4a13f854b3853ae72fd1f5719bc8fa73e50650"), looks := true }, kinds := [], alts := [], laidByText := true, laidKinds := [.data, .data, .data, .data, .sentinel, .sentinel, .data, .pinned], laidTests := true, laidLooks := .later }
def WordsNumbersCardSaid : Prop := Claim7.holds Tryd.pinned (.plain (OpenSpec.ofChange wordsNumbersSpec)) wordsNumbersCard

/-- THE TIED CARD OF 'polderlaw01.WordsNames'. -/
def wordsNamesCard : Claim7 := { stood := { row := wordsNamesRow, standIns := [], harness := (true, "1156c5f94337929ef90bbaf5ef4a13f854b3853ae72fd1f5719bc8fa73e50650"), looks := true }, kinds := [], alts := [], laidByText := true, laidKinds := [.data, .data, .data, .data, .sentinel, .sentinel, .data, .pinned], laidTests := true, laidLooks := .later }
def WordsNamesCardSaid : Prop := Claim7.holds Tryd.pinned (.plain (OpenSpec.ofChange wordsNamesSpec)) wordsNamesCard

/-- THE TIED CARD OF 'polderlaw01.WordsLines'. -/
def wordsLinesCard : Claim7 := { stood := { row := wordsLinesRow, standIns := [], harness := (true, "1156c5f94337929ef90bbaf5ef4a13f854b3853ae72fd1f5719bc8fa73e50650"), looks := true }, kinds := [], alts := [], laidByText := true, laidKinds := [.data, .data, .data, .data, .sentinel, .sentinel, .data, .pinned], laidTests := true, laidLooks := .later }
def WordsLinesCardSaid : Prop := Claim7.holds Tryd.pinned (.plain (OpenSpec.ofChange wordsLinesSpec)) wordsLinesCard

/-- THE TIED CARD OF 'polderlaw01.WordsHex'. -/
def wordsHexCard : Claim7 := { stood := { row := wordsHexRow, standIns := [], harness := (true, "1156c5f94337929ef90bbaf5ef4a13f854b3853ae72fd1f5719bc8fa73e50650"), looks := true }, kinds := [], alts := [], laidByText := true, laidKinds := [.data, .data, .data, .data, .sentinel, .sentinel, .data, .pinned], laidTests := true, laidLooks := .later }
def WordsHexCardSaid : Prop := Claim7.holds Tryd.pinned (.plain (OpenSpec.ofChange wordsHexSpec)) wordsHexCard

/-- THE TIED CARD OF 'polderlaw01.WordsKnown'. -/
def wordsKnownCard : Claim7 := { stood := { row := wordsKnownRow, standIns := [], harness := (true, "1156c5f94337929ef90bbaf5ef4a13f854b3853ae72fd1f5719bc8fa73e50650"), looks := true }, kinds := [], alts := [], laidByText := true, laidKinds := [.data, .data, .data, .data, .sentinel, .sentinel, .data, .pinned], laidTests := true, laidLooks := .later }
def WordsKnownCardSaid : Prop := Claim7.holds Tryd.pinned (.plain (OpenSpec.ofChange wordsKnownSpec)) wordsKnownCard

/-- THE SECOND FORM's CARD OF 'polderlaw01.WordsSplits'. -/
def wordsSplitsUptoCard : Claim7 := { stood := { row := wordsSplitsUptoRow, standIns := [], harness := (true, "1156c5f94337929ef90bbaf5ef4a13f854b3853ae72fd1f5719bc8fa73e50650"), looks := true }, kinds := [], alts := [], laidByText := true, laidKinds := [.data, .data, .data, .data, .sentinel, .sentinel, .data, .pinned], laidTests := true, laidLooks := .later }
def WordsSplitsUptoCardSaid : Prop := Claim7.holds Tryd.pinned (.plain (OpenSpec.upto wordsSplitsSpec)) wordsSplitsUptoCard

/-- THE SECOND FORM's CARD OF 'polderlaw01.WordsJoins'. -/
def wordsJoinsUptoCard : Claim7 := { stood := { row := wordsJoinsUptoRow, standIns := [], harness := (true, "1156c5f94337929ef90bbaf5ef4a13f854b3853ae72fd1f5719bc8fa73e50650"), looks := true }, kinds := [], alts := [], laidByText := true, laidKinds := [.data, .data, .data, .data, .sentinel, .sentinel, .data, .pinned], laidTests := true, laidLooks := .later }
def WordsJoinsUptoCardSaid : Prop := Claim7.holds Tryd.pinned (.plain (OpenSpec.upto wordsJoinsSpec)) wordsJoinsUptoCard

/-- THE SECOND FORM's CARD OF 'polderlaw01.WordsLeast'. -/
def wordsLeastUptoCard : Claim7 := { stood := { row := wordsLeastUptoRow, standIns := [], harness := (true, "1156c5f94337929ef90bbaf5ef4a13f854b3853ae72fd1f5719bc8fa73e50650"), looks := true }, kinds := [], alts := [], laidByText := true, laidKinds := [.data, .data, .data, .data, .sentinel, .sentinel, .data, .pinned], laidTests := true, laidLooks := .later }
def WordsLeastUptoCardSaid : Prop := Claim7.holds Tryd.pinned (.plain (OpenSpec.upto wordsLeastSpec)) wordsLeastUptoCard

/-- THE SECOND FORM's CARD OF 'polderlaw01.WordsAppend'. -/
def wordsAppendUptoCard : Claim7 := { stood := { row := wordsAppendUptoRow, standIns := [], harness := (true, "1156c5f94337929ef90bbaf5ef4a13f854b3853ae72fd1f5719bc8fa73e50650"), looks := true }, kinds := [], alts := [], laidByText := true, laidKinds := [.data, .data, .data, .data, .sentinel, .sentinel, .data, .pinned], laidTests := true, laidLooks := .later }
def WordsAppendUptoCardSaid : Prop := Claim7.holds Tryd.pinned (.plain (OpenSpec.upto wordsAppendSpec)) wordsAppendUptoCard

/-- THE SECOND FORM's CARD OF 'polderlaw01.WordsQuotes'. -/
def wordsQuotesUptoCard : Claim7 := { stood := { row := wordsQuotesUptoRow, standIns := [], harness := (true, "1156c5f94337929ef90bbaf5ef4a13f854b3853ae72fd1f5719bc8fa73e50650"), looks := true }, kinds := [], alts := [], laidByText := true, laidKinds := [.data, .data, .data, .data, .sentinel, .sentinel, .data, .pinned], laidTests := true, laidLooks := .later }
def WordsQuotesUptoCardSaid : Prop := Claim7.holds Tryd.pinned (.plain (OpenSpec.upto wordsQuotesSpec)) wordsQuotesUptoCard

/-- THE SECOND FORM's CARD OF 'polderlaw01.WordsNumbers'. -/
def wordsNumbersUptoCard : Claim7 := { stood := { row := wordsNumbersUptoRow, standIns := [], harness := (true, "1156c5f94337929ef90bbaf5ef4a13f854b3853ae72fd1f5719bc8fa73e50650"), looks := true }, kinds := [], alts := [], laidByText := true, laidKinds := [.data, .data, .data, .data, .sentinel, .sentinel, .data, .pinned], laidTests := true, laidLooks := .later }
def WordsNumbersUptoCardSaid : Prop := Claim7.holds Tryd.pinned (.plain (OpenSpec.upto wordsNumbersSpec)) wordsNumbersUptoCard

/-- THE SECOND FORM's CARD OF 'polderlaw01.WordsNames'. -/
def wordsNamesUptoCard : Claim7 := { stood := { row := wordsNamesUptoRow, standIns := [], harness := (true, "1156c5f94337929ef90bbaf5ef4a13f854b3853ae72fd1f5719bc8fa73e50650"), looks := true }, kinds := [], alts := [], laidByText := true, laidKinds := [.data, .data, .data, .data, .sentinel, .sentinel, .data, .pinned], laidTests := true, laidLooks := .later }
def WordsNamesUptoCardSaid : Prop := Claim7.holds Tryd.pinned (.plain (OpenSpec.upto wordsNamesSpec)) wordsNamesUptoCard

/-- THE SECOND FORM's CARD OF 'polderlaw01.WordsLines'. -/
def wordsLinesUptoCard : Claim7 := { stood := { row := wordsLinesUptoRow, standIns := [], harness := (true, "1156c5f94337929ef90bbaf5ef4a13f854b3853ae72fd1f5719bc8fa73e50650"), looks := true }, kinds := [], alts := [], laidByText := true, laidKinds := [.data, .data, .data, .data, .sentinel, .sentinel, .data, .pinned], laidTests := true, laidLooks := .later }
def WordsLinesUptoCardSaid : Prop := Claim7.holds Tryd.pinned (.plain (OpenSpec.upto wordsLinesSpec)) wordsLinesUptoCard

/-- THE SECOND FORM's CARD OF 'polderlaw01.WordsHex'. -/
def wordsHexUptoCard : Claim7 := { stood := { row := wordsHexUptoRow, standIns := [], harness := (true, "1156c5f94337929ef90bbaf5ef4a13f854b3853ae72fd1f5719bc8fa73e50650"), looks := true }, kinds := [], alts := [], laidByText := true, laidKinds := [.data, .data, .data, .data, .sentinel, .sentinel, .data, .pinned], laidTests := true, laidLooks := .later }
def WordsHexUptoCardSaid : Prop := Claim7.holds Tryd.pinned (.plain (OpenSpec.upto wordsHexSpec)) wordsHexUptoCard

/-- THE SECOND FORM's CARD OF 'polderlaw01.WordsKnown'. -/
def wordsKnownUptoCard : Claim7 := { stood := { row := wordsKnownUptoRow, standIns := [], harness := (true, "1156c5f94337929ef90bbaf5ef4a13f854b3853ae72fd1f5719bc8fa73e50650"), looks := true }, kinds := [], alts := [], laidByText := true, laidKinds := [.data, .data, .data, .data, .sentinel, .sentinel, .data, .pinned], laidTests := true, laidLooks := .later }
def WordsKnownUptoCardSaid : Prop := Claim7.holds Tryd.pinned (.plain (OpenSpec.upto wordsKnownSpec)) wordsKnownUptoCard
end Rows
end Go.Proofs.YtkklmljannclmaaDoor
