/-
  DERIVED. GIVEN WITH THE SEED: THE CARDS: each row of YtfmclbacoffdaaaDoorRows.lean that lists a variable, with what it lists TIED to the program's text (the seventh form; the later family's looks); each row that meets fmt, with fmt's text TOLD by the authors' own Lean function (tested against real Go, not proved from fmt's source: count such statements apart). THE CARD IS WHAT COUNTS. Prove the row's statement (the work); the ties are given (YtfmclbacoffdaaaDoorTie.lean); close each card by the builder's one call (the guide's Derived/Test/ToyasCard.lean, 'card_holds'). Laid BY PROGRAM, IN A SANDBOX (cutbox-door.mjs). By AI agents, Wed Nov 11 2026. No macro, syntax, notation, axiom, sorry.
-/
import Derived.Test.YtfmclbacoffdaaaDoorRows
import GoSem.ClaimSeven
namespace Go.Proofs.YtfmclbacoffdaaaDoor
namespace Rows

/-- THE TIED CARD OF 'polderlaw07.RadixPacks'. -/
def radixPacksCard : Claim7 := { stood := { row := radixPacksRow, standIns := [], harness := (true, "92b81c1eb65893a9c517608ff9dd652137af992ce9f6bd3499a1a86d7e45bc9b"), looks := false }, kinds := [], alts := [], laidByText := true, laidKinds := [.data], laidTests := true, laidLooks := .later }
def RadixPacksCardSaid : Prop := Claim7.holds Tryd.pinned (.plain (OpenSpec.ofChange radixPacksSpec)) radixPacksCard

/-- THE TIED CARD OF 'polderlaw07.RadixCounts'. -/
def radixCountsCard : Claim7 := { stood := { row := radixCountsRow, standIns := [], harness := (true, "92b81c1eb65893a9c517608ff9dd652137af992ce9f6bd3499a1a86d7e45bc9b"), looks := false }, kinds := [], alts := [], laidByText := true, laidKinds := [.data], laidTests := true, laidLooks := .later }
def RadixCountsCardSaid : Prop := Claim7.holds Tryd.pinned (.plain (OpenSpec.ofChange radixCountsSpec)) radixCountsCard

/-- THE TIED CARD OF 'polderlaw07.RadixEmpty'. -/
def radixEmptyCard : Claim7 := { stood := { row := radixEmptyRow, standIns := [], harness := (true, "92b81c1eb65893a9c517608ff9dd652137af992ce9f6bd3499a1a86d7e45bc9b"), looks := false }, kinds := [], alts := [], laidByText := true, laidKinds := [.data], laidTests := true, laidLooks := .later }
def RadixEmptyCardSaid : Prop := Claim7.holds Tryd.pinned (.plain (OpenSpec.ofChange radixEmptySpec)) radixEmptyCard

/-- THE TIED CARD OF 'polderlaw07.RadixWalks'. -/
def radixWalksCard : Claim7 := { stood := { row := radixWalksRow, standIns := [], harness := (true, "92b81c1eb65893a9c517608ff9dd652137af992ce9f6bd3499a1a86d7e45bc9b"), looks := false }, kinds := [], alts := [], laidByText := true, laidKinds := [.data], laidTests := true, laidLooks := .later }
def RadixWalksCardSaid : Prop := Claim7.holds Tryd.pinned (.plain (OpenSpec.ofChange radixWalksSpec)) radixWalksCard

/-- THE TIED CARD OF 'polderlaw07.RadixLoads'. -/
def radixLoadsCard : Claim7 := { stood := { row := radixLoadsRow, standIns := [], harness := (true, "92b81c1eb65893a9c517608ff9dd652137af992ce9f6bd3499a1a86d7e45bc9b"), looks := false }, kinds := [], alts := [], laidByText := true, laidKinds := [.data], laidTests := true, laidLooks := .later }
def RadixLoadsCardSaid : Prop := Claim7.holds Tryd.pinned (.plain (OpenSpec.ofChange radixLoadsSpec)) radixLoadsCard

/-- THE TIED CARD OF 'polderlaw07.RadixPlays'. -/
def radixPlaysCard : Claim7 := { stood := { row := radixPlaysRow, standIns := [], harness := (true, "92b81c1eb65893a9c517608ff9dd652137af992ce9f6bd3499a1a86d7e45bc9b"), looks := false }, kinds := [], alts := [], laidByText := true, laidKinds := [.data], laidTests := true, laidLooks := .later }
def RadixPlaysCardSaid : Prop := Claim7.holds Tryd.pinned (.plain (OpenSpec.ofChange radixPlaysSpec)) radixPlaysCard

/-- THE TIED CARD OF 'polderlaw07.RadixKnown'. -/
def radixKnownCard : Claim7 := { stood := { row := radixKnownRow, standIns := [], harness := (true, "92b81c1eb65893a9c517608ff9dd652137af992ce9f6bd3499a1a86d7e45bc9b"), looks := false }, kinds := [], alts := [], laidByText := true, laidKinds := [.data], laidTests := true, laidLooks := .later }
def RadixKnownCardSaid : Prop := Claim7.holds Tryd.pinned (.plain (OpenSpec.ofChange radixKnownSpec)) radixKnownCard

/-- THE TIED CARD OF 'polderlaw07.RadixFull'. -/
def radixFullCard : Claim7 := { stood := { row := radixFullRow, standIns := [], harness := (true, "92b81c1eb65893a9c517608ff9dd652137af992ce9f6bd3499a1a86d7e45bc9b"), looks := false }, kinds := [], alts := [], laidByText := true, laidKinds := [.data], laidTests := true, laidLooks := .later }
def RadixFullCardSaid : Prop := Claim7.holds Tryd.pinned (.plain (OpenSpec.ofChange radixFullSpec)) radixFullCard

/-- THE TIED CARD OF 'polderlaw07.RadixPages'. -/
def radixPagesCard : Claim7 := { stood := { row := radixPagesRow, standIns := [], harness := (true, "92b81c1eb65893a9c517608ff9dd652137af992ce9f6bd3499a1a86d7e45bc9b"), looks := false }, kinds := [], alts := [], laidByText := true, laidKinds := [.data], laidTests := true, laidLooks := .later }
def RadixPagesCardSaid : Prop := Claim7.holds Tryd.pinned (.plain (OpenSpec.ofChange radixPagesSpec)) radixPagesCard

/-- THE TIED CARD OF 'polderlaw07.RadixBroken'. -/
def radixBrokenCard : Claim7 := { stood := { row := radixBrokenRow, standIns := [], harness := (true, "92b81c1eb65893a9c517608ff9dd652137af992ce9f6bd3499a1a86d7e45bc9b"), looks := false }, kinds := [], alts := [], laidByText := true, laidKinds := [.data], laidTests := true, laidLooks := .later }
def RadixBrokenCardSaid : Prop := Claim7.holds Tryd.pinned (.plain (OpenSpec.ofChange radixBrokenSpec)) radixBrokenCard

/-- THE SECOND FORM's CARD OF 'polderlaw07.RadixPacks'. -/
def radixPacksUptoCard : Claim7 := { stood := { row := radixPacksUptoRow, standIns := [], harness := (true, "92b81c1eb65893a9c517608ff9dd652137af992ce9f6bd3499a1a86d7e45bc9b"), looks := false }, kinds := [], alts := [], laidByText := true, laidKinds := [.data], laidTests := true, laidLooks := .later }
def RadixPacksUptoCardSaid : Prop := Claim7.holds Tryd.pinned (.plain (OpenSpec.upto radixPacksSpec)) radixPacksUptoCard

/-- THE SECOND FORM's CARD OF 'polderlaw07.RadixCounts'. -/
def radixCountsUptoCard : Claim7 := { stood := { row := radixCountsUptoRow, standIns := [], harness := (true, "92b81c1eb65893a9c517608ff9dd652137af992ce9f6bd3499a1a86d7e45bc9b"), looks := false }, kinds := [], alts := [], laidByText := true, laidKinds := [.data], laidTests := true, laidLooks := .later }
def RadixCountsUptoCardSaid : Prop := Claim7.holds Tryd.pinned (.plain (OpenSpec.upto radixCountsSpec)) radixCountsUptoCard

/-- THE SECOND FORM's CARD OF 'polderlaw07.RadixEmpty'. -/
def radixEmptyUptoCard : Claim7 := { stood := { row := radixEmptyUptoRow, standIns := [], harness := (true, "92b81c1eb65893a9c517608ff9dd652137af992ce9f6bd3499a1a86d7e45bc9b"), looks := false }, kinds := [], alts := [], laidByText := true, laidKinds := [.data], laidTests := true, laidLooks := .later }
def RadixEmptyUptoCardSaid : Prop := Claim7.holds Tryd.pinned (.plain (OpenSpec.upto radixEmptySpec)) radixEmptyUptoCard

/-- THE SECOND FORM's CARD OF 'polderlaw07.RadixWalks'. -/
def radixWalksUptoCard : Claim7 := { stood := { row := radixWalksUptoRow, standIns := [], harness := (true, "92b81c1eb65893a9c517608ff9dd652137af992ce9f6bd3499a1a86d7e45bc9b"), looks := false }, kinds := [], alts := [], laidByText := true, laidKinds := [.data], laidTests := true, laidLooks := .later }
def RadixWalksUptoCardSaid : Prop := Claim7.holds Tryd.pinned (.plain (OpenSpec.upto radixWalksSpec)) radixWalksUptoCard

/-- THE SECOND FORM's CARD OF 'polderlaw07.RadixLoads'. -/
def radixLoadsUptoCard : Claim7 := { stood := { row := radixLoadsUptoRow, standIns := [], harness := (true, "92b81c1eb65893a9c517608ff9dd652137af992ce9f6bd3499a1a86d7e45bc9b"), looks := false }, kinds := [], alts := [], laidByText := true, laidKinds := [.data], laidTests := true, laidLooks := .later }
def RadixLoadsUptoCardSaid : Prop := Claim7.holds Tryd.pinned (.plain (OpenSpec.upto radixLoadsSpec)) radixLoadsUptoCard

/-- THE SECOND FORM's CARD OF 'polderlaw07.RadixPlays'. -/
def radixPlaysUptoCard : Claim7 := { stood := { row := radixPlaysUptoRow, standIns := [], harness := (true, "92b81c1eb65893a9c517608ff9dd652137af992ce9f6bd3499a1a86d7e45bc9b"), looks := false }, kinds := [], alts := [], laidByText := true, laidKinds := [.data], laidTests := true, laidLooks := .later }
def RadixPlaysUptoCardSaid : Prop := Claim7.holds Tryd.pinned (.plain (OpenSpec.upto radixPlaysSpec)) radixPlaysUptoCard

/-- THE SECOND FORM's CARD OF 'polderlaw07.RadixKnown'. -/
def radixKnownUptoCard : Claim7 := { stood := { row := radixKnownUptoRow, standIns := [], harness := (true, "92b81c1eb65893a9c517608ff9dd652137af992ce9f6bd3499a1a86d7e45bc9b"), looks := false }, kinds := [], alts := [], laidByText := true, laidKinds := [.data], laidTests := true, laidLooks := .later }
def RadixKnownUptoCardSaid : Prop := Claim7.holds Tryd.pinned (.plain (OpenSpec.upto radixKnownSpec)) radixKnownUptoCard

/-- THE SECOND FORM's CARD OF 'polderlaw07.RadixFull'. -/
def radixFullUptoCard : Claim7 := { stood := { row := radixFullUptoRow, standIns := [], harness := (true, "92b81c1eb65893a9c517608ff9dd652137af992ce9f6bd3499a1a86d7e45bc9b"), looks := false }, kinds := [], alts := [], laidByText := true, laidKinds := [.data], laidTests := true, laidLooks := .later }
def RadixFullUptoCardSaid : Prop := Claim7.holds Tryd.pinned (.plain (OpenSpec.upto radixFullSpec)) radixFullUptoCard

/-- THE SECOND FORM's CARD OF 'polderlaw07.RadixPages'. -/
def radixPagesUptoCard : Claim7 := { stood := { row := radixPagesUptoRow, standIns := [], harness := (true, "92b81c1eb65893a9c517608ff9dd652137af992ce9f6bd3499a1a86d7e45bc9b"), looks := false }, kinds := [], alts := [], laidByText := true, laidKinds := [.data], laidTests := true, laidLooks := .later }
def RadixPagesUptoCardSaid : Prop := Claim7.holds Tryd.pinned (.plain (OpenSpec.upto radixPagesSpec)) radixPagesUptoCard

/-- THE SECOND FORM's CARD OF 'polderlaw07.RadixBroken'. -/
def radixBrokenUptoCard : Claim7 := { stood := { row := radixBrokenUptoRow, standIns := [], harness := (true, "92b81c1eb65893a9c517608ff9dd652137af992ce9f6bd3499a1a86d7e45bc9b"), looks := false }, kinds := [], alts := [], laidByText := true, laidKinds := [.data], laidTests := true, laidLooks := .later }
def RadixBrokenUptoCardSaid : Prop := Claim7.holds Tryd.pinned (.plain (OpenSpec.upto radixBrokenSpec)) radixBrokenUptoCard
end Rows
end Go.Proofs.YtfmclbacoffdaaaDoor
