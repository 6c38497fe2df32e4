/-
  DERIVED. GIVEN WITH THE SEED: THE CARDS: each row of YtpaecmpiokkdnaaDoorRows.lean that lists a variable, with what it lists TIED to the program's text (the seventh form; the later family's looks); each row that meets fmt, with fmt's text TOLD by the authors' own Lean function (tested against real Go, not proved from fmt's source: count such statements apart). THE CARD IS WHAT COUNTS. Prove the row's statement (the work); the ties are given (YtpaecmpiokkdnaaDoorTie.lean); close each card by the builder's one call (the guide's Derived/Test/ToyasCard.lean, 'card_holds'). Laid BY PROGRAM, IN A SANDBOX (cutbox-door.mjs). By AI agents, Wed Nov 11 2026. No macro, syntax, notation, axiom, sorry.
-/
import Derived.Test.YtpaecmpiokkdnaaDoorRows
import GoSem.ClaimSeven
namespace Go.Proofs.YtpaecmpiokkdnaaDoor
namespace Rows

/-- THE TIED CARD OF 'polderlaw16.HandlesSlots'. -/
def handlesSlotsCard : Claim7 := { stood := { row := handlesSlotsRow, standIns := [], harness := (true, "22dd7716e6806835c476dccc1e1d61bc1cbf8b5e7417893961d554c3b802fe00"), looks := false }, kinds := [], alts := [], laidByText := true, laidKinds := [.data], laidTests := true, laidLooks := .later }
def HandlesSlotsCardSaid : Prop := Claim7.holds Tryd.pinned (.plain (OpenSpec.ofChange handlesSlotsSpec)) handlesSlotsCard

/-- THE TIED CARD OF 'polderlaw16.HandlesLoads'. -/
def handlesLoadsCard : Claim7 := { stood := { row := handlesLoadsRow, standIns := [], harness := (true, "22dd7716e6806835c476dccc1e1d61bc1cbf8b5e7417893961d554c3b802fe00"), looks := false }, kinds := [], alts := [], laidByText := true, laidKinds := [.data], laidTests := true, laidLooks := .later }
def HandlesLoadsCardSaid : Prop := Claim7.holds Tryd.pinned (.plain (OpenSpec.ofChange handlesLoadsSpec)) handlesLoadsCard

/-- THE TIED CARD OF 'polderlaw16.HandlesWalks'. -/
def handlesWalksCard : Claim7 := { stood := { row := handlesWalksRow, standIns := [], harness := (true, "22dd7716e6806835c476dccc1e1d61bc1cbf8b5e7417893961d554c3b802fe00"), looks := false }, kinds := [], alts := [], laidByText := true, laidKinds := [.data], laidTests := true, laidLooks := .later }
def HandlesWalksCardSaid : Prop := Claim7.holds Tryd.pinned (.plain (OpenSpec.ofChange handlesWalksSpec)) handlesWalksCard

/-- THE TIED CARD OF 'polderlaw16.HandlesOnce'. -/
def handlesOnceCard : Claim7 := { stood := { row := handlesOnceRow, standIns := [], harness := (true, "22dd7716e6806835c476dccc1e1d61bc1cbf8b5e7417893961d554c3b802fe00"), looks := false }, kinds := [], alts := [], laidByText := true, laidKinds := [.data], laidTests := true, laidLooks := .later }
def HandlesOnceCardSaid : Prop := Claim7.holds Tryd.pinned (.plain (OpenSpec.ofChange handlesOnceSpec)) handlesOnceCard

/-- THE TIED CARD OF 'polderlaw16.HandlesKnown'. -/
def handlesKnownCard : Claim7 := { stood := { row := handlesKnownRow, standIns := [], harness := (true, "22dd7716e6806835c476dccc1e1d61bc1cbf8b5e7417893961d554c3b802fe00"), looks := false }, kinds := [], alts := [], laidByText := true, laidKinds := [.data], laidTests := true, laidLooks := .later }
def HandlesKnownCardSaid : Prop := Claim7.holds Tryd.pinned (.plain (OpenSpec.ofChange handlesKnownSpec)) handlesKnownCard

/-- THE TIED CARD OF 'polderlaw16.HandlesSpent'. -/
def handlesSpentCard : Claim7 := { stood := { row := handlesSpentRow, standIns := [], harness := (true, "22dd7716e6806835c476dccc1e1d61bc1cbf8b5e7417893961d554c3b802fe00"), looks := false }, kinds := [], alts := [], laidByText := true, laidKinds := [.data], laidTests := true, laidLooks := .later }
def HandlesSpentCardSaid : Prop := Claim7.holds Tryd.pinned (.plain (OpenSpec.ofChange handlesSpentSpec)) handlesSpentCard

/-- THE TIED CARD OF 'polderlaw16.HandlesTypes'. -/
def handlesTypesCard : Claim7 := { stood := { row := handlesTypesRow, standIns := [], harness := (true, "22dd7716e6806835c476dccc1e1d61bc1cbf8b5e7417893961d554c3b802fe00"), looks := false }, kinds := [], alts := [], laidByText := true, laidKinds := [.data], laidTests := true, laidLooks := .later }
def HandlesTypesCardSaid : Prop := Claim7.holds Tryd.pinned (.plain (OpenSpec.ofChange handlesTypesSpec)) handlesTypesCard

/-- THE TIED CARD OF 'polderlaw16.HandlesPlays'. -/
def handlesPlaysCard : Claim7 := { stood := { row := handlesPlaysRow, standIns := [], harness := (true, "22dd7716e6806835c476dccc1e1d61bc1cbf8b5e7417893961d554c3b802fe00"), looks := false }, kinds := [], alts := [], laidByText := true, laidKinds := [.data], laidTests := true, laidLooks := .later }
def HandlesPlaysCardSaid : Prop := Claim7.holds Tryd.pinned (.plain (OpenSpec.ofChange handlesPlaysSpec)) handlesPlaysCard

/-- THE SECOND FORM's CARD OF 'polderlaw16.HandlesSlots'. -/
def handlesSlotsUptoCard : Claim7 := { stood := { row := handlesSlotsUptoRow, standIns := [], harness := (true, "22dd7716e6806835c476dccc1e1d61bc1cbf8b5e7417893961d554c3b802fe00"), looks := false }, kinds := [], alts := [], laidByText := true, laidKinds := [.data], laidTests := true, laidLooks := .later }
def HandlesSlotsUptoCardSaid : Prop := Claim7.holds Tryd.pinned (.plain (OpenSpec.upto handlesSlotsSpec)) handlesSlotsUptoCard

/-- THE SECOND FORM's CARD OF 'polderlaw16.HandlesLoads'. -/
def handlesLoadsUptoCard : Claim7 := { stood := { row := handlesLoadsUptoRow, standIns := [], harness := (true, "22dd7716e6806835c476dccc1e1d61bc1cbf8b5e7417893961d554c3b802fe00"), looks := false }, kinds := [], alts := [], laidByText := true, laidKinds := [.data], laidTests := true, laidLooks := .later }
def HandlesLoadsUptoCardSaid : Prop := Claim7.holds Tryd.pinned (.plain (OpenSpec.upto handlesLoadsSpec)) handlesLoadsUptoCard

/-- THE SECOND FORM's CARD OF 'polderlaw16.HandlesWalks'. -/
def handlesWalksUptoCard : Claim7 := { stood := { row := handlesWalksUptoRow, standIns := [], harness := (true, "22dd7716e6806835c476dccc1e1d61bc1cbf8b5e7417893961d554c3b802fe00"), looks := false }, kinds := [], alts := [], laidByText := true, laidKinds := [.data], laidTests := true, laidLooks := .later }
def HandlesWalksUptoCardSaid : Prop := Claim7.holds Tryd.pinned (.plain (OpenSpec.upto handlesWalksSpec)) handlesWalksUptoCard

/-- THE SECOND FORM's CARD OF 'polderlaw16.HandlesOnce'. -/
def handlesOnceUptoCard : Claim7 := { stood := { row := handlesOnceUptoRow, standIns := [], harness := (true, "22dd7716e6806835c476dccc1e1d61bc1cbf8b5e7417893961d554c3b802fe00"), looks := false }, kinds := [], alts := [], laidByText := true, laidKinds := [.data], laidTests := true, laidLooks := .later }
def HandlesOnceUptoCardSaid : Prop := Claim7.holds Tryd.pinned (.plain (OpenSpec.upto handlesOnceSpec)) handlesOnceUptoCard

/-- THE SECOND FORM's CARD OF 'polderlaw16.HandlesKnown'. -/
def handlesKnownUptoCard : Claim7 := { stood := { row := handlesKnownUptoRow, standIns := [], harness := (true, "22dd7716e6806835c476dccc1e1d61bc1cbf8b5e7417893961d554c3b802fe00"), looks := false }, kinds := [], alts := [], laidByText := true, laidKinds := [.data], laidTests := true, laidLooks := .later }
def HandlesKnownUptoCardSaid : Prop := Claim7.holds Tryd.pinned (.plain (OpenSpec.upto handlesKnownSpec)) handlesKnownUptoCard

/-- THE SECOND FORM's CARD OF 'polderlaw16.HandlesSpent'. -/
def handlesSpentUptoCard : Claim7 := { stood := { row := handlesSpentUptoRow, standIns := [], harness := (true, "22dd7716e6806835c476dccc1e1d61bc1cbf8b5e7417893961d554c3b802fe00"), looks := false }, kinds := [], alts := [], laidByText := true, laidKinds := [.data], laidTests := true, laidLooks := .later }
def HandlesSpentUptoCardSaid : Prop := Claim7.holds Tryd.pinned (.plain (OpenSpec.upto handlesSpentSpec)) handlesSpentUptoCard

/-- THE SECOND FORM's CARD OF 'polderlaw16.HandlesTypes'. -/
def handlesTypesUptoCard : Claim7 := { stood := { row := handlesTypesUptoRow, standIns := [], harness := (true, "22dd7716e6806835c476dccc1e1d61bc1cbf8b5e7417893961d554c3b802fe00"), looks := false }, kinds := [], alts := [], laidByText := true, laidKinds := [.data], laidTests := true, laidLooks := .later }
def HandlesTypesUptoCardSaid : Prop := Claim7.holds Tryd.pinned (.plain (OpenSpec.upto handlesTypesSpec)) handlesTypesUptoCard

/-- THE SECOND FORM's CARD OF 'polderlaw16.HandlesPlays'. -/
def handlesPlaysUptoCard : Claim7 := { stood := { row := handlesPlaysUptoRow, standIns := [], harness := (true, "22dd7716e6806835c476dccc1e1d61bc1cbf8b5e7417893961d554c3b802fe00"), looks := false }, kinds := [], alts := [], laidByText := true, laidKinds := [.data], laidTests := true, laidLooks := .later }
def HandlesPlaysUptoCardSaid : Prop := Claim7.holds Tryd.pinned (.plain (OpenSpec.upto handlesPlaysSpec)) handlesPlaysUptoCard
end Rows
end Go.Proofs.YtpaecmpiokkdnaaDoor
