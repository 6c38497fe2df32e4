/-
  DERIVED. GIVEN WITH THE SEED: THE CARDS: each row of YtikdgnfcckenmaaDoorRows.lean that lists a variable, with what it lists TIED to the program's text (the seventh form; the later family's looks); each row that meets fmt, with fmt's text TOLD by the authors' own Lean function (tested against real Go, not proved from fmt's source: count such statements apart). THE CARD IS WHAT COUNTS. Prove the row's statement (the work); the ties are given (YtikdgnfcckenmaaDoorTie.lean); close each card by the builder's one call (the guide's Derived/Test/ToyasCard.lean, 'card_holds'). Laid BY PROGRAM, IN A SANDBOX (cutbox-door.mjs). By AI agents, Wed Nov 11 2026. No macro, syntax, notation, axiom, sorry.
-/
import Derived.Test.YtikdgnfcckenmaaDoorRows
import GoSem.ClaimSeven
namespace Go.Proofs.YtikdgnfcckenmaaDoor
namespace Rows

/-- THE TIED CARD OF 'polderlaw02.BitsFits'. -/
def bitsFitsCard : Claim7 := { stood := { row := bitsFitsRow, standIns := [], harness := (true, "87cdaccd1185c8ac04f2faa84437553b589eed419e6c37e1ebd1bf7d643638d5"), looks := false }, kinds := [], alts := [], laidByText := true, laidKinds := [.data], laidTests := true, laidLooks := .later }
def BitsFitsCardSaid : Prop := Claim7.holds Tryd.pinned (.plain (OpenSpec.ofChange bitsFitsSpec)) bitsFitsCard

/-- THE TIED CARD OF 'polderlaw02.BitsSearch'. -/
def bitsSearchCard : Claim7 := { stood := { row := bitsSearchRow, standIns := [], harness := (true, "87cdaccd1185c8ac04f2faa84437553b589eed419e6c37e1ebd1bf7d643638d5"), looks := false }, kinds := [], alts := [], laidByText := true, laidKinds := [.data], laidTests := true, laidLooks := .later }
def BitsSearchCardSaid : Prop := Claim7.holds Tryd.pinned (.plain (OpenSpec.ofChange bitsSearchSpec)) bitsSearchCard

/-- THE TIED CARD OF 'polderlaw02.BitsRuns'. -/
def bitsRunsCard : Claim7 := { stood := { row := bitsRunsRow, standIns := [], harness := (true, "87cdaccd1185c8ac04f2faa84437553b589eed419e6c37e1ebd1bf7d643638d5"), looks := false }, kinds := [], alts := [], laidByText := true, laidKinds := [.data], laidTests := true, laidLooks := .later }
def BitsRunsCardSaid : Prop := Claim7.holds Tryd.pinned (.plain (OpenSpec.ofChange bitsRunsSpec)) bitsRunsCard

/-- THE TIED CARD OF 'polderlaw02.BitsTurns'. -/
def bitsTurnsCard : Claim7 := { stood := { row := bitsTurnsRow, standIns := [], harness := (true, "87cdaccd1185c8ac04f2faa84437553b589eed419e6c37e1ebd1bf7d643638d5"), looks := false }, kinds := [], alts := [], laidByText := true, laidKinds := [.data], laidTests := true, laidLooks := .later }
def BitsTurnsCardSaid : Prop := Claim7.holds Tryd.pinned (.plain (OpenSpec.ofChange bitsTurnsSpec)) bitsTurnsCard

/-- THE TIED CARD OF 'polderlaw02.BitsFinds'. -/
def bitsFindsCard : Claim7 := { stood := { row := bitsFindsRow, standIns := [], harness := (true, "87cdaccd1185c8ac04f2faa84437553b589eed419e6c37e1ebd1bf7d643638d5"), looks := false }, kinds := [], alts := [], laidByText := true, laidKinds := [.data], laidTests := true, laidLooks := .later }
def BitsFindsCardSaid : Prop := Claim7.holds Tryd.pinned (.plain (OpenSpec.ofChange bitsFindsSpec)) bitsFindsCard

/-- THE TIED CARD OF 'polderlaw02.BitsSelects'. -/
def bitsSelectsCard : Claim7 := { stood := { row := bitsSelectsRow, standIns := [], harness := (true, "87cdaccd1185c8ac04f2faa84437553b589eed419e6c37e1ebd1bf7d643638d5"), looks := false }, kinds := [], alts := [], laidByText := true, laidKinds := [.data], laidTests := true, laidLooks := .later }
def BitsSelectsCardSaid : Prop := Claim7.holds Tryd.pinned (.plain (OpenSpec.ofChange bitsSelectsSpec)) bitsSelectsCard

/-- THE TIED CARD OF 'polderlaw02.BitsBasics'. -/
def bitsBasicsCard : Claim7 := { stood := { row := bitsBasicsRow, standIns := [], harness := (true, "87cdaccd1185c8ac04f2faa84437553b589eed419e6c37e1ebd1bf7d643638d5"), looks := false }, kinds := [], alts := [], laidByText := true, laidKinds := [.data], laidTests := true, laidLooks := .later }
def BitsBasicsCardSaid : Prop := Claim7.holds Tryd.pinned (.plain (OpenSpec.ofChange bitsBasicsSpec)) bitsBasicsCard

/-- THE TIED CARD OF 'polderlaw02.BitsJoins'. -/
def bitsJoinsCard : Claim7 := { stood := { row := bitsJoinsRow, standIns := [], harness := (true, "87cdaccd1185c8ac04f2faa84437553b589eed419e6c37e1ebd1bf7d643638d5"), looks := false }, kinds := [], alts := [], laidByText := true, laidKinds := [.data], laidTests := true, laidLooks := .later }
def BitsJoinsCardSaid : Prop := Claim7.holds Tryd.pinned (.plain (OpenSpec.ofChange bitsJoinsSpec)) bitsJoinsCard

/-- THE TIED CARD OF 'polderlaw02.BitsMorgan'. -/
def bitsMorganCard : Claim7 := { stood := { row := bitsMorganRow, standIns := [], harness := (true, "87cdaccd1185c8ac04f2faa84437553b589eed419e6c37e1ebd1bf7d643638d5"), looks := false }, kinds := [], alts := [], laidByText := true, laidKinds := [.data], laidTests := true, laidLooks := .later }
def BitsMorganCardSaid : Prop := Claim7.holds Tryd.pinned (.plain (OpenSpec.ofChange bitsMorganSpec)) bitsMorganCard

/-- THE TIED CARD OF 'polderlaw02.BitsKnown'. -/
def bitsKnownCard : Claim7 := { stood := { row := bitsKnownRow, standIns := [], harness := (true, "87cdaccd1185c8ac04f2faa84437553b589eed419e6c37e1ebd1bf7d643638d5"), looks := false }, kinds := [], alts := [], laidByText := true, laidKinds := [.data], laidTests := true, laidLooks := .later }
def BitsKnownCardSaid : Prop := Claim7.holds Tryd.pinned (.plain (OpenSpec.ofChange bitsKnownSpec)) bitsKnownCard

/-- THE SECOND FORM's CARD OF 'polderlaw02.BitsFits'. -/
def bitsFitsUptoCard : Claim7 := { stood := { row := bitsFitsUptoRow, standIns := [], harness := (true, "87cdaccd1185c8ac04f2faa84437553b589eed419e6c37e1ebd1bf7d643638d5"), looks := false }, kinds := [], alts := [], laidByText := true, laidKinds := [.data], laidTests := true, laidLooks := .later }
def BitsFitsUptoCardSaid : Prop := Claim7.holds Tryd.pinned (.plain (OpenSpec.upto bitsFitsSpec)) bitsFitsUptoCard

/-- THE SECOND FORM's CARD OF 'polderlaw02.BitsSearch'. -/
def bitsSearchUptoCard : Claim7 := { stood := { row := bitsSearchUptoRow, standIns := [], harness := (true, "87cdaccd1185c8ac04f2faa84437553b589eed419e6c37e1ebd1bf7d643638d5"), looks := false }, kinds := [], alts := [], laidByText := true, laidKinds := [.data], laidTests := true, laidLooks := .later }
def BitsSearchUptoCardSaid : Prop := Claim7.holds Tryd.pinned (.plain (OpenSpec.upto bitsSearchSpec)) bitsSearchUptoCard

/-- THE SECOND FORM's CARD OF 'polderlaw02.BitsRuns'. -/
def bitsRunsUptoCard : Claim7 := { stood := { row := bitsRunsUptoRow, standIns := [], harness := (true, "87cdaccd1185c8ac04f2faa84437553b589eed419e6c37e1ebd1bf7d643638d5"), looks := false }, kinds := [], alts := [], laidByText := true, laidKinds := [.data], laidTests := true, laidLooks := .later }
def BitsRunsUptoCardSaid : Prop := Claim7.holds Tryd.pinned (.plain (OpenSpec.upto bitsRunsSpec)) bitsRunsUptoCard

/-- THE SECOND FORM's CARD OF 'polderlaw02.BitsTurns'. -/
def bitsTurnsUptoCard : Claim7 := { stood := { row := bitsTurnsUptoRow, standIns := [], harness := (true, "87cdaccd1185c8ac04f2faa84437553b589eed419e6c37e1ebd1bf7d643638d5"), looks := false }, kinds := [], alts := [], laidByText := true, laidKinds := [.data], laidTests := true, laidLooks := .later }
def BitsTurnsUptoCardSaid : Prop := Claim7.holds Tryd.pinned (.plain (OpenSpec.upto bitsTurnsSpec)) bitsTurnsUptoCard

/-- THE SECOND FORM's CARD OF 'polderlaw02.BitsFinds'. -/
def bitsFindsUptoCard : Claim7 := { stood := { row := bitsFindsUptoRow, standIns := [], harness := (true, "87cdaccd1185c8ac04f2faa84437553b589eed419e6c37e1ebd1bf7d643638d5"), looks := false }, kinds := [], alts := [], laidByText := true, laidKinds := [.data], laidTests := true, laidLooks := .later }
def BitsFindsUptoCardSaid : Prop := Claim7.holds Tryd.pinned (.plain (OpenSpec.upto bitsFindsSpec)) bitsFindsUptoCard

/-- THE SECOND FORM's CARD OF 'polderlaw02.BitsSelects'. -/
def bitsSelectsUptoCard : Claim7 := { stood := { row := bitsSelectsUptoRow, standIns := [], harness := (true, "87cdaccd1185c8ac04f2faa84437553b589eed419e6c37e1ebd1bf7d643638d5"), looks := false }, kinds := [], alts := [], laidByText := true, laidKinds := [.data], laidTests := true, laidLooks := .later }
def BitsSelectsUptoCardSaid : Prop := Claim7.holds Tryd.pinned (.plain (OpenSpec.upto bitsSelectsSpec)) bitsSelectsUptoCard

/-- THE SECOND FORM's CARD OF 'polderlaw02.BitsBasics'. -/
def bitsBasicsUptoCard : Claim7 := { stood := { row := bitsBasicsUptoRow, standIns := [], harness := (true, "87cdaccd1185c8ac04f2faa84437553b589eed419e6c37e1ebd1bf7d643638d5"), looks := false }, kinds := [], alts := [], laidByText := true, laidKinds := [.data], laidTests := true, laidLooks := .later }
def BitsBasicsUptoCardSaid : Prop := Claim7.holds Tryd.pinned (.plain (OpenSpec.upto bitsBasicsSpec)) bitsBasicsUptoCard

/-- THE SECOND FORM's CARD OF 'polderlaw02.BitsJoins'. -/
def bitsJoinsUptoCard : Claim7 := { stood := { row := bitsJoinsUptoRow, standIns := [], harness := (true, "87cdaccd1185c8ac04f2faa84437553b589eed419e6c37e1ebd1bf7d643638d5"), looks := false }, kinds := [], alts := [], laidByText := true, laidKinds := [.data], laidTests := true, laidLooks := .later }
def BitsJoinsUptoCardSaid : Prop := Claim7.holds Tryd.pinned (.plain (OpenSpec.upto bitsJoinsSpec)) bitsJoinsUptoCard

/-- THE SECOND FORM's CARD OF 'polderlaw02.BitsMorgan'. -/
def bitsMorganUptoCard : Claim7 := { stood := { row := bitsMorganUptoRow, standIns := [], harness := (true, "87cdaccd1185c8ac04f2faa84437553b589eed419e6c37e1ebd1bf7d643638d5"), looks := false }, kinds := [], alts := [], laidByText := true, laidKinds := [.data], laidTests := true, laidLooks := .later }
def BitsMorganUptoCardSaid : Prop := Claim7.holds Tryd.pinned (.plain (OpenSpec.upto bitsMorganSpec)) bitsMorganUptoCard

/-- THE SECOND FORM's CARD OF 'polderlaw02.BitsKnown'. -/
def bitsKnownUptoCard : Claim7 := { stood := { row := bitsKnownUptoRow, standIns := [], harness := (true, "87cdaccd1185c8ac04f2faa84437553b589eed419e6c37e1ebd1bf7d643638d5"), looks := false }, kinds := [], alts := [], laidByText := true, laidKinds := [.data], laidTests := true, laidLooks := .later }
def BitsKnownUptoCardSaid : Prop := Claim7.holds Tryd.pinned (.plain (OpenSpec.upto bitsKnownSpec)) bitsKnownUptoCard
end Rows
end Go.Proofs.YtikdgnfcckenmaaDoor
