/-
  DERIVED. GIVEN WITH THE SEED: THE CARDS: each row of YtmgpdaljminipaaDoorRows.lean that lists a variable, with what it lists TIED to the program's text (the seventh form; the later family's looks); each row that meets fmt, with fmt's text TOLD by the authors' own Lean function (tested against real Go, not proved from fmt's source: count such statements apart). THE CARD IS WHAT COUNTS. Prove the row's statement (the work); the ties are given (YtmgpdaljminipaaDoorTie.lean); close each card by the builder's one call (the guide's Derived/Test/ToyasCard.lean, 'card_holds'). Laid BY PROGRAM, IN A SANDBOX (cutbox-door.mjs). By AI agents, Wed Nov 11 2026. No macro, syntax, notation, axiom, sorry.
-/
import Derived.Test.YtmgpdaljminipaaDoorRows
import GoSem.ClaimSeven
namespace Go.Proofs.YtmgpdaljminipaaDoor
namespace Rows

/-- THE TIED CARD OF 'polderlaw09.ClockSpans'. -/
def clockSpansCard : Claim7 := { stood := { row := clockSpansRow, standIns := [], harness := (true, "ffaa82e9d90e52e4820421d4342df587a1788e69ad0b2c2eaf667b528172c54f"), looks := true }, kinds := [], alts := [], laidByText := true, laidKinds := [.data, .data, .data, .sentinel, .sentinel, .data], laidTests := true, laidLooks := .later }
def ClockSpansCardSaid : Prop := Claim7.holds Tryd.pinned (.plain (OpenSpec.ofChange clockSpansSpec)) clockSpansCard

/-- THE TIED CARD OF 'polderlaw09.ClockKnown'. -/
def clockKnownCard : Claim7 := { stood := { row := clockKnownRow, standIns := [], harness := (true, "ffaa82e9d90e52e4820421d4342df587a1788e69ad0b2c2eaf667b528172c54f"), looks := true }, kinds := [], alts := [], laidByText := true, laidKinds := [.data, .data, .data, .sentinel, .sentinel, .data], laidTests := true, laidLooks := .later }
def ClockKnownCardSaid : Prop := Claim7.holds Tryd.pinned (.plain (OpenSpec.ofChange clockKnownSpec)) clockKnownCard

/-- THE SECOND FORM's CARD OF 'polderlaw09.ClockSpans'. -/
def clockSpansUptoCard : Claim7 := { stood := { row := clockSpansUptoRow, standIns := [], harness := (true, "ffaa82e9d90e52e4820421d4342df587a1788e69ad0b2c2eaf667b528172c54f"), looks := true }, kinds := [], alts := [], laidByText := true, laidKinds := [.data, .data, .data, .sentinel, .sentinel, .data], laidTests := true, laidLooks := .later }
def ClockSpansUptoCardSaid : Prop := Claim7.holds Tryd.pinned (.plain (OpenSpec.upto clockSpansSpec)) clockSpansUptoCard

/-- THE SECOND FORM's CARD OF 'polderlaw09.ClockKnown'. -/
def clockKnownUptoCard : Claim7 := { stood := { row := clockKnownUptoRow, standIns := [], harness := (true, "ffaa82e9d90e52e4820421d4342df587a1788e69ad0b2c2eaf667b528172c54f"), looks := true }, kinds := [], alts := [], laidByText := true, laidKinds := [.data, .data, .data, .sentinel, .sentinel, .data], laidTests := true, laidLooks := .later }
def ClockKnownUptoCardSaid : Prop := Claim7.holds Tryd.pinned (.plain (OpenSpec.upto clockKnownSpec)) clockKnownUptoCard
end Rows
end Go.Proofs.YtmgpdaljminipaaDoor
