/-
  DERIVED. GIVEN WITH THE SEED: THE CARDS: each row of YthmknaoelmeniaaGreatDoorRows.lean that lists a variable, with what it lists TIED to the program's text (the seventh form; the later family's looks); each row that meets fmt, with fmt's text TOLD by the authors' own Lean function (tested against real Go, not proved from fmt's source: count such statements apart). THE CARD IS WHAT COUNTS. Prove the row's statement (the work); the ties are given (YthmknaoelmeniaaGreatDoorTie.lean); close each card by the builder's one call (the guide's Derived/Test/ToyasCard.lean, 'card_holds'). Laid BY PROGRAM, IN A SANDBOX (cutbox-door.mjs). By AI agents, Wed Nov 11 2026. No macro, syntax, notation, axiom, sorry.
-/
import Derived.Test.YthmknaoelmeniaaGreatDoorRows
import GoSem.ClaimSeven
namespace Go.Proofs.YthmknaoelmeniaaGreatDoor
namespace Rows

/-- THE TIED CARD OF 'polderlaw01.WordsLists'. -/
def wordsListsCard : Claim7 := { stood := { row := wordsListsRow, standIns := [], harness := (true, "45546aebfee2e9a375beea8ac4bb0d04dab5e68c54855c4931cc38e5743a8541"), looks := true }, kinds := [], alts := [], laidByText := true, laidKinds := [.data, .data, .data, .data, .sentinel, .sentinel, .data, .pinned], laidTests := true, laidLooks := .later }
def WordsListsCardSaid : Prop := Claim7.holds Tryz.pinned (.plain (OpenSpec.ofChange wordsListsSpec)) wordsListsCard

/-- THE SECOND FORM's CARD OF 'polderlaw01.WordsLists'. -/
def wordsListsUptoCard : Claim7 := { stood := { row := wordsListsUptoRow, standIns := [], harness := (true, "45546aebfee2e9a375beea8ac4bb0d04dab5e68c54855c4931cc38e5743a8541"), looks := true }, kinds := [], alts := [], laidByText := true, laidKinds := [.data, .data, .data, .data, .sentinel, .sentinel, .data, .pinned], laidTests := true, laidLooks := .later }
def WordsListsUptoCardSaid : Prop := Claim7.holds Tryz.pinned (.plain (OpenSpec.upto wordsListsSpec)) wordsListsUptoCard
end Rows
end Go.Proofs.YthmknaoelmeniaaGreatDoor
