/-
  DERIVED. GIVEN WITH THE SEED: THE CARDS: each row of YtgbdhmdaefbglaaDoorRows.lean that lists a variable, with what it lists TIED to the program's text (the seventh form; the later family's looks); each row that meets fmt, with fmt's text TOLD by the authors' own Lean function (tested against real Go, not proved from fmt's source: count such statements apart). THE CARD IS WHAT COUNTS. Prove the row's statement (the work); the ties are given (YtgbdhmdaefbglaaDoorTie.lean); close each card by the builder's one call (the guide's Derived/Test/ToyasCard.lean, 'card_holds'). Laid BY PROGRAM, IN A SANDBOX (cutbox-door.mjs). By AI agents, Wed Nov 11 2026. No macro, syntax, notation, axiom, sorry.
-/
import Derived.Test.YtgbdhmdaefbglaaDoorRows
import GoSem.ClaimSeven
namespace Go.Proofs.YtgbdhmdaefbglaaDoor
namespace Rows

/-- THE TIED CARD OF 'polderlaw05.RefusalsPrints'. -/
def refusalsPrintsCard : Claim7 := { stood := { row := refusalsPrintsRow, standIns := [], harness := (true, "2a4be776507d41c5d7fdb34129da953ac337252ffb7c5517a714763930b9dcc9"), looks := true }, kinds := [], alts := [], laidByText := true, laidKinds := [.data, .data, .data, .data, .sentinel, .sentinel, .data, .pinned], laidTests := true, laidLooks := .later }
def RefusalsPrintsCardSaid : Prop := Claim7.holds Tryd.pinned (.plain (OpenSpec.ofChange refusalsPrintsSpec)) refusalsPrintsCard

/-- THE TIED CARD OF 'polderlaw05.RefusalsParses'. -/
def refusalsParsesCard : Claim7 := { stood := { row := refusalsParsesRow, standIns := [], harness := (true, "2a4be776507d41c5d7fdb34129da953ac337252ffb7c5517a714763930b9dcc9"), looks := true }, kinds := [], alts := [], laidByText := true, laidKinds := [.data, .data, .data, .data, .sentinel, .sentinel, .data, .pinned], laidTests := true, laidLooks := .later }
def RefusalsParsesCardSaid : Prop := Claim7.holds Tryd.pinned (.plain (OpenSpec.ofChange refusalsParsesSpec)) refusalsParsesCard

/-- THE SECOND FORM's CARD OF 'polderlaw05.RefusalsPrints'. -/
def refusalsPrintsUptoCard : Claim7 := { stood := { row := refusalsPrintsUptoRow, standIns := [], harness := (true, "2a4be776507d41c5d7fdb34129da953ac337252ffb7c5517a714763930b9dcc9"), looks := true }, kinds := [], alts := [], laidByText := true, laidKinds := [.data, .data, .data, .data, .sentinel, .sentinel, .data, .pinned], laidTests := true, laidLooks := .later }
def RefusalsPrintsUptoCardSaid : Prop := Claim7.holds Tryd.pinned (.plain (OpenSpec.upto refusalsPrintsSpec)) refusalsPrintsUptoCard

/-- THE SECOND FORM's CARD OF 'polderlaw05.RefusalsParses'. -/
def refusalsParsesUptoCard : Claim7 := { stood := { row := refusalsParsesUptoRow, standIns := [], harness := (true, "2a4be776507d41c5d7fdb34129da953ac337252ffb7c5517a714763930b9dcc9"), looks := true }, kinds := [], alts := [], laidByText := true, laidKinds := [.data, .data, .data, .data, .sentinel, .sentinel, .data, .pinned], laidTests := true, laidLooks := .later }
def RefusalsParsesUptoCardSaid : Prop := Claim7.holds Tryd.pinned (.plain (OpenSpec.upto refusalsParsesSpec)) refusalsParsesUptoCard
end Rows
end Go.Proofs.YtgbdhmdaefbglaaDoor
