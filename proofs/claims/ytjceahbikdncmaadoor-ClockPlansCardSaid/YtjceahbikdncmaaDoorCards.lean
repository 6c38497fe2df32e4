/-
  DERIVED. GIVEN WITH THE SEED: THE CARDS: each row of YtjceahbikdncmaaDoorRows.lean that lists a variable, with what it lists TIED to the program's text (the seventh form; the later family's looks); each row that meets fmt, with fmt's text TOLD by the authors' own Lean function (tested against real Go, not proved from fmt's source: count such statements apart). THE CARD IS WHAT COUNTS. Prove the row's statement (the work); the ties are given (YtjceahbikdncmaaDoorTie.lean); close each card by the builder's one call (the guide's Derived/Test/ToyasCard.lean, 'card_holds'). Laid BY PROGRAM, IN A SANDBOX (cutbox-door.mjs). By AI agents, Wed Nov 11 2026. No macro, syntax, notation, axiom, sorry.
-/
import Derived.Test.YtjceahbikdncmaaDoorRows
import GoSem.ClaimSeven
namespace Go.Proofs.YtjceahbikdncmaaDoor
namespace Rows

/-- THE TIED CARD OF 'polderlaw09.ClockRuns'. -/
def clockRunsCard : Claim7 := { stood := { row := clockRunsRow, standIns := [], harness := (true, "7db01d80b073e60ace40b32dfe9b977112aec4b6ef2df974a3754e87c407a5ba"), looks := false }, kinds := [], alts := [], laidByText := true, laidKinds := [.data, .data, .data, .data], laidTests := true, laidLooks := .later }
def ClockRunsCardSaid : Prop := Claim7.holds Tryd.pinned (.plain (OpenSpec.ofChange clockRunsSpec)) clockRunsCard

/-- THE TIED CARD OF 'polderlaw09.ClockParts'. -/
def clockPartsCard : Claim7 := { stood := { row := clockPartsRow, standIns := [], harness := (true, "7db01d80b073e60ace40b32dfe9b977112aec4b6ef2df974a3754e87c407a5ba"), looks := false }, kinds := [], alts := [], laidByText := true, laidKinds := [.data, .data, .data, .data], laidTests := true, laidLooks := .later }
def ClockPartsCardSaid : Prop := Claim7.holds Tryd.pinned (.plain (OpenSpec.ofChange clockPartsSpec)) clockPartsCard

/-- THE TIED CARD OF 'polderlaw09.ClockGreatest'. -/
def clockGreatestCard : Claim7 := { stood := { row := clockGreatestRow, standIns := [], harness := (true, "7db01d80b073e60ace40b32dfe9b977112aec4b6ef2df974a3754e87c407a5ba"), looks := false }, kinds := [], alts := [], laidByText := true, laidKinds := [.data, .data, .data, .data], laidTests := true, laidLooks := .later }
def ClockGreatestCardSaid : Prop := Claim7.holds Tryd.pinned (.plain (OpenSpec.ofChange clockGreatestSpec)) clockGreatestCard

/-- THE TIED CARD OF 'polderlaw09.ClockOrder'. -/
def clockOrderCard : Claim7 := { stood := { row := clockOrderRow, standIns := [], harness := (true, "7db01d80b073e60ace40b32dfe9b977112aec4b6ef2df974a3754e87c407a5ba"), looks := false }, kinds := [], alts := [], laidByText := true, laidKinds := [.data, .data, .data, .data], laidTests := true, laidLooks := .later }
def ClockOrderCardSaid : Prop := Claim7.holds Tryd.pinned (.plain (OpenSpec.ofChange clockOrderSpec)) clockOrderCard

/-- THE TIED CARD OF 'polderlaw09.ClockStamps'. -/
def clockStampsCard : Claim7 := { stood := { row := clockStampsRow, standIns := [], harness := (true, "7db01d80b073e60ace40b32dfe9b977112aec4b6ef2df974a3754e87c407a5ba"), looks := false }, kinds := [], alts := [], laidByText := true, laidKinds := [.data, .data, .data, .data], laidTests := true, laidLooks := .later }
def ClockStampsCardSaid : Prop := Claim7.holds Tryd.pinned (.plain (OpenSpec.ofChange clockStampsSpec)) clockStampsCard

/-- THE TIED CARD OF 'polderlaw09.ClockPlans'. -/
def clockPlansCard : Claim7 := { stood := { row := clockPlansRow, standIns := [], harness := (true, "7db01d80b073e60ace40b32dfe9b977112aec4b6ef2df974a3754e87c407a5ba"), looks := false }, kinds := [], alts := [], laidByText := true, laidKinds := [.data, .data, .data, .data], laidTests := true, laidLooks := .later }
def ClockPlansCardSaid : Prop := Claim7.holds Tryd.pinned (.plain (OpenSpec.ofChange clockPlansSpec)) clockPlansCard

/-- THE SECOND FORM's CARD OF 'polderlaw09.ClockRuns'. -/
def clockRunsUptoCard : Claim7 := { stood := { row := clockRunsUptoRow, standIns := [], harness := (true, "7db01d80b073e60ace40b32dfe9b977112aec4b6ef2df974a3754e87c407a5ba"), looks := false }, kinds := [], alts := [], laidByText := true, laidKinds := [.data, .data, .data, .data], laidTests := true, laidLooks := .later }
def ClockRunsUptoCardSaid : Prop := Claim7.holds Tryd.pinned (.plain (OpenSpec.upto clockRunsSpec)) clockRunsUptoCard

/-- THE SECOND FORM's CARD OF 'polderlaw09.ClockParts'. -/
def clockPartsUptoCard : Claim7 := { stood := { row := clockPartsUptoRow, standIns := [], harness := (true, "7db01d80b073e60ace40b32dfe9b977112aec4b6ef2df974a3754e87c407a5ba"), looks := false }, kinds := [], alts := [], laidByText := true, laidKinds := [.data, .data, .data, .data], laidTests := true, laidLooks := .later }
def ClockPartsUptoCardSaid : Prop := Claim7.holds Tryd.pinned (.plain (OpenSpec.upto clockPartsSpec)) clockPartsUptoCard

/-- THE SECOND FORM's CARD OF 'polderlaw09.ClockGreatest'. -/
def clockGreatestUptoCard : Claim7 := { stood := { row := clockGreatestUptoRow, standIns := [], harness := (true, "7db01d80b073e60ace40b32dfe9b977112aec4b6ef2df974a3754e87c407a5ba"), looks := false }, kinds := [], alts := [], laidByText := true, laidKinds := [.data, .data, .data, .data], laidTests := true, laidLooks := .later }
def ClockGreatestUptoCardSaid : Prop := Claim7.holds Tryd.pinned (.plain (OpenSpec.upto clockGreatestSpec)) clockGreatestUptoCard

/-- THE SECOND FORM's CARD OF 'polderlaw09.ClockOrder'. -/
def clockOrderUptoCard : Claim7 := { stood := { row := clockOrderUptoRow, standIns := [], harness := (true, "7db01d80b073e60ace40b32dfe9b977112aec4b6ef2df974a3754e87c407a5ba"), looks := false }, kinds := [], alts := [], laidByText := true, laidKinds := [.data, .data, .data, .data], laidTests := true, laidLooks := .later }
def ClockOrderUptoCardSaid : Prop := Claim7.holds Tryd.pinned (.plain (OpenSpec.upto clockOrderSpec)) clockOrderUptoCard

/-- THE SECOND FORM's CARD OF 'polderlaw09.ClockStamps'. -/
def clockStampsUptoCard : Claim7 := { stood := { row := clockStampsUptoRow, standIns := [], harness := (true, "7db01d80b073e60ace40b32dfe9b977112aec4b6ef2df974a3754e87c407a5ba"), looks := false }, kinds := [], alts := [], laidByText := true, laidKinds := [.data, .data, .data, .data], laidTests := true, laidLooks := .later }
def ClockStampsUptoCardSaid : Prop := Claim7.holds Tryd.pinned (.plain (OpenSpec.upto clockStampsSpec)) clockStampsUptoCard

/-- THE SECOND FORM's CARD OF 'polderlaw09.ClockPlans'. -/
def clockPlansUptoCard : Claim7 := { stood := { row := clockPlansUptoRow, standIns := [], harness := (true, "7db01d80b073e60ace40b32dfe9b977112aec4b6ef2df974a3754e87c407a5ba"), looks := false }, kinds := [], alts := [], laidByText := true, laidKinds := [.data, .data, .data, .data], laidTests := true, laidLooks := .later }
def ClockPlansUptoCardSaid : Prop := Claim7.holds Tryd.pinned (.plain (OpenSpec.upto clockPlansSpec)) clockPlansUptoCard
end Rows
end Go.Proofs.YtjceahbikdncmaaDoor
