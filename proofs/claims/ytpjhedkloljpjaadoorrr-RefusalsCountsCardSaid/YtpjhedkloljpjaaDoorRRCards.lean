/-
  DERIVED. GIVEN WITH THE SEED: THE CARDS: each row of YtpjhedkloljpjaaDoorRRRows.lean that lists a variable, with what it lists TIED to the program's text (the seventh form; the later family's looks); each row that meets fmt, with fmt's text TOLD by the authors' own Lean function (tested against real Go, not proved from fmt's source: count such statements apart). THE CARD IS WHAT COUNTS. Prove the row's statement (the work); the ties are given (YtpjhedkloljpjaaDoorRRTie.lean); close each card by the builder's one call (the guide's Derived/Test/ToyasCard.lean, 'card_holds'). Laid BY PROGRAM, IN A SANDBOX (cutbox-door.mjs). By AI agents, Wed Nov 11 2026. No macro, syntax, notation, axiom, sorry.
-/
import Derived.Test.YtpjhedkloljpjaaDoorRRRows
import GoSem.ClaimSeven
namespace Go.Proofs.YtpjhedkloljpjaaDoorRR
namespace Rows

/-- THE TIED CARD OF 'polderlaw05.RefusalsAsks'. -/
def refusalsAsksCard : Claim7 := { stood := { row := refusalsAsksRow, standIns := [], harness := (true, "ae2609811b0340cc74b8d11abc58fd386e28df61648245898cc7bd2d21a81161"), looks := false }, kinds := [], alts := [], laidByText := true, laidKinds := [.data, .data, .data, .data], laidTests := true, laidLooks := .later }
def RefusalsAsksCardSaid : Prop := Claim7.holds Tryd.pinned (.plain (OpenSpec.ofChange refusalsAsksSpec)) refusalsAsksCard

/-- THE TIED CARD OF 'polderlaw05.RefusalsSame'. -/
def refusalsSameCard : Claim7 := { stood := { row := refusalsSameRow, standIns := [], harness := (true, "ae2609811b0340cc74b8d11abc58fd386e28df61648245898cc7bd2d21a81161"), looks := false }, kinds := [], alts := [], laidByText := true, laidKinds := [.data, .data, .data, .data], laidTests := true, laidLooks := .later }
def RefusalsSameCardSaid : Prop := Claim7.holds Tryd.pinned (.plain (OpenSpec.ofChange refusalsSameSpec)) refusalsSameCard

/-- THE TIED CARD OF 'polderlaw05.RefusalsRests'. -/
def refusalsRestsCard : Claim7 := { stood := { row := refusalsRestsRow, standIns := [], harness := (true, "ae2609811b0340cc74b8d11abc58fd386e28df61648245898cc7bd2d21a81161"), looks := false }, kinds := [], alts := [], laidByText := true, laidKinds := [.data, .data, .data, .data], laidTests := true, laidLooks := .later }
def RefusalsRestsCardSaid : Prop := Claim7.holds Tryd.pinned (.plain (OpenSpec.ofChange refusalsRestsSpec)) refusalsRestsCard

/-- THE TIED CARD OF 'polderlaw05.RefusalsCounts'. -/
def refusalsCountsCard : Claim7 := { stood := { row := refusalsCountsRow, standIns := [], harness := (true, "ae2609811b0340cc74b8d11abc58fd386e28df61648245898cc7bd2d21a81161"), looks := false }, kinds := [], alts := [], laidByText := true, laidKinds := [.data, .data, .data, .data], laidTests := true, laidLooks := .later }
def RefusalsCountsCardSaid : Prop := Claim7.holds Tryd.pinned (.plain (OpenSpec.ofChange refusalsCountsSpec)) refusalsCountsCard

/-- THE TIED CARD OF 'polderlaw05.RefusalsSteps'. -/
def refusalsStepsCard : Claim7 := { stood := { row := refusalsStepsRow, standIns := [], harness := (true, "ae2609811b0340cc74b8d11abc58fd386e28df61648245898cc7bd2d21a81161"), looks := false }, kinds := [], alts := [], laidByText := true, laidKinds := [.data, .data, .data, .data], laidTests := true, laidLooks := .later }
def RefusalsStepsCardSaid : Prop := Claim7.holds Tryd.pinned (.plain (OpenSpec.ofChange refusalsStepsSpec)) refusalsStepsCard

/-- THE SECOND FORM's CARD OF 'polderlaw05.RefusalsAsks'. -/
def refusalsAsksUptoCard : Claim7 := { stood := { row := refusalsAsksUptoRow, standIns := [], harness := (true, "ae2609811b0340cc74b8d11abc58fd386e28df61648245898cc7bd2d21a81161"), looks := false }, kinds := [], alts := [], laidByText := true, laidKinds := [.data, .data, .data, .data], laidTests := true, laidLooks := .later }
def RefusalsAsksUptoCardSaid : Prop := Claim7.holds Tryd.pinned (.plain (OpenSpec.upto refusalsAsksSpec)) refusalsAsksUptoCard

/-- THE SECOND FORM's CARD OF 'polderlaw05.RefusalsSame'. -/
def refusalsSameUptoCard : Claim7 := { stood := { row := refusalsSameUptoRow, standIns := [], harness := (true, "ae2609811b0340cc74b8d11abc58fd386e28df61648245898cc7bd2d21a81161"), looks := false }, kinds := [], alts := [], laidByText := true, laidKinds := [.data, .data, .data, .data], laidTests := true, laidLooks := .later }
def RefusalsSameUptoCardSaid : Prop := Claim7.holds Tryd.pinned (.plain (OpenSpec.upto refusalsSameSpec)) refusalsSameUptoCard

/-- THE SECOND FORM's CARD OF 'polderlaw05.RefusalsRests'. -/
def refusalsRestsUptoCard : Claim7 := { stood := { row := refusalsRestsUptoRow, standIns := [], harness := (true, "ae2609811b0340cc74b8d11abc58fd386e28df61648245898cc7bd2d21a81161"), looks := false }, kinds := [], alts := [], laidByText := true, laidKinds := [.data, .data, .data, .data], laidTests := true, laidLooks := .later }
def RefusalsRestsUptoCardSaid : Prop := Claim7.holds Tryd.pinned (.plain (OpenSpec.upto refusalsRestsSpec)) refusalsRestsUptoCard

/-- THE SECOND FORM's CARD OF 'polderlaw05.RefusalsCounts'. -/
def refusalsCountsUptoCard : Claim7 := { stood := { row := refusalsCountsUptoRow, standIns := [], harness := (true, "ae2609811b0340cc74b8d11abc58fd386e28df61648245898cc7bd2d21a81161"), looks := false }, kinds := [], alts := [], laidByText := true, laidKinds := [.data, .data, .data, .data], laidTests := true, laidLooks := .later }
def RefusalsCountsUptoCardSaid : Prop := Claim7.holds Tryd.pinned (.plain (OpenSpec.upto refusalsCountsSpec)) refusalsCountsUptoCard

/-- THE SECOND FORM's CARD OF 'polderlaw05.RefusalsSteps'. -/
def refusalsStepsUptoCard : Claim7 := { stood := { row := refusalsStepsUptoRow, standIns := [], harness := (true, "ae2609811b0340cc74b8d11abc58fd386e28df61648245898cc7bd2d21a81161"), looks := false }, kinds := [], alts := [], laidByText := true, laidKinds := [.data, .data, .data, .data], laidTests := true, laidLooks := .later }
def RefusalsStepsUptoCardSaid : Prop := Claim7.holds Tryd.pinned (.plain (OpenSpec.upto refusalsStepsSpec)) refusalsStepsUptoCard
end Rows
end Go.Proofs.YtpjhedkloljpjaaDoorRR
