/-
  NARROWER THAN 'FOR EVERY INPUT', by the rows' own cells (each row's printed sentence says how): HandlesSlots: laid · HandlesLoads: laid · HandlesWalks: laid · HandlesOnce: laid · HandlesKnown: laid · HandlesSpent: laid · HandlesTypes: laid · HandlesPlays: laid.
  DERIVED. THE GIVEN ROWS OF THIS SEAT. 8 by the template 'for every input the law returns true; each argument reads behind the call as it read before'; 0 by the template 'total and deterministic' (their statements: YtpaecmpiokkdnaaDoorTotals.lean).
  GIVEN WITH THE SEED: the statements are not yours to turn. If you find one false, say at which input.
  Laid BY PROGRAM, IN A SANDBOX (cutbox-rows.mjs): the forced cells as the released guide's own fill.sh prints them over the translation ad03e48a1de81248… (all of the seat's roots in one cut). By AI agents, Wed Nov 11 2026. No macro, syntax, notation, axiom, sorry.
-/
import Derived.Test.YtpaecmpiokkdnaaDoorChecked
import GoSem.Claim
import GoSem.ClaimJoined
import GoSem.ClaimMapViews
import Derived.JoinedTies
import Derived.KernelRfl
namespace Go.Proofs.YtpaecmpiokkdnaaDoor
/- THE CELL 'sum', in the pinned program and in every row, IS THE sha256 OF THE DUMP (.gsa) THAT YtpaecmpiokkdnaaDoorProg.lean LOADS. Nothing in Lean hashes anything: it is a label: what it is worth is what the hold of that sum in a sandbox is worth. -/
noncomputable def Tryd.pinned : Pinned := { name := "ytpaecmpiokkdnaadoor", sum := "ad03e48a1de81248bdd3b4e99136d258f5e19579070e9fda32d34aee36919b6f", checked := Tryd.checked }
namespace Rows
def none {H : Type} : Left H := { results := [], args := [] }

/- WHAT THE LISTED PACKAGE-LEVEL VARIABLES READ AS WHEN THE CALL BEGINS. Each datum BY PROGRAM (the guide's laid-datum.mjs) off the statement by which the dump's own 'gosem.cut.vars' lays the variable. In a bare row this is a premise. The card (YtpaecmpiokkdnaaDoorCards.lean) ties it to the program's text. -/
def laid_math_bits_deBruijn64tab {H : Type} : DataW H := .agg [.lit (.int .u8 0), .lit (.int .u8 1), .lit (.int .u8 56), .lit (.int .u8 2), .lit (.int .u8 57), .lit (.int .u8 49), .lit (.int .u8 28), .lit (.int .u8 3), .lit (.int .u8 61), .lit (.int .u8 58), .lit (.int .u8 42), .lit (.int .u8 50), .lit (.int .u8 38), .lit (.int .u8 29), .lit (.int .u8 17), .lit (.int .u8 4), .lit (.int .u8 62), .lit (.int .u8 47), .lit (.int .u8 59), .lit (.int .u8 36), .lit (.int .u8 45), .lit (.int .u8 43), .lit (.int .u8 51), .lit (.int .u8 22), .lit (.int .u8 53), .lit (.int .u8 39), .lit (.int .u8 33), .lit (.int .u8 30), .lit (.int .u8 24), .lit (.int .u8 18), .lit (.int .u8 12), .lit (.int .u8 5), .lit (.int .u8 63), .lit (.int .u8 55), .lit (.int .u8 48), .lit (.int .u8 27), .lit (.int .u8 60), .lit (.int .u8 41), .lit (.int .u8 37), .lit (.int .u8 16), .lit (.int .u8 46), .lit (.int .u8 35), .lit (.int .u8 44), .lit (.int .u8 21), .lit (.int .u8 52), .lit (.int .u8 32), .lit (.int .u8 23), .lit (.int .u8 11), .lit (.int .u8 54), .lit (.int .u8 26), .lit (.int .u8 40), .lit (.int .u8 15), .lit (.int .u8 34), .lit (.int .u8 20), .lit (.int .u8 31), .lit (.int .u8 10), .lit (.int .u8 25), .lit (.int .u8 14), .lit (.int .u8 19), .lit (.int .u8 9), .lit (.int .u8 13), .lit (.int .u8 8), .lit (.int .u8 7), .lit (.int .u8 6)]

/-- 'polderlaw16.HandlesSlots': WHATEVER THE INPUT: true; the input reads as it did. -/
def handlesSlotsSpec : ChangeSpec := { name := "handlesSlots", fn := fun _ => fun
  | [d1, d2] => { results := [.lit (.bool true)], args := [d1, d2] }
  | _ => none }
def handlesSlotsRow : OpenClaim := { program := "ytpaecmpiokkdnaadoor", sum := "ad03e48a1de81248bdd3b4e99136d258f5e19579070e9fda32d34aee36919b6f", func := "polder/polderlaw16.HandlesSlots", spec := "handlesSlots", unfollowed := true, recurses := true, named := ["math/bits.deBruijn64tab"], apart := false, laid := [("math/bits.deBruijn64tab", laid_math_bits_deBruijn64tab)] }
def HandlesSlotsSaid : Prop := handlesSlotsRow.holds Tryd.pinned (OpenSpec.ofChange handlesSlotsSpec)

/-- ITS FALSE NEIGHBOUR: 'it returns false'. Refute it at one input. -/
def handlesSlotsWrong : ChangeSpec := { name := "handlesSlots", fn := fun _ => fun
  | [d1, d2] => { results := [.lit (.bool false)], args := [d1, d2] }
  | _ => none }
def HandlesSlotsWrongFalsely : Prop := handlesSlotsRow.holds Tryd.pinned (OpenSpec.ofChange handlesSlotsWrong)

/-- 'polderlaw16.HandlesLoads': WHATEVER THE INPUT: true; the input reads as it did. -/
def handlesLoadsSpec : ChangeSpec := { name := "handlesLoads", fn := fun _ => fun
  | [d] => { results := [.lit (.bool true)], args := [d] }
  | _ => none }
def handlesLoadsRow : OpenClaim := { program := "ytpaecmpiokkdnaadoor", sum := "ad03e48a1de81248bdd3b4e99136d258f5e19579070e9fda32d34aee36919b6f", func := "polder/polderlaw16.HandlesLoads", spec := "handlesLoads", unfollowed := true, recurses := true, named := ["math/bits.deBruijn64tab"], apart := false, laid := [("math/bits.deBruijn64tab", laid_math_bits_deBruijn64tab)] }
def HandlesLoadsSaid : Prop := handlesLoadsRow.holds Tryd.pinned (OpenSpec.ofChange handlesLoadsSpec)

/-- ITS FALSE NEIGHBOUR: 'it returns false'. Refute it at one input. -/
def handlesLoadsWrong : ChangeSpec := { name := "handlesLoads", fn := fun _ => fun
  | [d] => { results := [.lit (.bool false)], args := [d] }
  | _ => none }
def HandlesLoadsWrongFalsely : Prop := handlesLoadsRow.holds Tryd.pinned (OpenSpec.ofChange handlesLoadsWrong)

/-- 'polderlaw16.HandlesWalks': WHATEVER THE INPUT: true; the input reads as it did. -/
def handlesWalksSpec : ChangeSpec := { name := "handlesWalks", fn := fun _ => fun
  | [d1, d2] => { results := [.lit (.bool true)], args := [d1, d2] }
  | _ => none }
def handlesWalksRow : OpenClaim := { program := "ytpaecmpiokkdnaadoor", sum := "ad03e48a1de81248bdd3b4e99136d258f5e19579070e9fda32d34aee36919b6f", func := "polder/polderlaw16.HandlesWalks", spec := "handlesWalks", unfollowed := true, recurses := true, named := ["math/bits.deBruijn64tab"], apart := false, laid := [("math/bits.deBruijn64tab", laid_math_bits_deBruijn64tab)] }
def HandlesWalksSaid : Prop := handlesWalksRow.holds Tryd.pinned (OpenSpec.ofChange handlesWalksSpec)

/-- ITS FALSE NEIGHBOUR: 'it returns false'. Refute it at one input. -/
def handlesWalksWrong : ChangeSpec := { name := "handlesWalks", fn := fun _ => fun
  | [d1, d2] => { results := [.lit (.bool false)], args := [d1, d2] }
  | _ => none }
def HandlesWalksWrongFalsely : Prop := handlesWalksRow.holds Tryd.pinned (OpenSpec.ofChange handlesWalksWrong)

/-- 'polderlaw16.HandlesOnce': WHATEVER THE INPUT: true; the input reads as it did. -/
def handlesOnceSpec : ChangeSpec := { name := "handlesOnce", fn := fun _ => fun
  | [d1, d2] => { results := [.lit (.bool true)], args := [d1, d2] }
  | _ => none }
def handlesOnceRow : OpenClaim := { program := "ytpaecmpiokkdnaadoor", sum := "ad03e48a1de81248bdd3b4e99136d258f5e19579070e9fda32d34aee36919b6f", func := "polder/polderlaw16.HandlesOnce", spec := "handlesOnce", unfollowed := true, recurses := true, named := ["math/bits.deBruijn64tab"], apart := false, laid := [("math/bits.deBruijn64tab", laid_math_bits_deBruijn64tab)] }
def HandlesOnceSaid : Prop := handlesOnceRow.holds Tryd.pinned (OpenSpec.ofChange handlesOnceSpec)

/-- ITS FALSE NEIGHBOUR: 'it returns false'. Refute it at one input. -/
def handlesOnceWrong : ChangeSpec := { name := "handlesOnce", fn := fun _ => fun
  | [d1, d2] => { results := [.lit (.bool false)], args := [d1, d2] }
  | _ => none }
def HandlesOnceWrongFalsely : Prop := handlesOnceRow.holds Tryd.pinned (OpenSpec.ofChange handlesOnceWrong)

/-- 'polderlaw16.HandlesKnown': WHATEVER THE INPUT: true; the input reads as it did. -/
def handlesKnownSpec : ChangeSpec := { name := "handlesKnown", fn := fun _ => fun
  | [] => { results := [.lit (.bool true)], args := [] }
  | _ => none }
def handlesKnownRow : OpenClaim := { program := "ytpaecmpiokkdnaadoor", sum := "ad03e48a1de81248bdd3b4e99136d258f5e19579070e9fda32d34aee36919b6f", func := "polder/polderlaw16.HandlesKnown", spec := "handlesKnown", unfollowed := true, recurses := true, named := ["math/bits.deBruijn64tab"], apart := false, laid := [("math/bits.deBruijn64tab", laid_math_bits_deBruijn64tab)] }
def HandlesKnownSaid : Prop := handlesKnownRow.holds Tryd.pinned (OpenSpec.ofChange handlesKnownSpec)

/-- ITS FALSE NEIGHBOUR: 'it returns false'. Refute it at one input. -/
def handlesKnownWrong : ChangeSpec := { name := "handlesKnown", fn := fun _ => fun
  | [] => { results := [.lit (.bool false)], args := [] }
  | _ => none }
def HandlesKnownWrongFalsely : Prop := handlesKnownRow.holds Tryd.pinned (OpenSpec.ofChange handlesKnownWrong)

/-- 'polderlaw16.HandlesSpent': WHATEVER THE INPUT: true; the input reads as it did. -/
def handlesSpentSpec : ChangeSpec := { name := "handlesSpent", fn := fun _ => fun
  | [d1, d2] => { results := [.lit (.bool true)], args := [d1, d2] }
  | _ => none }
def handlesSpentRow : OpenClaim := { program := "ytpaecmpiokkdnaadoor", sum := "ad03e48a1de81248bdd3b4e99136d258f5e19579070e9fda32d34aee36919b6f", func := "polder/polderlaw16.HandlesSpent", spec := "handlesSpent", unfollowed := true, recurses := true, named := ["math/bits.deBruijn64tab"], apart := false, laid := [("math/bits.deBruijn64tab", laid_math_bits_deBruijn64tab)] }
def HandlesSpentSaid : Prop := handlesSpentRow.holds Tryd.pinned (OpenSpec.ofChange handlesSpentSpec)

/-- ITS FALSE NEIGHBOUR: 'it returns false'. Refute it at one input. -/
def handlesSpentWrong : ChangeSpec := { name := "handlesSpent", fn := fun _ => fun
  | [d1, d2] => { results := [.lit (.bool false)], args := [d1, d2] }
  | _ => none }
def HandlesSpentWrongFalsely : Prop := handlesSpentRow.holds Tryd.pinned (OpenSpec.ofChange handlesSpentWrong)

/-- 'polderlaw16.HandlesTypes': WHATEVER THE INPUT: true; the input reads as it did. -/
def handlesTypesSpec : ChangeSpec := { name := "handlesTypes", fn := fun _ => fun
  | [d1, d2] => { results := [.lit (.bool true)], args := [d1, d2] }
  | _ => none }
def handlesTypesRow : OpenClaim := { program := "ytpaecmpiokkdnaadoor", sum := "ad03e48a1de81248bdd3b4e99136d258f5e19579070e9fda32d34aee36919b6f", func := "polder/polderlaw16.HandlesTypes", spec := "handlesTypes", unfollowed := true, recurses := true, named := ["math/bits.deBruijn64tab"], apart := false, laid := [("math/bits.deBruijn64tab", laid_math_bits_deBruijn64tab)] }
def HandlesTypesSaid : Prop := handlesTypesRow.holds Tryd.pinned (OpenSpec.ofChange handlesTypesSpec)

/-- ITS FALSE NEIGHBOUR: 'it returns false'. Refute it at one input. -/
def handlesTypesWrong : ChangeSpec := { name := "handlesTypes", fn := fun _ => fun
  | [d1, d2] => { results := [.lit (.bool false)], args := [d1, d2] }
  | _ => none }
def HandlesTypesWrongFalsely : Prop := handlesTypesRow.holds Tryd.pinned (OpenSpec.ofChange handlesTypesWrong)

/-- 'polderlaw16.HandlesPlays': WHATEVER THE INPUT: true; the input reads as it did. -/
def handlesPlaysSpec : ChangeSpec := { name := "handlesPlays", fn := fun _ => fun
  | [d1, d2, d3] => { results := [.lit (.bool true)], args := [d1, d2, d3] }
  | _ => none }
def handlesPlaysRow : OpenClaim := { program := "ytpaecmpiokkdnaadoor", sum := "ad03e48a1de81248bdd3b4e99136d258f5e19579070e9fda32d34aee36919b6f", func := "polder/polderlaw16.HandlesPlays", spec := "handlesPlays", unfollowed := true, recurses := true, named := ["math/bits.deBruijn64tab"], apart := false, laid := [("math/bits.deBruijn64tab", laid_math_bits_deBruijn64tab)] }
def HandlesPlaysSaid : Prop := handlesPlaysRow.holds Tryd.pinned (OpenSpec.ofChange handlesPlaysSpec)

/-- ITS FALSE NEIGHBOUR: 'it returns false'. Refute it at one input. -/
def handlesPlaysWrong : ChangeSpec := { name := "handlesPlays", fn := fun _ => fun
  | [d1, d2, d3] => { results := [.lit (.bool false)], args := [d1, d2, d3] }
  | _ => none }
def HandlesPlaysWrongFalsely : Prop := handlesPlaysRow.holds Tryd.pinned (OpenSpec.ofChange handlesPlaysWrong)

/- THE SECOND FORM. 'bulk': how many values and letters a reading holds, each counted each time it is reached (what is shared counts as often as it is met; a slice's spare places count too). A statement '..UptoSaid' is the law's where the arguments, and the package variables that the reading takes, are together of bulk at most 1048576: NARROWER than '..Said'. Prove '..Said' where nothing that the law and all that it calls make is longer than what came in: it says more and counts as full. Else prove '..UptoSaid'. A law counts once. -/
mutual
def uptoBulk {H : Type} : DataW H → Nat
  | .lit (.string bytes) => bytes.length + 1
  | .lit _ => 1
  | .nil => 1
  | .ptr d => uptoBulk d + 1
  | .slice elems spare => uptoBulkAll elems + uptoBulkAll spare + 1
  | .agg parts => uptoBulkAll parts + 1
  | .iface _ d => uptoBulk d + 1
  | .map entries => uptoBulkEntries entries + 1
  | .held _ => 1
def uptoBulkAll {H : Type} : List (DataW H) → Nat
  | [] => 0
  | d :: r => uptoBulk d + uptoBulkAll r
def uptoBulkEntries {H : Type} : List (Lit × DataW H) → Nat
  | [] => 0
  | x :: r => uptoBulkEntry x + uptoBulkEntries r
def uptoBulkEntry {H : Type} : Lit × DataW H → Nat
  | (.string bytes, d) => bytes.length + uptoBulk d + 1
  | (_, d) => uptoBulk d + 1
 end
def uptoSmall : (H : Type) → List (DataW H) → Bool := fun _ ds => decide (uptoBulkAll ds ≤ 1048576)
def OpenSpec.upto (s : _root_.Go.ChangeSpec) : _root_.Go.OpenSpec := { _root_.Go.OpenSpec.ofChange s with cond := some uptoSmall }

/-- 'polderlaw16.HandlesSlots', WHERE WHAT IT READS IS OF BULK AT MOST 1048576: true; the input reads as it did. -/
def handlesSlotsUptoRow : OpenClaim := { program := "ytpaecmpiokkdnaadoor", sum := "ad03e48a1de81248bdd3b4e99136d258f5e19579070e9fda32d34aee36919b6f", func := "polder/polderlaw16.HandlesSlots", spec := "handlesSlots", unfollowed := true, recurses := true, named := ["math/bits.deBruijn64tab"], apart := false, laid := [("math/bits.deBruijn64tab", laid_math_bits_deBruijn64tab)], narrowed := true }
def HandlesSlotsUptoSaid : Prop := handlesSlotsUptoRow.holds Tryd.pinned (OpenSpec.upto handlesSlotsSpec)

/-- 'polderlaw16.HandlesLoads', WHERE WHAT IT READS IS OF BULK AT MOST 1048576: true; the input reads as it did. -/
def handlesLoadsUptoRow : OpenClaim := { program := "ytpaecmpiokkdnaadoor", sum := "ad03e48a1de81248bdd3b4e99136d258f5e19579070e9fda32d34aee36919b6f", func := "polder/polderlaw16.HandlesLoads", spec := "handlesLoads", unfollowed := true, recurses := true, named := ["math/bits.deBruijn64tab"], apart := false, laid := [("math/bits.deBruijn64tab", laid_math_bits_deBruijn64tab)], narrowed := true }
def HandlesLoadsUptoSaid : Prop := handlesLoadsUptoRow.holds Tryd.pinned (OpenSpec.upto handlesLoadsSpec)

/-- 'polderlaw16.HandlesWalks', WHERE WHAT IT READS IS OF BULK AT MOST 1048576: true; the input reads as it did. -/
def handlesWalksUptoRow : OpenClaim := { program := "ytpaecmpiokkdnaadoor", sum := "ad03e48a1de81248bdd3b4e99136d258f5e19579070e9fda32d34aee36919b6f", func := "polder/polderlaw16.HandlesWalks", spec := "handlesWalks", unfollowed := true, recurses := true, named := ["math/bits.deBruijn64tab"], apart := false, laid := [("math/bits.deBruijn64tab", laid_math_bits_deBruijn64tab)], narrowed := true }
def HandlesWalksUptoSaid : Prop := handlesWalksUptoRow.holds Tryd.pinned (OpenSpec.upto handlesWalksSpec)

/-- 'polderlaw16.HandlesOnce', WHERE WHAT IT READS IS OF BULK AT MOST 1048576: true; the input reads as it did. -/
def handlesOnceUptoRow : OpenClaim := { program := "ytpaecmpiokkdnaadoor", sum := "ad03e48a1de81248bdd3b4e99136d258f5e19579070e9fda32d34aee36919b6f", func := "polder/polderlaw16.HandlesOnce", spec := "handlesOnce", unfollowed := true, recurses := true, named := ["math/bits.deBruijn64tab"], apart := false, laid := [("math/bits.deBruijn64tab", laid_math_bits_deBruijn64tab)], narrowed := true }
def HandlesOnceUptoSaid : Prop := handlesOnceUptoRow.holds Tryd.pinned (OpenSpec.upto handlesOnceSpec)

/-- 'polderlaw16.HandlesKnown', WHERE WHAT IT READS IS OF BULK AT MOST 1048576: true; the input reads as it did. -/
def handlesKnownUptoRow : OpenClaim := { program := "ytpaecmpiokkdnaadoor", sum := "ad03e48a1de81248bdd3b4e99136d258f5e19579070e9fda32d34aee36919b6f", func := "polder/polderlaw16.HandlesKnown", spec := "handlesKnown", unfollowed := true, recurses := true, named := ["math/bits.deBruijn64tab"], apart := false, laid := [("math/bits.deBruijn64tab", laid_math_bits_deBruijn64tab)], narrowed := true }
def HandlesKnownUptoSaid : Prop := handlesKnownUptoRow.holds Tryd.pinned (OpenSpec.upto handlesKnownSpec)

/-- 'polderlaw16.HandlesSpent', WHERE WHAT IT READS IS OF BULK AT MOST 1048576: true; the input reads as it did. -/
def handlesSpentUptoRow : OpenClaim := { program := "ytpaecmpiokkdnaadoor", sum := "ad03e48a1de81248bdd3b4e99136d258f5e19579070e9fda32d34aee36919b6f", func := "polder/polderlaw16.HandlesSpent", spec := "handlesSpent", unfollowed := true, recurses := true, named := ["math/bits.deBruijn64tab"], apart := false, laid := [("math/bits.deBruijn64tab", laid_math_bits_deBruijn64tab)], narrowed := true }
def HandlesSpentUptoSaid : Prop := handlesSpentUptoRow.holds Tryd.pinned (OpenSpec.upto handlesSpentSpec)

/-- 'polderlaw16.HandlesTypes', WHERE WHAT IT READS IS OF BULK AT MOST 1048576: true; the input reads as it did. -/
def handlesTypesUptoRow : OpenClaim := { program := "ytpaecmpiokkdnaadoor", sum := "ad03e48a1de81248bdd3b4e99136d258f5e19579070e9fda32d34aee36919b6f", func := "polder/polderlaw16.HandlesTypes", spec := "handlesTypes", unfollowed := true, recurses := true, named := ["math/bits.deBruijn64tab"], apart := false, laid := [("math/bits.deBruijn64tab", laid_math_bits_deBruijn64tab)], narrowed := true }
def HandlesTypesUptoSaid : Prop := handlesTypesUptoRow.holds Tryd.pinned (OpenSpec.upto handlesTypesSpec)

/-- 'polderlaw16.HandlesPlays', WHERE WHAT IT READS IS OF BULK AT MOST 1048576: true; the input reads as it did. -/
def handlesPlaysUptoRow : OpenClaim := { program := "ytpaecmpiokkdnaadoor", sum := "ad03e48a1de81248bdd3b4e99136d258f5e19579070e9fda32d34aee36919b6f", func := "polder/polderlaw16.HandlesPlays", spec := "handlesPlays", unfollowed := true, recurses := true, named := ["math/bits.deBruijn64tab"], apart := false, laid := [("math/bits.deBruijn64tab", laid_math_bits_deBruijn64tab)], narrowed := true }
def HandlesPlaysUptoSaid : Prop := handlesPlaysUptoRow.holds Tryd.pinned (OpenSpec.upto handlesPlaysSpec)

end Rows
end Go.Proofs.YtpaecmpiokkdnaaDoor
