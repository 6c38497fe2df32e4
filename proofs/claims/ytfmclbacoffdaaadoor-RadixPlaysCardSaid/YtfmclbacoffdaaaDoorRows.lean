/-
  NARROWER THAN 'FOR EVERY INPUT', by the rows' own cells (each row's printed sentence says how): RadixPacks: laid · RadixCounts: laid · RadixEmpty: laid · RadixWalks: laid · RadixLoads: laid · RadixPlays: laid · RadixKnown: laid · RadixFull: laid · RadixPages: laid · RadixBroken: laid.
  DERIVED. THE GIVEN ROWS OF THIS SEAT. 10 by the template 'for every input the law returns true; each argument reads behind the call as it read before'; 0 by the template 'total and deterministic' (their statements: YtfmclbacoffdaaaDoorTotals.lean).
  GIVEN WITH THE SEED: the statements are not yours to turn. If you find one false, say at which input.
  Laid BY PROGRAM, IN A SANDBOX (cutbox-rows.mjs): the forced cells as the released guide's own fill.sh prints them over the translation 8eb222abe11de7ab… (all of the seat's roots in one cut). By AI agents, Wed Nov 11 2026. No macro, syntax, notation, axiom, sorry.
-/
import Derived.Test.YtfmclbacoffdaaaDoorChecked
import GoSem.Claim
import GoSem.ClaimJoined
import GoSem.ClaimMapViews
import Derived.JoinedTies
import Derived.KernelRfl
namespace Go.Proofs.YtfmclbacoffdaaaDoor
/- THE CELL 'sum', in the pinned program and in every row, IS THE sha256 OF THE DUMP (.gsa) THAT YtfmclbacoffdaaaDoorProg.lean LOADS. Nothing in Lean hashes anything: it is a label: what it is worth is what the hold of that sum in a sandbox is worth. -/
noncomputable def Tryd.pinned : Pinned := { name := "ytfmclbacoffdaaadoor", sum := "8eb222abe11de7ab353bb3cde6c6cc84884cf3580f92a36a5ee94d1c8f2bb475", checked := Tryd.checked }
namespace Rows
def none {H : Type} : Left H := { results := [], args := [] }

/- WHAT THE LISTED PACKAGE-LEVEL VARIABLES READ AS WHEN THE CALL BEGINS. Each datum BY PROGRAM (the guide's laid-datum.mjs) off the statement by which the dump's own 'gosem.cut.vars' lays the variable. In a bare row this is a premise. The card (YtfmclbacoffdaaaDoorCards.lean) ties it to the program's text. -/
def laid_math_bits_deBruijn64tab {H : Type} : DataW H := .agg [.lit (.int .u8 0), .lit (.int .u8 1), .lit (.int .u8 56), .lit (.int .u8 2), .lit (.int .u8 57), .lit (.int .u8 49), .lit (.int .u8 28), .lit (.int .u8 3), .lit (.int .u8 61), .lit (.int .u8 58), .lit (.int .u8 42), .lit (.int .u8 50), .lit (.int .u8 38), .lit (.int .u8 29), .lit (.int .u8 17), .lit (.int .u8 4), .lit (.int .u8 62), .lit (.int .u8 47), .lit (.int .u8 59), .lit (.int .u8 36), .lit (.int .u8 45), .lit (.int .u8 43), .lit (.int .u8 51), .lit (.int .u8 22), .lit (.int .u8 53), .lit (.int .u8 39), .lit (.int .u8 33), .lit (.int .u8 30), .lit (.int .u8 24), .lit (.int .u8 18), .lit (.int .u8 12), .lit (.int .u8 5), .lit (.int .u8 63), .lit (.int .u8 55), .lit (.int .u8 48), .lit (.int .u8 27), .lit (.int .u8 60), .lit (.int .u8 41), .lit (.int .u8 37), .lit (.int .u8 16), .lit (.int .u8 46), .lit (.int .u8 35), .lit (.int .u8 44), .lit (.int .u8 21), .lit (.int .u8 52), .lit (.int .u8 32), .lit (.int .u8 23), .lit (.int .u8 11), .lit (.int .u8 54), .lit (.int .u8 26), .lit (.int .u8 40), .lit (.int .u8 15), .lit (.int .u8 34), .lit (.int .u8 20), .lit (.int .u8 31), .lit (.int .u8 10), .lit (.int .u8 25), .lit (.int .u8 14), .lit (.int .u8 19), .lit (.int .u8 9), .lit (.int .u8 13), .lit (.int .u8 8), .lit (.int .u8 7), .lit (.int .u8 6)]

/-- 'polderlaw07.RadixPacks': WHATEVER THE INPUT: true; the input reads as it did. -/
def radixPacksSpec : ChangeSpec := { name := "radixPacks", fn := fun _ => fun
  | [d1, d2] => { results := [.lit (.bool true)], args := [d1, d2] }
  | _ => none }
def radixPacksRow : OpenClaim := { program := "ytfmclbacoffdaaadoor", sum := "8eb222abe11de7ab353bb3cde6c6cc84884cf3580f92a36a5ee94d1c8f2bb475", func := "polder/polderlaw07.RadixPacks", spec := "radixPacks", named := ["math/bits.deBruijn64tab"], apart := false, laid := [("math/bits.deBruijn64tab", laid_math_bits_deBruijn64tab)] }
def RadixPacksSaid : Prop := radixPacksRow.holds Tryd.pinned (OpenSpec.ofChange radixPacksSpec)

/-- ITS FALSE NEIGHBOUR: 'it returns false'. Refute it at one input. -/
def radixPacksWrong : ChangeSpec := { name := "radixPacks", fn := fun _ => fun
  | [d1, d2] => { results := [.lit (.bool false)], args := [d1, d2] }
  | _ => none }
def RadixPacksWrongFalsely : Prop := radixPacksRow.holds Tryd.pinned (OpenSpec.ofChange radixPacksWrong)

/-- 'polderlaw07.RadixCounts': WHATEVER THE INPUT: true; the input reads as it did. -/
def radixCountsSpec : ChangeSpec := { name := "radixCounts", fn := fun _ => fun
  | [d1, d2] => { results := [.lit (.bool true)], args := [d1, d2] }
  | _ => none }
def radixCountsRow : OpenClaim := { program := "ytfmclbacoffdaaadoor", sum := "8eb222abe11de7ab353bb3cde6c6cc84884cf3580f92a36a5ee94d1c8f2bb475", func := "polder/polderlaw07.RadixCounts", spec := "radixCounts", named := ["math/bits.deBruijn64tab"], apart := false, laid := [("math/bits.deBruijn64tab", laid_math_bits_deBruijn64tab)] }
def RadixCountsSaid : Prop := radixCountsRow.holds Tryd.pinned (OpenSpec.ofChange radixCountsSpec)

/-- ITS FALSE NEIGHBOUR: 'it returns false'. Refute it at one input. -/
def radixCountsWrong : ChangeSpec := { name := "radixCounts", fn := fun _ => fun
  | [d1, d2] => { results := [.lit (.bool false)], args := [d1, d2] }
  | _ => none }
def RadixCountsWrongFalsely : Prop := radixCountsRow.holds Tryd.pinned (OpenSpec.ofChange radixCountsWrong)

/-- 'polderlaw07.RadixEmpty': WHATEVER THE INPUT: true; the input reads as it did. -/
def radixEmptySpec : ChangeSpec := { name := "radixEmpty", fn := fun _ => fun
  | [d1, d2] => { results := [.lit (.bool true)], args := [d1, d2] }
  | _ => none }
def radixEmptyRow : OpenClaim := { program := "ytfmclbacoffdaaadoor", sum := "8eb222abe11de7ab353bb3cde6c6cc84884cf3580f92a36a5ee94d1c8f2bb475", func := "polder/polderlaw07.RadixEmpty", spec := "radixEmpty", named := ["math/bits.deBruijn64tab"], apart := false, laid := [("math/bits.deBruijn64tab", laid_math_bits_deBruijn64tab)] }
def RadixEmptySaid : Prop := radixEmptyRow.holds Tryd.pinned (OpenSpec.ofChange radixEmptySpec)

/-- ITS FALSE NEIGHBOUR: 'it returns false'. Refute it at one input. -/
def radixEmptyWrong : ChangeSpec := { name := "radixEmpty", fn := fun _ => fun
  | [d1, d2] => { results := [.lit (.bool false)], args := [d1, d2] }
  | _ => none }
def RadixEmptyWrongFalsely : Prop := radixEmptyRow.holds Tryd.pinned (OpenSpec.ofChange radixEmptyWrong)

/-- 'polderlaw07.RadixWalks': WHATEVER THE INPUT: true; the input reads as it did. -/
def radixWalksSpec : ChangeSpec := { name := "radixWalks", fn := fun _ => fun
  | [d1, d2, d3] => { results := [.lit (.bool true)], args := [d1, d2, d3] }
  | _ => none }
def radixWalksRow : OpenClaim := { program := "ytfmclbacoffdaaadoor", sum := "8eb222abe11de7ab353bb3cde6c6cc84884cf3580f92a36a5ee94d1c8f2bb475", func := "polder/polderlaw07.RadixWalks", spec := "radixWalks", unfollowed := true, recurses := true, named := ["math/bits.deBruijn64tab"], apart := false, laid := [("math/bits.deBruijn64tab", laid_math_bits_deBruijn64tab)] }
def RadixWalksSaid : Prop := radixWalksRow.holds Tryd.pinned (OpenSpec.ofChange radixWalksSpec)

/-- ITS FALSE NEIGHBOUR: 'it returns false'. Refute it at one input. -/
def radixWalksWrong : ChangeSpec := { name := "radixWalks", fn := fun _ => fun
  | [d1, d2, d3] => { results := [.lit (.bool false)], args := [d1, d2, d3] }
  | _ => none }
def RadixWalksWrongFalsely : Prop := radixWalksRow.holds Tryd.pinned (OpenSpec.ofChange radixWalksWrong)

/-- 'polderlaw07.RadixLoads': WHATEVER THE INPUT: true; the input reads as it did. -/
def radixLoadsSpec : ChangeSpec := { name := "radixLoads", fn := fun _ => fun
  | [d] => { results := [.lit (.bool true)], args := [d] }
  | _ => none }
def radixLoadsRow : OpenClaim := { program := "ytfmclbacoffdaaadoor", sum := "8eb222abe11de7ab353bb3cde6c6cc84884cf3580f92a36a5ee94d1c8f2bb475", func := "polder/polderlaw07.RadixLoads", spec := "radixLoads", named := ["math/bits.deBruijn64tab"], apart := false, laid := [("math/bits.deBruijn64tab", laid_math_bits_deBruijn64tab)] }
def RadixLoadsSaid : Prop := radixLoadsRow.holds Tryd.pinned (OpenSpec.ofChange radixLoadsSpec)

/-- ITS FALSE NEIGHBOUR: 'it returns false'. Refute it at one input. -/
def radixLoadsWrong : ChangeSpec := { name := "radixLoads", fn := fun _ => fun
  | [d] => { results := [.lit (.bool false)], args := [d] }
  | _ => none }
def RadixLoadsWrongFalsely : Prop := radixLoadsRow.holds Tryd.pinned (OpenSpec.ofChange radixLoadsWrong)

/-- 'polderlaw07.RadixPlays': WHATEVER THE INPUT: true; the input reads as it did. -/
def radixPlaysSpec : ChangeSpec := { name := "radixPlays", fn := fun _ => fun
  | [d1, d2] => { results := [.lit (.bool true)], args := [d1, d2] }
  | _ => none }
def radixPlaysRow : OpenClaim := { program := "ytfmclbacoffdaaadoor", sum := "8eb222abe11de7ab353bb3cde6c6cc84884cf3580f92a36a5ee94d1c8f2bb475", func := "polder/polderlaw07.RadixPlays", spec := "radixPlays", unfollowed := true, recurses := true, named := ["math/bits.deBruijn64tab"], apart := false, laid := [("math/bits.deBruijn64tab", laid_math_bits_deBruijn64tab)] }
def RadixPlaysSaid : Prop := radixPlaysRow.holds Tryd.pinned (OpenSpec.ofChange radixPlaysSpec)

/-- ITS FALSE NEIGHBOUR: 'it returns false'. Refute it at one input. -/
def radixPlaysWrong : ChangeSpec := { name := "radixPlays", fn := fun _ => fun
  | [d1, d2] => { results := [.lit (.bool false)], args := [d1, d2] }
  | _ => none }
def RadixPlaysWrongFalsely : Prop := radixPlaysRow.holds Tryd.pinned (OpenSpec.ofChange radixPlaysWrong)

/-- 'polderlaw07.RadixKnown': WHATEVER THE INPUT: true; the input reads as it did. -/
def radixKnownSpec : ChangeSpec := { name := "radixKnown", fn := fun _ => fun
  | [] => { results := [.lit (.bool true)], args := [] }
  | _ => none }
def radixKnownRow : OpenClaim := { program := "ytfmclbacoffdaaadoor", sum := "8eb222abe11de7ab353bb3cde6c6cc84884cf3580f92a36a5ee94d1c8f2bb475", func := "polder/polderlaw07.RadixKnown", spec := "radixKnown", unfollowed := true, recurses := true, named := ["math/bits.deBruijn64tab"], apart := false, laid := [("math/bits.deBruijn64tab", laid_math_bits_deBruijn64tab)] }
def RadixKnownSaid : Prop := radixKnownRow.holds Tryd.pinned (OpenSpec.ofChange radixKnownSpec)

/-- ITS FALSE NEIGHBOUR: 'it returns false'. Refute it at one input. -/
def radixKnownWrong : ChangeSpec := { name := "radixKnown", fn := fun _ => fun
  | [] => { results := [.lit (.bool false)], args := [] }
  | _ => none }
def RadixKnownWrongFalsely : Prop := radixKnownRow.holds Tryd.pinned (OpenSpec.ofChange radixKnownWrong)

/-- 'polderlaw07.RadixFull': WHATEVER THE INPUT: true; the input reads as it did. -/
def radixFullSpec : ChangeSpec := { name := "radixFull", fn := fun _ => fun
  | [d1, d2, d3] => { results := [.lit (.bool true)], args := [d1, d2, d3] }
  | _ => none }
def radixFullRow : OpenClaim := { program := "ytfmclbacoffdaaadoor", sum := "8eb222abe11de7ab353bb3cde6c6cc84884cf3580f92a36a5ee94d1c8f2bb475", func := "polder/polderlaw07.RadixFull", spec := "radixFull", named := ["math/bits.deBruijn64tab"], apart := false, laid := [("math/bits.deBruijn64tab", laid_math_bits_deBruijn64tab)] }
def RadixFullSaid : Prop := radixFullRow.holds Tryd.pinned (OpenSpec.ofChange radixFullSpec)

/-- ITS FALSE NEIGHBOUR: 'it returns false'. Refute it at one input. -/
def radixFullWrong : ChangeSpec := { name := "radixFull", fn := fun _ => fun
  | [d1, d2, d3] => { results := [.lit (.bool false)], args := [d1, d2, d3] }
  | _ => none }
def RadixFullWrongFalsely : Prop := radixFullRow.holds Tryd.pinned (OpenSpec.ofChange radixFullWrong)

/-- 'polderlaw07.RadixPages': WHATEVER THE INPUT: true; the input reads as it did. -/
def radixPagesSpec : ChangeSpec := { name := "radixPages", fn := fun _ => fun
  | [d1, d2, d3] => { results := [.lit (.bool true)], args := [d1, d2, d3] }
  | _ => none }
def radixPagesRow : OpenClaim := { program := "ytfmclbacoffdaaadoor", sum := "8eb222abe11de7ab353bb3cde6c6cc84884cf3580f92a36a5ee94d1c8f2bb475", func := "polder/polderlaw07.RadixPages", spec := "radixPages", named := ["math/bits.deBruijn64tab"], apart := false, laid := [("math/bits.deBruijn64tab", laid_math_bits_deBruijn64tab)] }
def RadixPagesSaid : Prop := radixPagesRow.holds Tryd.pinned (OpenSpec.ofChange radixPagesSpec)

/-- ITS FALSE NEIGHBOUR: 'it returns false'. Refute it at one input. -/
def radixPagesWrong : ChangeSpec := { name := "radixPages", fn := fun _ => fun
  | [d1, d2, d3] => { results := [.lit (.bool false)], args := [d1, d2, d3] }
  | _ => none }
def RadixPagesWrongFalsely : Prop := radixPagesRow.holds Tryd.pinned (OpenSpec.ofChange radixPagesWrong)

/-- 'polderlaw07.RadixBroken': WHATEVER THE INPUT: true; the input reads as it did. -/
def radixBrokenSpec : ChangeSpec := { name := "radixBroken", fn := fun _ => fun
  | [d1, d2, d3] => { results := [.lit (.bool true)], args := [d1, d2, d3] }
  | _ => none }
def radixBrokenRow : OpenClaim := { program := "ytfmclbacoffdaaadoor", sum := "8eb222abe11de7ab353bb3cde6c6cc84884cf3580f92a36a5ee94d1c8f2bb475", func := "polder/polderlaw07.RadixBroken", spec := "radixBroken", named := ["math/bits.deBruijn64tab"], apart := false, laid := [("math/bits.deBruijn64tab", laid_math_bits_deBruijn64tab)] }
def RadixBrokenSaid : Prop := radixBrokenRow.holds Tryd.pinned (OpenSpec.ofChange radixBrokenSpec)

/-- ITS FALSE NEIGHBOUR: 'it returns false'. Refute it at one input. -/
def radixBrokenWrong : ChangeSpec := { name := "radixBroken", fn := fun _ => fun
  | [d1, d2, d3] => { results := [.lit (.bool false)], args := [d1, d2, d3] }
  | _ => none }
def RadixBrokenWrongFalsely : Prop := radixBrokenRow.holds Tryd.pinned (OpenSpec.ofChange radixBrokenWrong)

/- THE SECOND FORM. 'bulk': how many values and letters a reading holds, each counted each time it is reached (what is shared counts as often as it is met; a slice's spare places count too). A statement '..UptoSaid' is the law's where the arguments, and the package variables that the reading takes, are together of bulk at most 1048576: NARROWER than '..Said'. Prove '..Said' where nothing that the law and all that it calls make is longer than what came in: it says more and counts as full. Else prove '..UptoSaid'. A law counts once. -/
mutual
def uptoBulk {H : Type} : DataW H → Nat
  | .lit (.string bytes) => bytes.length + 1
  | .lit _ => 1
  | .nil => 1
  | .ptr d => uptoBulk d + 1
  | .slice elems spare => uptoBulkAll elems + uptoBulkAll spare + 1
  | .agg parts => uptoBulkAll parts + 1
  | .iface _ d => uptoBulk d + 1
  | .map entries => uptoBulkEntries entries + 1
  | .held _ => 1
def uptoBulkAll {H : Type} : List (DataW H) → Nat
  | [] => 0
  | d :: r => uptoBulk d + uptoBulkAll r
def uptoBulkEntries {H : Type} : List (Lit × DataW H) → Nat
  | [] => 0
  | x :: r => uptoBulkEntry x + uptoBulkEntries r
def uptoBulkEntry {H : Type} : Lit × DataW H → Nat
  | (.string bytes, d) => bytes.length + uptoBulk d + 1
  | (_, d) => uptoBulk d + 1
 end
def uptoSmall : (H : Type) → List (DataW H) → Bool := fun _ ds => decide (uptoBulkAll ds ≤ 1048576)
def OpenSpec.upto (s : _root_.Go.ChangeSpec) : _root_.Go.OpenSpec := { _root_.Go.OpenSpec.ofChange s with cond := some uptoSmall }

/-- 'polderlaw07.RadixPacks', WHERE WHAT IT READS IS OF BULK AT MOST 1048576: true; the input reads as it did. -/
def radixPacksUptoRow : OpenClaim := { program := "ytfmclbacoffdaaadoor", sum := "8eb222abe11de7ab353bb3cde6c6cc84884cf3580f92a36a5ee94d1c8f2bb475", func := "polder/polderlaw07.RadixPacks", spec := "radixPacks", named := ["math/bits.deBruijn64tab"], apart := false, laid := [("math/bits.deBruijn64tab", laid_math_bits_deBruijn64tab)], narrowed := true }
def RadixPacksUptoSaid : Prop := radixPacksUptoRow.holds Tryd.pinned (OpenSpec.upto radixPacksSpec)

/-- 'polderlaw07.RadixCounts', WHERE WHAT IT READS IS OF BULK AT MOST 1048576: true; the input reads as it did. -/
def radixCountsUptoRow : OpenClaim := { program := "ytfmclbacoffdaaadoor", sum := "8eb222abe11de7ab353bb3cde6c6cc84884cf3580f92a36a5ee94d1c8f2bb475", func := "polder/polderlaw07.RadixCounts", spec := "radixCounts", named := ["math/bits.deBruijn64tab"], apart := false, laid := [("math/bits.deBruijn64tab", laid_math_bits_deBruijn64tab)], narrowed := true }
def RadixCountsUptoSaid : Prop := radixCountsUptoRow.holds Tryd.pinned (OpenSpec.upto radixCountsSpec)

/-- 'polderlaw07.RadixEmpty', WHERE WHAT IT READS IS OF BULK AT MOST 1048576: true; the input reads as it did. -/
def radixEmptyUptoRow : OpenClaim := { program := "ytfmclbacoffdaaadoor", sum := "8eb222abe11de7ab353bb3cde6c6cc84884cf3580f92a36a5ee94d1c8f2bb475", func := "polder/polderlaw07.RadixEmpty", spec := "radixEmpty", named := ["math/bits.deBruijn64tab"], apart := false, laid := [("math/bits.deBruijn64tab", laid_math_bits_deBruijn64tab)], narrowed := true }
def RadixEmptyUptoSaid : Prop := radixEmptyUptoRow.holds Tryd.pinned (OpenSpec.upto radixEmptySpec)

/-- 'polderlaw07.RadixWalks', WHERE WHAT IT READS IS OF BULK AT MOST 1048576: true; the input reads as it did. -/
def radixWalksUptoRow : OpenClaim := { program := "ytfmclbacoffdaaadoor", sum := "8eb222abe11de7ab353bb3cde6c6cc84884cf3580f92a36a5ee94d1c8f2bb475", func := "polder/polderlaw07.RadixWalks", spec := "radixWalks", unfollowed := true, recurses := true, named := ["math/bits.deBruijn64tab"], apart := false, laid := [("math/bits.deBruijn64tab", laid_math_bits_deBruijn64tab)], narrowed := true }
def RadixWalksUptoSaid : Prop := radixWalksUptoRow.holds Tryd.pinned (OpenSpec.upto radixWalksSpec)

/-- 'polderlaw07.RadixLoads', WHERE WHAT IT READS IS OF BULK AT MOST 1048576: true; the input reads as it did. -/
def radixLoadsUptoRow : OpenClaim := { program := "ytfmclbacoffdaaadoor", sum := "8eb222abe11de7ab353bb3cde6c6cc84884cf3580f92a36a5ee94d1c8f2bb475", func := "polder/polderlaw07.RadixLoads", spec := "radixLoads", named := ["math/bits.deBruijn64tab"], apart := false, laid := [("math/bits.deBruijn64tab", laid_math_bits_deBruijn64tab)], narrowed := true }
def RadixLoadsUptoSaid : Prop := radixLoadsUptoRow.holds Tryd.pinned (OpenSpec.upto radixLoadsSpec)

/-- 'polderlaw07.RadixPlays', WHERE WHAT IT READS IS OF BULK AT MOST 1048576: true; the input reads as it did. -/
def radixPlaysUptoRow : OpenClaim := { program := "ytfmclbacoffdaaadoor", sum := "8eb222abe11de7ab353bb3cde6c6cc84884cf3580f92a36a5ee94d1c8f2bb475", func := "polder/polderlaw07.RadixPlays", spec := "radixPlays", unfollowed := true, recurses := true, named := ["math/bits.deBruijn64tab"], apart := false, laid := [("math/bits.deBruijn64tab", laid_math_bits_deBruijn64tab)], narrowed := true }
def RadixPlaysUptoSaid : Prop := radixPlaysUptoRow.holds Tryd.pinned (OpenSpec.upto radixPlaysSpec)

/-- 'polderlaw07.RadixKnown', WHERE WHAT IT READS IS OF BULK AT MOST 1048576: true; the input reads as it did. -/
def radixKnownUptoRow : OpenClaim := { program := "ytfmclbacoffdaaadoor", sum := "8eb222abe11de7ab353bb3cde6c6cc84884cf3580f92a36a5ee94d1c8f2bb475", func := "polder/polderlaw07.RadixKnown", spec := "radixKnown", unfollowed := true, recurses := true, named := ["math/bits.deBruijn64tab"], apart := false, laid := [("math/bits.deBruijn64tab", laid_math_bits_deBruijn64tab)], narrowed := true }
def RadixKnownUptoSaid : Prop := radixKnownUptoRow.holds Tryd.pinned (OpenSpec.upto radixKnownSpec)

/-- 'polderlaw07.RadixFull', WHERE WHAT IT READS IS OF BULK AT MOST 1048576: true; the input reads as it did. -/
def radixFullUptoRow : OpenClaim := { program := "ytfmclbacoffdaaadoor", sum := "8eb222abe11de7ab353bb3cde6c6cc84884cf3580f92a36a5ee94d1c8f2bb475", func := "polder/polderlaw07.RadixFull", spec := "radixFull", named := ["math/bits.deBruijn64tab"], apart := false, laid := [("math/bits.deBruijn64tab", laid_math_bits_deBruijn64tab)], narrowed := true }
def RadixFullUptoSaid : Prop := radixFullUptoRow.holds Tryd.pinned (OpenSpec.upto radixFullSpec)

/-- 'polderlaw07.RadixPages', WHERE WHAT IT READS IS OF BULK AT MOST 1048576: true; the input reads as it did. -/
def radixPagesUptoRow : OpenClaim := { program := "ytfmclbacoffdaaadoor", sum := "8eb222abe11de7ab353bb3cde6c6cc84884cf3580f92a36a5ee94d1c8f2bb475", func := "polder/polderlaw07.RadixPages", spec := "radixPages", named := ["math/bits.deBruijn64tab"], apart := false, laid := [("math/bits.deBruijn64tab", laid_math_bits_deBruijn64tab)], narrowed := true }
def RadixPagesUptoSaid : Prop := radixPagesUptoRow.holds Tryd.pinned (OpenSpec.upto radixPagesSpec)

/-- 'polderlaw07.RadixBroken', WHERE WHAT IT READS IS OF BULK AT MOST 1048576: true; the input reads as it did. -/
def radixBrokenUptoRow : OpenClaim := { program := "ytfmclbacoffdaaadoor", sum := "8eb222abe11de7ab353bb3cde6c6cc84884cf3580f92a36a5ee94d1c8f2bb475", func := "polder/polderlaw07.RadixBroken", spec := "radixBroken", named := ["math/bits.deBruijn64tab"], apart := false, laid := [("math/bits.deBruijn64tab", laid_math_bits_deBruijn64tab)], narrowed := true }
def RadixBrokenUptoSaid : Prop := radixBrokenUptoRow.holds Tryd.pinned (OpenSpec.upto radixBrokenSpec)

end Rows
end Go.Proofs.YtfmclbacoffdaaaDoor
