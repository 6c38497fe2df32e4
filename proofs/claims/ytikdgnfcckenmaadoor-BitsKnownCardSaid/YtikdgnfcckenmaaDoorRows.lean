/-
  NARROWER THAN 'FOR EVERY INPUT', by the rows' own cells (each row's printed sentence says how): BitsFits: laid · BitsSearch: laid · BitsRuns: laid · BitsTurns: laid · BitsFinds: laid · BitsSelects: laid · BitsBasics: laid · BitsJoins: laid · BitsMorgan: laid · BitsKnown: laid.
  DERIVED. THE GIVEN ROWS OF THIS SEAT. 10 by the template 'for every input the law returns true; each argument reads behind the call as it read before'; 0 by the template 'total and deterministic' (their statements: YtikdgnfcckenmaaDoorTotals.lean).
  GIVEN WITH THE SEED: the statements are not yours to turn. If you find one false, say at which input.
  Laid BY PROGRAM, IN A SANDBOX (cutbox-rows.mjs): the forced cells as the released guide's own fill.sh prints them over the translation 3496fd41ccf1b316… (all of the seat's roots in one cut). By AI agents, Wed Nov 11 2026. No macro, syntax, notation, axiom, sorry.
-/
import Derived.Test.YtikdgnfcckenmaaDoorChecked
import GoSem.Claim
import GoSem.ClaimJoined
import GoSem.ClaimMapViews
import Derived.JoinedTies
import Derived.KernelRfl
namespace Go.Proofs.YtikdgnfcckenmaaDoor
/- THE CELL 'sum', in the pinned program and in every row, IS THE sha256 OF THE DUMP (.gsa) THAT YtikdgnfcckenmaaDoorProg.lean LOADS. Nothing in Lean hashes anything: it is a label: what it is worth is what the hold of that sum in a sandbox is worth. -/
noncomputable def Tryd.pinned : Pinned := { name := "ytikdgnfcckenmaadoor", sum := "3496fd41ccf1b31646fe0a5eac75571340c9b5e46d38bb367cd5997a512bbb9d", checked := Tryd.checked }
namespace Rows
def none {H : Type} : Left H := { results := [], args := [] }

/- WHAT THE LISTED PACKAGE-LEVEL VARIABLES READ AS WHEN THE CALL BEGINS. Each datum BY PROGRAM (the guide's laid-datum.mjs) off the statement by which the dump's own 'gosem.cut.vars' lays the variable. In a bare row this is a premise. The card (YtikdgnfcckenmaaDoorCards.lean) ties it to the program's text. -/
def laid_math_bits_deBruijn64tab {H : Type} : DataW H := .agg [.lit (.int .u8 0), .lit (.int .u8 1), .lit (.int .u8 56), .lit (.int .u8 2), .lit (.int .u8 57), .lit (.int .u8 49), .lit (.int .u8 28), .lit (.int .u8 3), .lit (.int .u8 61), .lit (.int .u8 58), .lit (.int .u8 42), .lit (.int .u8 50), .lit (.int .u8 38), .lit (.int .u8 29), .lit (.int .u8 17), .lit (.int .u8 4), .lit (.int .u8 62), .lit (.int .u8 47), .lit (.int .u8 59), .lit (.int .u8 36), .lit (.int .u8 45), .lit (.int .u8 43), .lit (.int .u8 51), .lit (.int .u8 22), .lit (.int .u8 53), .lit (.int .u8 39), .lit (.int .u8 33), .lit (.int .u8 30), .lit (.int .u8 24), .lit (.int .u8 18), .lit (.int .u8 12), .lit (.int .u8 5), .lit (.int .u8 63), .lit (.int .u8 55), .lit (.int .u8 48), .lit (.int .u8 27), .lit (.int .u8 60), .lit (.int .u8 41), .lit (.int .u8 37), .lit (.int .u8 16), .lit (.int .u8 46), .lit (.int .u8 35), .lit (.int .u8 44), .lit (.int .u8 21), .lit (.int .u8 52), .lit (.int .u8 32), .lit (.int .u8 23), .lit (.int .u8 11), .lit (.int .u8 54), .lit (.int .u8 26), .lit (.int .u8 40), .lit (.int .u8 15), .lit (.int .u8 34), .lit (.int .u8 20), .lit (.int .u8 31), .lit (.int .u8 10), .lit (.int .u8 25), .lit (.int .u8 14), .lit (.int .u8 19), .lit (.int .u8 9), .lit (.int .u8 13), .lit (.int .u8 8), .lit (.int .u8 7), .lit (.int .u8 6)]

/-- 'polderlaw02.BitsFits': WHATEVER THE INPUT: true; the input reads as it did. -/
def bitsFitsSpec : ChangeSpec := { name := "bitsFits", fn := fun _ => fun
  | [d1, d2, d3] => { results := [.lit (.bool true)], args := [d1, d2, d3] }
  | _ => none }
def bitsFitsRow : OpenClaim := { program := "ytikdgnfcckenmaadoor", sum := "3496fd41ccf1b31646fe0a5eac75571340c9b5e46d38bb367cd5997a512bbb9d", func := "polder/polderlaw02.BitsFits", spec := "bitsFits", unfollowed := true, recurses := true, named := ["math/bits.deBruijn64tab"], apart := false, laid := [("math/bits.deBruijn64tab", laid_math_bits_deBruijn64tab)] }
def BitsFitsSaid : Prop := bitsFitsRow.holds Tryd.pinned (OpenSpec.ofChange bitsFitsSpec)

/-- ITS FALSE NEIGHBOUR: 'it returns false'. Refute it at one input. -/
def bitsFitsWrong : ChangeSpec := { name := "bitsFits", fn := fun _ => fun
  | [d1, d2, d3] => { results := [.lit (.bool false)], args := [d1, d2, d3] }
  | _ => none }
def BitsFitsWrongFalsely : Prop := bitsFitsRow.holds Tryd.pinned (OpenSpec.ofChange bitsFitsWrong)

/-- 'polderlaw02.BitsSearch': WHATEVER THE INPUT: true; the input reads as it did. -/
def bitsSearchSpec : ChangeSpec := { name := "bitsSearch", fn := fun _ => fun
  | [d1, d2, d3] => { results := [.lit (.bool true)], args := [d1, d2, d3] }
  | _ => none }
def bitsSearchRow : OpenClaim := { program := "ytikdgnfcckenmaadoor", sum := "3496fd41ccf1b31646fe0a5eac75571340c9b5e46d38bb367cd5997a512bbb9d", func := "polder/polderlaw02.BitsSearch", spec := "bitsSearch", unfollowed := true, recurses := true, named := ["math/bits.deBruijn64tab"], apart := false, laid := [("math/bits.deBruijn64tab", laid_math_bits_deBruijn64tab)] }
def BitsSearchSaid : Prop := bitsSearchRow.holds Tryd.pinned (OpenSpec.ofChange bitsSearchSpec)

/-- ITS FALSE NEIGHBOUR: 'it returns false'. Refute it at one input. -/
def bitsSearchWrong : ChangeSpec := { name := "bitsSearch", fn := fun _ => fun
  | [d1, d2, d3] => { results := [.lit (.bool false)], args := [d1, d2, d3] }
  | _ => none }
def BitsSearchWrongFalsely : Prop := bitsSearchRow.holds Tryd.pinned (OpenSpec.ofChange bitsSearchWrong)

/-- 'polderlaw02.BitsRuns': WHATEVER THE INPUT: true; the input reads as it did. -/
def bitsRunsSpec : ChangeSpec := { name := "bitsRuns", fn := fun _ => fun
  | [d1, d2] => { results := [.lit (.bool true)], args := [d1, d2] }
  | _ => none }
def bitsRunsRow : OpenClaim := { program := "ytikdgnfcckenmaadoor", sum := "3496fd41ccf1b31646fe0a5eac75571340c9b5e46d38bb367cd5997a512bbb9d", func := "polder/polderlaw02.BitsRuns", spec := "bitsRuns", unfollowed := true, recurses := true, named := ["math/bits.deBruijn64tab"], apart := false, laid := [("math/bits.deBruijn64tab", laid_math_bits_deBruijn64tab)] }
def BitsRunsSaid : Prop := bitsRunsRow.holds Tryd.pinned (OpenSpec.ofChange bitsRunsSpec)

/-- ITS FALSE NEIGHBOUR: 'it returns false'. Refute it at one input. -/
def bitsRunsWrong : ChangeSpec := { name := "bitsRuns", fn := fun _ => fun
  | [d1, d2] => { results := [.lit (.bool false)], args := [d1, d2] }
  | _ => none }
def BitsRunsWrongFalsely : Prop := bitsRunsRow.holds Tryd.pinned (OpenSpec.ofChange bitsRunsWrong)

/-- 'polderlaw02.BitsTurns': WHATEVER THE INPUT: true; the input reads as it did. -/
def bitsTurnsSpec : ChangeSpec := { name := "bitsTurns", fn := fun _ => fun
  | [d] => { results := [.lit (.bool true)], args := [d] }
  | _ => none }
def bitsTurnsRow : OpenClaim := { program := "ytikdgnfcckenmaadoor", sum := "3496fd41ccf1b31646fe0a5eac75571340c9b5e46d38bb367cd5997a512bbb9d", func := "polder/polderlaw02.BitsTurns", spec := "bitsTurns", unfollowed := true, recurses := true, named := ["math/bits.deBruijn64tab"], apart := false, laid := [("math/bits.deBruijn64tab", laid_math_bits_deBruijn64tab)] }
def BitsTurnsSaid : Prop := bitsTurnsRow.holds Tryd.pinned (OpenSpec.ofChange bitsTurnsSpec)

/-- ITS FALSE NEIGHBOUR: 'it returns false'. Refute it at one input. -/
def bitsTurnsWrong : ChangeSpec := { name := "bitsTurns", fn := fun _ => fun
  | [d] => { results := [.lit (.bool false)], args := [d] }
  | _ => none }
def BitsTurnsWrongFalsely : Prop := bitsTurnsRow.holds Tryd.pinned (OpenSpec.ofChange bitsTurnsWrong)

/-- 'polderlaw02.BitsFinds': WHATEVER THE INPUT: true; the input reads as it did. -/
def bitsFindsSpec : ChangeSpec := { name := "bitsFinds", fn := fun _ => fun
  | [d1, d2, d3] => { results := [.lit (.bool true)], args := [d1, d2, d3] }
  | _ => none }
def bitsFindsRow : OpenClaim := { program := "ytikdgnfcckenmaadoor", sum := "3496fd41ccf1b31646fe0a5eac75571340c9b5e46d38bb367cd5997a512bbb9d", func := "polder/polderlaw02.BitsFinds", spec := "bitsFinds", unfollowed := true, recurses := true, named := ["math/bits.deBruijn64tab"], apart := false, laid := [("math/bits.deBruijn64tab", laid_math_bits_deBruijn64tab)] }
def BitsFindsSaid : Prop := bitsFindsRow.holds Tryd.pinned (OpenSpec.ofChange bitsFindsSpec)

/-- ITS FALSE NEIGHBOUR: 'it returns false'. Refute it at one input. -/
def bitsFindsWrong : ChangeSpec := { name := "bitsFinds", fn := fun _ => fun
  | [d1, d2, d3] => { results := [.lit (.bool false)], args := [d1, d2, d3] }
  | _ => none }
def BitsFindsWrongFalsely : Prop := bitsFindsRow.holds Tryd.pinned (OpenSpec.ofChange bitsFindsWrong)

/-- 'polderlaw02.BitsSelects': WHATEVER THE INPUT: true; the input reads as it did. -/
def bitsSelectsSpec : ChangeSpec := { name := "bitsSelects", fn := fun _ => fun
  | [d1, d2, d3] => { results := [.lit (.bool true)], args := [d1, d2, d3] }
  | _ => none }
def bitsSelectsRow : OpenClaim := { program := "ytikdgnfcckenmaadoor", sum := "3496fd41ccf1b31646fe0a5eac75571340c9b5e46d38bb367cd5997a512bbb9d", func := "polder/polderlaw02.BitsSelects", spec := "bitsSelects", unfollowed := true, recurses := true, named := ["math/bits.deBruijn64tab"], apart := false, laid := [("math/bits.deBruijn64tab", laid_math_bits_deBruijn64tab)] }
def BitsSelectsSaid : Prop := bitsSelectsRow.holds Tryd.pinned (OpenSpec.ofChange bitsSelectsSpec)

/-- ITS FALSE NEIGHBOUR: 'it returns false'. Refute it at one input. -/
def bitsSelectsWrong : ChangeSpec := { name := "bitsSelects", fn := fun _ => fun
  | [d1, d2, d3] => { results := [.lit (.bool false)], args := [d1, d2, d3] }
  | _ => none }
def BitsSelectsWrongFalsely : Prop := bitsSelectsRow.holds Tryd.pinned (OpenSpec.ofChange bitsSelectsWrong)

/-- 'polderlaw02.BitsBasics': WHATEVER THE INPUT: true; the input reads as it did. -/
def bitsBasicsSpec : ChangeSpec := { name := "bitsBasics", fn := fun _ => fun
  | [d1, d2, d3] => { results := [.lit (.bool true)], args := [d1, d2, d3] }
  | _ => none }
def bitsBasicsRow : OpenClaim := { program := "ytikdgnfcckenmaadoor", sum := "3496fd41ccf1b31646fe0a5eac75571340c9b5e46d38bb367cd5997a512bbb9d", func := "polder/polderlaw02.BitsBasics", spec := "bitsBasics", unfollowed := true, recurses := true, named := ["math/bits.deBruijn64tab"], apart := false, laid := [("math/bits.deBruijn64tab", laid_math_bits_deBruijn64tab)] }
def BitsBasicsSaid : Prop := bitsBasicsRow.holds Tryd.pinned (OpenSpec.ofChange bitsBasicsSpec)

/-- ITS FALSE NEIGHBOUR: 'it returns false'. Refute it at one input. -/
def bitsBasicsWrong : ChangeSpec := { name := "bitsBasics", fn := fun _ => fun
  | [d1, d2, d3] => { results := [.lit (.bool false)], args := [d1, d2, d3] }
  | _ => none }
def BitsBasicsWrongFalsely : Prop := bitsBasicsRow.holds Tryd.pinned (OpenSpec.ofChange bitsBasicsWrong)

/-- 'polderlaw02.BitsJoins': WHATEVER THE INPUT: true; the input reads as it did. -/
def bitsJoinsSpec : ChangeSpec := { name := "bitsJoins", fn := fun _ => fun
  | [d1, d2] => { results := [.lit (.bool true)], args := [d1, d2] }
  | _ => none }
def bitsJoinsRow : OpenClaim := { program := "ytikdgnfcckenmaadoor", sum := "3496fd41ccf1b31646fe0a5eac75571340c9b5e46d38bb367cd5997a512bbb9d", func := "polder/polderlaw02.BitsJoins", spec := "bitsJoins", unfollowed := true, recurses := true, named := ["math/bits.deBruijn64tab"], apart := false, laid := [("math/bits.deBruijn64tab", laid_math_bits_deBruijn64tab)] }
def BitsJoinsSaid : Prop := bitsJoinsRow.holds Tryd.pinned (OpenSpec.ofChange bitsJoinsSpec)

/-- ITS FALSE NEIGHBOUR: 'it returns false'. Refute it at one input. -/
def bitsJoinsWrong : ChangeSpec := { name := "bitsJoins", fn := fun _ => fun
  | [d1, d2] => { results := [.lit (.bool false)], args := [d1, d2] }
  | _ => none }
def BitsJoinsWrongFalsely : Prop := bitsJoinsRow.holds Tryd.pinned (OpenSpec.ofChange bitsJoinsWrong)

/-- 'polderlaw02.BitsMorgan': WHATEVER THE INPUT: true; the input reads as it did. -/
def bitsMorganSpec : ChangeSpec := { name := "bitsMorgan", fn := fun _ => fun
  | [d1, d2, d3] => { results := [.lit (.bool true)], args := [d1, d2, d3] }
  | _ => none }
def bitsMorganRow : OpenClaim := { program := "ytikdgnfcckenmaadoor", sum := "3496fd41ccf1b31646fe0a5eac75571340c9b5e46d38bb367cd5997a512bbb9d", func := "polder/polderlaw02.BitsMorgan", spec := "bitsMorgan", unfollowed := true, recurses := true, named := ["math/bits.deBruijn64tab"], apart := false, laid := [("math/bits.deBruijn64tab", laid_math_bits_deBruijn64tab)] }
def BitsMorganSaid : Prop := bitsMorganRow.holds Tryd.pinned (OpenSpec.ofChange bitsMorganSpec)

/-- ITS FALSE NEIGHBOUR: 'it returns false'. Refute it at one input. -/
def bitsMorganWrong : ChangeSpec := { name := "bitsMorgan", fn := fun _ => fun
  | [d1, d2, d3] => { results := [.lit (.bool false)], args := [d1, d2, d3] }
  | _ => none }
def BitsMorganWrongFalsely : Prop := bitsMorganRow.holds Tryd.pinned (OpenSpec.ofChange bitsMorganWrong)

/-- 'polderlaw02.BitsKnown': WHATEVER THE INPUT: true; the input reads as it did. -/
def bitsKnownSpec : ChangeSpec := { name := "bitsKnown", fn := fun _ => fun
  | [] => { results := [.lit (.bool true)], args := [] }
  | _ => none }
def bitsKnownRow : OpenClaim := { program := "ytikdgnfcckenmaadoor", sum := "3496fd41ccf1b31646fe0a5eac75571340c9b5e46d38bb367cd5997a512bbb9d", func := "polder/polderlaw02.BitsKnown", spec := "bitsKnown", unfollowed := true, recurses := true, named := ["math/bits.deBruijn64tab"], apart := false, laid := [("math/bits.deBruijn64tab", laid_math_bits_deBruijn64tab)] }
def BitsKnownSaid : Prop := bitsKnownRow.holds Tryd.pinned (OpenSpec.ofChange bitsKnownSpec)

/-- ITS FALSE NEIGHBOUR: 'it returns false'. Refute it at one input. -/
def bitsKnownWrong : ChangeSpec := { name := "bitsKnown", fn := fun _ => fun
  | [] => { results := [.lit (.bool false)], args := [] }
  | _ => none }
def BitsKnownWrongFalsely : Prop := bitsKnownRow.holds Tryd.pinned (OpenSpec.ofChange bitsKnownWrong)

/- THE SECOND FORM. 'bulk': how many values and letters a reading holds, each counted each time it is reached (what is shared counts as often as it is met; a slice's spare places count too). A statement '..UptoSaid' is the law's where the arguments, and the package variables that the reading takes, are together of bulk at most 1048576: NARROWER than '..Said'. Prove '..Said' where nothing that the law and all that it calls make is longer than what came in: it says more and counts as full. Else prove '..UptoSaid'. A law counts once. -/
mutual
def uptoBulk {H : Type} : DataW H → Nat
  | .lit (.string bytes) => bytes.length + 1
  | .lit _ => 1
  | .nil => 1
  | .ptr d => uptoBulk d + 1
  | .slice elems spare => uptoBulkAll elems + uptoBulkAll spare + 1
  | .agg parts => uptoBulkAll parts + 1
  | .iface _ d => uptoBulk d + 1
  | .map entries => uptoBulkEntries entries + 1
  | .held _ => 1
def uptoBulkAll {H : Type} : List (DataW H) → Nat
  | [] => 0
  | d :: r => uptoBulk d + uptoBulkAll r
def uptoBulkEntries {H : Type} : List (Lit × DataW H) → Nat
  | [] => 0
  | x :: r => uptoBulkEntry x + uptoBulkEntries r
def uptoBulkEntry {H : Type} : Lit × DataW H → Nat
  | (.string bytes, d) => bytes.length + uptoBulk d + 1
  | (_, d) => uptoBulk d + 1
 end
def uptoSmall : (H : Type) → List (DataW H) → Bool := fun _ ds => decide (uptoBulkAll ds ≤ 1048576)
def OpenSpec.upto (s : _root_.Go.ChangeSpec) : _root_.Go.OpenSpec := { _root_.Go.OpenSpec.ofChange s with cond := some uptoSmall }

/-- 'polderlaw02.BitsFits', WHERE WHAT IT READS IS OF BULK AT MOST 1048576: true; the input reads as it did. -/
def bitsFitsUptoRow : OpenClaim := { program := "ytikdgnfcckenmaadoor", sum := "3496fd41ccf1b31646fe0a5eac75571340c9b5e46d38bb367cd5997a512bbb9d", func := "polder/polderlaw02.BitsFits", spec := "bitsFits", unfollowed := true, recurses := true, named := ["math/bits.deBruijn64tab"], apart := false, laid := [("math/bits.deBruijn64tab", laid_math_bits_deBruijn64tab)], narrowed := true }
def BitsFitsUptoSaid : Prop := bitsFitsUptoRow.holds Tryd.pinned (OpenSpec.upto bitsFitsSpec)

/-- 'polderlaw02.BitsSearch', WHERE WHAT IT READS IS OF BULK AT MOST 1048576: true; the input reads as it did. -/
def bitsSearchUptoRow : OpenClaim := { program := "ytikdgnfcckenmaadoor", sum := "3496fd41ccf1b31646fe0a5eac75571340c9b5e46d38bb367cd5997a512bbb9d", func := "polder/polderlaw02.BitsSearch", spec := "bitsSearch", unfollowed := true, recurses := true, named := ["math/bits.deBruijn64tab"], apart := false, laid := [("math/bits.deBruijn64tab", laid_math_bits_deBruijn64tab)], narrowed := true }
def BitsSearchUptoSaid : Prop := bitsSearchUptoRow.holds Tryd.pinned (OpenSpec.upto bitsSearchSpec)

/-- 'polderlaw02.BitsRuns', WHERE WHAT IT READS IS OF BULK AT MOST 1048576: true; the input reads as it did. -/
def bitsRunsUptoRow : OpenClaim := { program := "ytikdgnfcckenmaadoor", sum := "3496fd41ccf1b31646fe0a5eac75571340c9b5e46d38bb367cd5997a512bbb9d", func := "polder/polderlaw02.BitsRuns", spec := "bitsRuns", unfollowed := true, recurses := true, named := ["math/bits.deBruijn64tab"], apart := false, laid := [("math/bits.deBruijn64tab", laid_math_bits_deBruijn64tab)], narrowed := true }
def BitsRunsUptoSaid : Prop := bitsRunsUptoRow.holds Tryd.pinned (OpenSpec.upto bitsRunsSpec)

/-- 'polderlaw02.BitsTurns', WHERE WHAT IT READS IS OF BULK AT MOST 1048576: true; the input reads as it did. -/
def bitsTurnsUptoRow : OpenClaim := { program := "ytikdgnfcckenmaadoor", sum := "3496fd41ccf1b31646fe0a5eac75571340c9b5e46d38bb367cd5997a512bbb9d", func := "polder/polderlaw02.BitsTurns", spec := "bitsTurns", unfollowed := true, recurses := true, named := ["math/bits.deBruijn64tab"], apart := false, laid := [("math/bits.deBruijn64tab", laid_math_bits_deBruijn64tab)], narrowed := true }
def BitsTurnsUptoSaid : Prop := bitsTurnsUptoRow.holds Tryd.pinned (OpenSpec.upto bitsTurnsSpec)

/-- 'polderlaw02.BitsFinds', WHERE WHAT IT READS IS OF BULK AT MOST 1048576: true; the input reads as it did. -/
def bitsFindsUptoRow : OpenClaim := { program := "ytikdgnfcckenmaadoor", sum := "3496fd41ccf1b31646fe0a5eac75571340c9b5e46d38bb367cd5997a512bbb9d", func := "polder/polderlaw02.BitsFinds", spec := "bitsFinds", unfollowed := true, recurses := true, named := ["math/bits.deBruijn64tab"], apart := false, laid := [("math/bits.deBruijn64tab", laid_math_bits_deBruijn64tab)], narrowed := true }
def BitsFindsUptoSaid : Prop := bitsFindsUptoRow.holds Tryd.pinned (OpenSpec.upto bitsFindsSpec)

/-- 'polderlaw02.BitsSelects', WHERE WHAT IT READS IS OF BULK AT MOST 1048576: true; the input reads as it did. -/
def bitsSelectsUptoRow : OpenClaim := { program := "ytikdgnfcckenmaadoor", sum := "3496fd41ccf1b31646fe0a5eac75571340c9b5e46d38bb367cd5997a512bbb9d", func := "polder/polderlaw02.BitsSelects", spec := "bitsSelects", unfollowed := true, recurses := true, named := ["math/bits.deBruijn64tab"], apart := false, laid := [("math/bits.deBruijn64tab", laid_math_bits_deBruijn64tab)], narrowed := true }
def BitsSelectsUptoSaid : Prop := bitsSelectsUptoRow.holds Tryd.pinned (OpenSpec.upto bitsSelectsSpec)

/-- 'polderlaw02.BitsBasics', WHERE WHAT IT READS IS OF BULK AT MOST 1048576: true; the input reads as it did. -/
def bitsBasicsUptoRow : OpenClaim := { program := "ytikdgnfcckenmaadoor", sum := "3496fd41ccf1b31646fe0a5eac75571340c9b5e46d38bb367cd5997a512bbb9d", func := "polder/polderlaw02.BitsBasics", spec := "bitsBasics", unfollowed := true, recurses := true, named := ["math/bits.deBruijn64tab"], apart := false, laid := [("math/bits.deBruijn64tab", laid_math_bits_deBruijn64tab)], narrowed := true }
def BitsBasicsUptoSaid : Prop := bitsBasicsUptoRow.holds Tryd.pinned (OpenSpec.upto bitsBasicsSpec)

/-- 'polderlaw02.BitsJoins', WHERE WHAT IT READS IS OF BULK AT MOST 1048576: true; the input reads as it did. -/
def bitsJoinsUptoRow : OpenClaim := { program := "ytikdgnfcckenmaadoor", sum := "3496fd41ccf1b31646fe0a5eac75571340c9b5e46d38bb367cd5997a512bbb9d", func := "polder/polderlaw02.BitsJoins", spec := "bitsJoins", unfollowed := true, recurses := true, named := ["math/bits.deBruijn64tab"], apart := false, laid := [("math/bits.deBruijn64tab", laid_math_bits_deBruijn64tab)], narrowed := true }
def BitsJoinsUptoSaid : Prop := bitsJoinsUptoRow.holds Tryd.pinned (OpenSpec.upto bitsJoinsSpec)

/-- 'polderlaw02.BitsMorgan', WHERE WHAT IT READS IS OF BULK AT MOST 1048576: true; the input reads as it did. -/
def bitsMorganUptoRow : OpenClaim := { program := "ytikdgnfcckenmaadoor", sum := "3496fd41ccf1b31646fe0a5eac75571340c9b5e46d38bb367cd5997a512bbb9d", func := "polder/polderlaw02.BitsMorgan", spec := "bitsMorgan", unfollowed := true, recurses := true, named := ["math/bits.deBruijn64tab"], apart := false, laid := [("math/bits.deBruijn64tab", laid_math_bits_deBruijn64tab)], narrowed := true }
def BitsMorganUptoSaid : Prop := bitsMorganUptoRow.holds Tryd.pinned (OpenSpec.upto bitsMorganSpec)

/-- 'polderlaw02.BitsKnown', WHERE WHAT IT READS IS OF BULK AT MOST 1048576: true; the input reads as it did. -/
def bitsKnownUptoRow : OpenClaim := { program := "ytikdgnfcckenmaadoor", sum := "3496fd41ccf1b31646fe0a5eac75571340c9b5e46d38bb367cd5997a512bbb9d", func := "polder/polderlaw02.BitsKnown", spec := "bitsKnown", unfollowed := true, recurses := true, named := ["math/bits.deBruijn64tab"], apart := false, laid := [("math/bits.deBruijn64tab", laid_math_bits_deBruijn64tab)], narrowed := true }
def BitsKnownUptoSaid : Prop := bitsKnownUptoRow.holds Tryd.pinned (OpenSpec.upto bitsKnownSpec)

end Rows
end Go.Proofs.YtikdgnfcckenmaaDoor
