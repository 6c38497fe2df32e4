/-
  NARROWER THAN 'FOR EVERY INPUT', by the rows' own cells (each row's printed sentence says how): RefusalsAsks: laid · RefusalsSame: laid · RefusalsRests: laid · RefusalsCounts: laid · RefusalsSteps: laid.
  DERIVED. THE GIVEN ROWS OF THIS SEAT. 5 by the template 'for every input the law returns true; each argument reads behind the call as it read before'; 0 by the template 'total and deterministic' (their statements: YtpjhedkloljpjaaDoorRRTotals.lean).
  GIVEN WITH THE SEED: the statements are not yours to turn. If you find one false, say at which input.
  Laid BY PROGRAM, IN A SANDBOX (cutbox-rows.mjs): the forced cells as the released guide's own fill.sh prints them over the translation f4f711bb97a6001b… (all of the seat's roots in one cut). By AI agents, Wed Nov 11 2026. No macro, syntax, notation, axiom, sorry.
-/
import Derived.Test.YtpjhedkloljpjaaDoorRRChecked
import GoSem.Claim
import GoSem.ClaimJoined
import GoSem.ClaimMapViews
import Derived.JoinedTies
import Derived.KernelRfl
namespace Go.Proofs.YtpjhedkloljpjaaDoorRR
/- THE CELL 'sum', in the pinned program and in every row, IS THE sha256 OF THE DUMP (.gsa) THAT YtpjhedkloljpjaaDoorRRProg.lean LOADS. Nothing in Lean hashes anything: it is a label: what it is worth is what the hold of that sum in a sandbox is worth. -/
noncomputable def Tryd.pinned : Pinned := { name := "ytpjhedkloljpjaadoorrr", sum := "f4f711bb97a6001bda04a6eff08e88e0ecae99b0ece73384bb4b06097bbce38e", checked := Tryd.checked }
namespace Rows
def none {H : Type} : Left H := { results := [], args := [] }

/- WHAT THE LISTED PACKAGE-LEVEL VARIABLES READ AS WHEN THE CALL BEGINS. Each datum BY PROGRAM (the guide's laid-datum.mjs) off the statement by which the dump's own 'gosem.cut.vars' lays the variable. In a bare row this is a premise. The card (YtpjhedkloljpjaaDoorRRCards.lean) ties it to the program's text. -/
def laid_math_bits_deBruijn32tab {H : Type} : DataW H := .agg [.lit (.int .u8 0), .lit (.int .u8 1), .lit (.int .u8 28), .lit (.int .u8 2), .lit (.int .u8 29), .lit (.int .u8 14), .lit (.int .u8 24), .lit (.int .u8 3), .lit (.int .u8 30), .lit (.int .u8 22), .lit (.int .u8 20), .lit (.int .u8 15), .lit (.int .u8 25), .lit (.int .u8 17), .lit (.int .u8 4), .lit (.int .u8 8), .lit (.int .u8 31), .lit (.int .u8 27), .lit (.int .u8 13), .lit (.int .u8 23), .lit (.int .u8 21), .lit (.int .u8 19), .lit (.int .u8 16), .lit (.int .u8 7), .lit (.int .u8 26), .lit (.int .u8 12), .lit (.int .u8 18), .lit (.int .u8 6), .lit (.int .u8 11), .lit (.int .u8 5), .lit (.int .u8 10), .lit (.int .u8 9)]
def laid_math_bits_deBruijn64tab {H : Type} : DataW H := .agg [.lit (.int .u8 0), .lit (.int .u8 1), .lit (.int .u8 56), .lit (.int .u8 2), .lit (.int .u8 57), .lit (.int .u8 49), .lit (.int .u8 28), .lit (.int .u8 3), .lit (.int .u8 61), .lit (.int .u8 58), .lit (.int .u8 42), .lit (.int .u8 50), .lit (.int .u8 38), .lit (.int .u8 29), .lit (.int .u8 17), .lit (.int .u8 4), .lit (.int .u8 62), .lit (.int .u8 47), .lit (.int .u8 59), .lit (.int .u8 36), .lit (.int .u8 45), .lit (.int .u8 43), .lit (.int .u8 51), .lit (.int .u8 22), .lit (.int .u8 53), .lit (.int .u8 39), .lit (.int .u8 33), .lit (.int .u8 30), .lit (.int .u8 24), .lit (.int .u8 18), .lit (.int .u8 12), .lit (.int .u8 5), .lit (.int .u8 63), .lit (.int .u8 55), .lit (.int .u8 48), .lit (.int .u8 27), .lit (.int .u8 60), .lit (.int .u8 41), .lit (.int .u8 37), .lit (.int .u8 16), .lit (.int .u8 46), .lit (.int .u8 35), .lit (.int .u8 44), .lit (.int .u8 21), .lit (.int .u8 52), .lit (.int .u8 32), .lit (.int .u8 23), .lit (.int .u8 11), .lit (.int .u8 54), .lit (.int .u8 26), .lit (.int .u8 40), .lit (.int .u8 15), .lit (.int .u8 34), .lit (.int .u8 20), .lit (.int .u8 31), .lit (.int .u8 10), .lit (.int .u8 25), .lit (.int .u8 14), .lit (.int .u8 19), .lit (.int .u8 9), .lit (.int .u8 13), .lit (.int .u8 8), .lit (.int .u8 7), .lit (.int .u8 6)]
def laid_internal_strconv_uint64pow10 {H : Type} : DataW H := .agg [.lit (.int .u64 1), .lit (.int .u64 10), .lit (.int .u64 100), .lit (.int .u64 1000), .lit (.int .u64 10000), .lit (.int .u64 100000), .lit (.int .u64 1000000), .lit (.int .u64 10000000), .lit (.int .u64 100000000), .lit (.int .u64 1000000000), .lit (.int .u64 10000000000), .lit (.int .u64 100000000000), .lit (.int .u64 1000000000000), .lit (.int .u64 10000000000000), .lit (.int .u64 100000000000000), .lit (.int .u64 1000000000000000), .lit (.int .u64 10000000000000000), .lit (.int .u64 100000000000000000), .lit (.int .u64 1000000000000000000), .lit (.int .u64 10000000000000000000)]
def laid_polder_refusals_names {H : Type} : DataW H := .agg [.lit (.string [114, 101, 115, 101, 114, 118, 101]), .lit (.string [114, 101, 108, 101, 97, 115, 101]), .lit (.string [99, 111, 109, 109, 105, 116]), .lit (.string [100, 101, 99, 111, 109, 109, 105, 116]), .lit (.string [112, 114, 111, 116, 101, 99, 116]), .lit (.string [106, 111, 105, 110]), .lit (.string [115, 112, 108, 105, 116])]

/-- 'polderlaw05.RefusalsAsks': WHATEVER THE INPUT: true; the input reads as it did. -/
def refusalsAsksSpec : ChangeSpec := { name := "refusalsAsks", fn := fun _ => fun
  | [d1, d2, d3] => { results := [.lit (.bool true)], args := [d1, d2, d3] }
  | _ => none }
def refusalsAsksRow : OpenClaim := { program := "ytpjhedkloljpjaadoorrr", sum := "f4f711bb97a6001bda04a6eff08e88e0ecae99b0ece73384bb4b06097bbce38e", func := "polder/polderlaw05.RefusalsAsks", spec := "refusalsAsks", inPlace := ["internal/abi.NoEscape"], unfollowed := true, recurses := true, named := ["polder/refusals.names", "internal/strconv.uint64pow10", "math/bits.deBruijn32tab", "math/bits.deBruijn64tab"], apart := false, laid := [("math/bits.deBruijn32tab", laid_math_bits_deBruijn32tab), ("math/bits.deBruijn64tab", laid_math_bits_deBruijn64tab), ("internal/strconv.uint64pow10", laid_internal_strconv_uint64pow10), ("polder/refusals.names", laid_polder_refusals_names)] }
def RefusalsAsksSaid : Prop := refusalsAsksRow.holds Tryd.pinned (OpenSpec.ofChange refusalsAsksSpec)

/-- ITS FALSE NEIGHBOUR: 'it returns false'. Refute it at one input. -/
def refusalsAsksWrong : ChangeSpec := { name := "refusalsAsks", fn := fun _ => fun
  | [d1, d2, d3] => { results := [.lit (.bool false)], args := [d1, d2, d3] }
  | _ => none }
def RefusalsAsksWrongFalsely : Prop := refusalsAsksRow.holds Tryd.pinned (OpenSpec.ofChange refusalsAsksWrong)

/-- 'polderlaw05.RefusalsSame': WHATEVER THE INPUT: true; the input reads as it did. -/
def refusalsSameSpec : ChangeSpec := { name := "refusalsSame", fn := fun _ => fun
  | [d1, d2] => { results := [.lit (.bool true)], args := [d1, d2] }
  | _ => none }
def refusalsSameRow : OpenClaim := { program := "ytpjhedkloljpjaadoorrr", sum := "f4f711bb97a6001bda04a6eff08e88e0ecae99b0ece73384bb4b06097bbce38e", func := "polder/polderlaw05.RefusalsSame", spec := "refusalsSame", inPlace := ["internal/abi.NoEscape"], unfollowed := true, recurses := true, named := ["polder/refusals.names", "internal/strconv.uint64pow10", "math/bits.deBruijn32tab", "math/bits.deBruijn64tab"], apart := false, laid := [("math/bits.deBruijn32tab", laid_math_bits_deBruijn32tab), ("math/bits.deBruijn64tab", laid_math_bits_deBruijn64tab), ("internal/strconv.uint64pow10", laid_internal_strconv_uint64pow10), ("polder/refusals.names", laid_polder_refusals_names)] }
def RefusalsSameSaid : Prop := refusalsSameRow.holds Tryd.pinned (OpenSpec.ofChange refusalsSameSpec)

/-- ITS FALSE NEIGHBOUR: 'it returns false'. Refute it at one input. -/
def refusalsSameWrong : ChangeSpec := { name := "refusalsSame", fn := fun _ => fun
  | [d1, d2] => { results := [.lit (.bool false)], args := [d1, d2] }
  | _ => none }
def RefusalsSameWrongFalsely : Prop := refusalsSameRow.holds Tryd.pinned (OpenSpec.ofChange refusalsSameWrong)

/-- 'polderlaw05.RefusalsRests': WHATEVER THE INPUT: true; the input reads as it did. -/
def refusalsRestsSpec : ChangeSpec := { name := "refusalsRests", fn := fun _ => fun
  | [d1, d2, d3] => { results := [.lit (.bool true)], args := [d1, d2, d3] }
  | _ => none }
def refusalsRestsRow : OpenClaim := { program := "ytpjhedkloljpjaadoorrr", sum := "f4f711bb97a6001bda04a6eff08e88e0ecae99b0ece73384bb4b06097bbce38e", func := "polder/polderlaw05.RefusalsRests", spec := "refusalsRests", inPlace := ["internal/abi.NoEscape"], unfollowed := true, recurses := true, named := ["polder/refusals.names", "internal/strconv.uint64pow10", "math/bits.deBruijn32tab", "math/bits.deBruijn64tab"], apart := false, laid := [("math/bits.deBruijn32tab", laid_math_bits_deBruijn32tab), ("math/bits.deBruijn64tab", laid_math_bits_deBruijn64tab), ("internal/strconv.uint64pow10", laid_internal_strconv_uint64pow10), ("polder/refusals.names", laid_polder_refusals_names)] }
def RefusalsRestsSaid : Prop := refusalsRestsRow.holds Tryd.pinned (OpenSpec.ofChange refusalsRestsSpec)

/-- ITS FALSE NEIGHBOUR: 'it returns false'. Refute it at one input. -/
def refusalsRestsWrong : ChangeSpec := { name := "refusalsRests", fn := fun _ => fun
  | [d1, d2, d3] => { results := [.lit (.bool false)], args := [d1, d2, d3] }
  | _ => none }
def RefusalsRestsWrongFalsely : Prop := refusalsRestsRow.holds Tryd.pinned (OpenSpec.ofChange refusalsRestsWrong)

/-- 'polderlaw05.RefusalsCounts': WHATEVER THE INPUT: true; the input reads as it did. -/
def refusalsCountsSpec : ChangeSpec := { name := "refusalsCounts", fn := fun _ => fun
  | [d1, d2] => { results := [.lit (.bool true)], args := [d1, d2] }
  | _ => none }
def refusalsCountsRow : OpenClaim := { program := "ytpjhedkloljpjaadoorrr", sum := "f4f711bb97a6001bda04a6eff08e88e0ecae99b0ece73384bb4b06097bbce38e", func := "polder/polderlaw05.RefusalsCounts", spec := "refusalsCounts", inPlace := ["internal/abi.NoEscape"], unfollowed := true, recurses := true, named := ["polder/refusals.names", "internal/strconv.uint64pow10", "math/bits.deBruijn32tab", "math/bits.deBruijn64tab"], apart := false, laid := [("math/bits.deBruijn32tab", laid_math_bits_deBruijn32tab), ("math/bits.deBruijn64tab", laid_math_bits_deBruijn64tab), ("internal/strconv.uint64pow10", laid_internal_strconv_uint64pow10), ("polder/refusals.names", laid_polder_refusals_names)] }
def RefusalsCountsSaid : Prop := refusalsCountsRow.holds Tryd.pinned (OpenSpec.ofChange refusalsCountsSpec)

/-- ITS FALSE NEIGHBOUR: 'it returns false'. Refute it at one input. -/
def refusalsCountsWrong : ChangeSpec := { name := "refusalsCounts", fn := fun _ => fun
  | [d1, d2] => { results := [.lit (.bool false)], args := [d1, d2] }
  | _ => none }
def RefusalsCountsWrongFalsely : Prop := refusalsCountsRow.holds Tryd.pinned (OpenSpec.ofChange refusalsCountsWrong)

/-- 'polderlaw05.RefusalsSteps': WHATEVER THE INPUT: true; the input reads as it did. -/
def refusalsStepsSpec : ChangeSpec := { name := "refusalsSteps", fn := fun _ => fun
  | [d1, d2] => { results := [.lit (.bool true)], args := [d1, d2] }
  | _ => none }
def refusalsStepsRow : OpenClaim := { program := "ytpjhedkloljpjaadoorrr", sum := "f4f711bb97a6001bda04a6eff08e88e0ecae99b0ece73384bb4b06097bbce38e", func := "polder/polderlaw05.RefusalsSteps", spec := "refusalsSteps", inPlace := ["internal/abi.NoEscape"], unfollowed := true, recurses := true, named := ["polder/refusals.names", "internal/strconv.uint64pow10", "math/bits.deBruijn32tab", "math/bits.deBruijn64tab"], apart := false, laid := [("math/bits.deBruijn32tab", laid_math_bits_deBruijn32tab), ("math/bits.deBruijn64tab", laid_math_bits_deBruijn64tab), ("internal/strconv.uint64pow10", laid_internal_strconv_uint64pow10), ("polder/refusals.names", laid_polder_refusals_names)] }
def RefusalsStepsSaid : Prop := refusalsStepsRow.holds Tryd.pinned (OpenSpec.ofChange refusalsStepsSpec)

/-- ITS FALSE NEIGHBOUR: 'it returns false'. Refute it at one input. -/
def refusalsStepsWrong : ChangeSpec := { name := "refusalsSteps", fn := fun _ => fun
  | [d1, d2] => { results := [.lit (.bool false)], args := [d1, d2] }
  | _ => none }
def RefusalsStepsWrongFalsely : Prop := refusalsStepsRow.holds Tryd.pinned (OpenSpec.ofChange refusalsStepsWrong)

/- THE SECOND FORM. 'bulk': how many values and letters a reading holds, each counted each time it is reached (what is shared counts as often as it is met; a slice's spare places count too). A statement '..UptoSaid' is the law's where the arguments, and the package variables that the reading takes, are together of bulk at most 1048576: NARROWER than '..Said'. Prove '..Said' where nothing that the law and all that it calls make is longer than what came in: it says more and counts as full. Else prove '..UptoSaid'. A law counts once. -/
mutual
def uptoBulk {H : Type} : DataW H → Nat
  | .lit (.string bytes) => bytes.length + 1
  | .lit _ => 1
  | .nil => 1
  | .ptr d => uptoBulk d + 1
  | .slice elems spare => uptoBulkAll elems + uptoBulkAll spare + 1
  | .agg parts => uptoBulkAll parts + 1
  | .iface _ d => uptoBulk d + 1
  | .map entries => uptoBulkEntries entries + 1
  | .held _ => 1
def uptoBulkAll {H : Type} : List (DataW H) → Nat
  | [] => 0
  | d :: r => uptoBulk d + uptoBulkAll r
def uptoBulkEntries {H : Type} : List (Lit × DataW H) → Nat
  | [] => 0
  | x :: r => uptoBulkEntry x + uptoBulkEntries r
def uptoBulkEntry {H : Type} : Lit × DataW H → Nat
  | (.string bytes, d) => bytes.length + uptoBulk d + 1
  | (_, d) => uptoBulk d + 1
 end
def uptoSmall : (H : Type) → List (DataW H) → Bool := fun _ ds => decide (uptoBulkAll ds ≤ 1048576)
def OpenSpec.upto (s : _root_.Go.ChangeSpec) : _root_.Go.OpenSpec := { _root_.Go.OpenSpec.ofChange s with cond := some uptoSmall }

/-- 'polderlaw05.RefusalsAsks', WHERE WHAT IT READS IS OF BULK AT MOST 1048576: true; the input reads as it did. -/
def refusalsAsksUptoRow : OpenClaim := { program := "ytpjhedkloljpjaadoorrr", sum := "f4f711bb97a6001bda04a6eff08e88e0ecae99b0ece73384bb4b06097bbce38e", func := "polder/polderlaw05.RefusalsAsks", spec := "refusalsAsks", inPlace := ["internal/abi.NoEscape"], unfollowed := true, recurses := true, named := ["polder/refusals.names", "internal/strconv.uint64pow10", "math/bits.deBruijn32tab", "math/bits.deBruijn64tab"], apart := false, laid := [("math/bits.deBruijn32tab", laid_math_bits_deBruijn32tab), ("math/bits.deBruijn64tab", laid_math_bits_deBruijn64tab), ("internal/strconv.uint64pow10", laid_internal_strconv_uint64pow10), ("polder/refusals.names", laid_polder_refusals_names)], narrowed := true }
def RefusalsAsksUptoSaid : Prop := refusalsAsksUptoRow.holds Tryd.pinned (OpenSpec.upto refusalsAsksSpec)

/-- 'polderlaw05.RefusalsSame', WHERE WHAT IT READS IS OF BULK AT MOST 1048576: true; the input reads as it did. -/
def refusalsSameUptoRow : OpenClaim := { program := "ytpjhedkloljpjaadoorrr", sum := "f4f711bb97a6001bda04a6eff08e88e0ecae99b0ece73384bb4b06097bbce38e", func := "polder/polderlaw05.RefusalsSame", spec := "refusalsSame", inPlace := ["internal/abi.NoEscape"], unfollowed := true, recurses := true, named := ["polder/refusals.names", "internal/strconv.uint64pow10", "math/bits.deBruijn32tab", "math/bits.deBruijn64tab"], apart := false, laid := [("math/bits.deBruijn32tab", laid_math_bits_deBruijn32tab), ("math/bits.deBruijn64tab", laid_math_bits_deBruijn64tab), ("internal/strconv.uint64pow10", laid_internal_strconv_uint64pow10), ("polder/refusals.names", laid_polder_refusals_names)], narrowed := true }
def RefusalsSameUptoSaid : Prop := refusalsSameUptoRow.holds Tryd.pinned (OpenSpec.upto refusalsSameSpec)

/-- 'polderlaw05.RefusalsRests', WHERE WHAT IT READS IS OF BULK AT MOST 1048576: true; the input reads as it did. -/
def refusalsRestsUptoRow : OpenClaim := { program := "ytpjhedkloljpjaadoorrr", sum := "f4f711bb97a6001bda04a6eff08e88e0ecae99b0ece73384bb4b06097bbce38e", func := "polder/polderlaw05.RefusalsRests", spec := "refusalsRests", inPlace := ["internal/abi.NoEscape"], unfollowed := true, recurses := true, named := ["polder/refusals.names", "internal/strconv.uint64pow10", "math/bits.deBruijn32tab", "math/bits.deBruijn64tab"], apart := false, laid := [("math/bits.deBruijn32tab", laid_math_bits_deBruijn32tab), ("math/bits.deBruijn64tab", laid_math_bits_deBruijn64tab), ("internal/strconv.uint64pow10", laid_internal_strconv_uint64pow10), ("polder/refusals.names", laid_polder_refusals_names)], narrowed := true }
def RefusalsRestsUptoSaid : Prop := refusalsRestsUptoRow.holds Tryd.pinned (OpenSpec.upto refusalsRestsSpec)

/-- 'polderlaw05.RefusalsCounts', WHERE WHAT IT READS IS OF BULK AT MOST 1048576: true; the input reads as it did. -/
def refusalsCountsUptoRow : OpenClaim := { program := "ytpjhedkloljpjaadoorrr", sum := "f4f711bb97a6001bda04a6eff08e88e0ecae99b0ece73384bb4b06097bbce38e", func := "polder/polderlaw05.RefusalsCounts", spec := "refusalsCounts", inPlace := ["internal/abi.NoEscape"], unfollowed := true, recurses := true, named := ["polder/refusals.names", "internal/strconv.uint64pow10", "math/bits.deBruijn32tab", "math/bits.deBruijn64tab"], apart := false, laid := [("math/bits.deBruijn32tab", laid_math_bits_deBruijn32tab), ("math/bits.deBruijn64tab", laid_math_bits_deBruijn64tab), ("internal/strconv.uint64pow10", laid_internal_strconv_uint64pow10), ("polder/refusals.names", laid_polder_refusals_names)], narrowed := true }
def RefusalsCountsUptoSaid : Prop := refusalsCountsUptoRow.holds Tryd.pinned (OpenSpec.upto refusalsCountsSpec)

/-- 'polderlaw05.RefusalsSteps', WHERE WHAT IT READS IS OF BULK AT MOST 1048576: true; the input reads as it did. -/
def refusalsStepsUptoRow : OpenClaim := { program := "ytpjhedkloljpjaadoorrr", sum := "f4f711bb97a6001bda04a6eff08e88e0ecae99b0ece73384bb4b06097bbce38e", func := "polder/polderlaw05.RefusalsSteps", spec := "refusalsSteps", inPlace := ["internal/abi.NoEscape"], unfollowed := true, recurses := true, named := ["polder/refusals.names", "internal/strconv.uint64pow10", "math/bits.deBruijn32tab", "math/bits.deBruijn64tab"], apart := false, laid := [("math/bits.deBruijn32tab", laid_math_bits_deBruijn32tab), ("math/bits.deBruijn64tab", laid_math_bits_deBruijn64tab), ("internal/strconv.uint64pow10", laid_internal_strconv_uint64pow10), ("polder/refusals.names", laid_polder_refusals_names)], narrowed := true }
def RefusalsStepsUptoSaid : Prop := refusalsStepsUptoRow.holds Tryd.pinned (OpenSpec.upto refusalsStepsSpec)

end Rows
end Go.Proofs.YtpjhedkloljpjaaDoorRR
