/- The radix map in memory: what Next finds. -/
import Derived.Test.YtfmclbacoffdaaaDoorR7Mem
import Derived.Test.YtfmclbacoffdaaaDoorR7Ops
import Derived.Test.YtfmclbacoffdaaaDoorHPlainC
namespace Go.Proofs.YtfmclbacoffdaaaDoor
section
open Go.RowKit Go.Sort Go.Joins
theorem next_tm {w : World} {B p q : Nat} {st : List Nd} {m : Nat} {r : Nat → Bool} (h : TM w B p q st m r) :
    nextV st.length (pack r ((st.length + 63) / 64)) 0 false = (if nxt (fun i => !r i) 0 st.length < st.length then ((nxt (fun i => !r i) 0 st.length : Nat) : Int) else 0) ∧
    nextE st.length (pack r ((st.length + 63) / 64)) 0 false = (if nxt (fun i => !r i) 0 st.length < st.length then 0 else 4) := by
  have e : nxt (look (pack r ((st.length + 63) / 64)) false) 0 st.length = nxt (fun i => !r i) 0 st.length := nxt_congr (Nat.zero_le _) fun i _ hi => by
    unfold look
    rw [pack_bat _ _ _ (by omega)]; simp
  have hp : prt st.length (pack r ((st.length + 63) / 64)) 0 0 = 0 := prt_ok h.chk0 (by omega)
  unfold nextV nextE
  simp only [Int.toNat_natCast, hp, Int.toNat_zero, e]
  simp
end
end Go.Proofs.YtfmclbacoffdaaaDoor
