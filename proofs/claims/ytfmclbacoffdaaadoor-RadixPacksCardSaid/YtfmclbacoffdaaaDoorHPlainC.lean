/- Handles: what Next finds. -/
import Derived.Test.YtfmclbacoffdaaaDoorHPlainB
namespace Go.Proofs.YtfmclbacoffdaaaDoor
open Go.RowKit Go.Sort Go.Joins

theorem nxt_congr {p q : Nat → Bool} {a n : Nat} (han : a ≤ n) (h : ∀ i, a ≤ i → i < n → p i = q i) : nxt p a n = nxt q a n := by
  obtain ⟨h1, h2, h3, h4⟩ := nxt_spec (p := q) han
  exact nxt_eq han h1 h2 (fun i hi hj => by rw [h i hi (by omega)]; exact h3 i hi hj) (fun hlt => by rw [h _ h1 hlt]; exact h4 hlt)
theorem next_tb {TBL SLOT : TypeId} {w : World} {B p q : Nat} {st : List Slt} {m : Nat} {r : Nat → Bool} (h : Tb TBL SLOT w B p q st m r) :
    nextV st.length (pack r ((st.length + 63) / 64)) 0 true = (if nxt r 0 st.length < st.length then ((nxt r 0 st.length : Nat) : Int) else 0) ∧
    nextE st.length (pack r ((st.length + 63) / 64)) 0 true = (if nxt r 0 st.length < st.length then 0 else 4) := by
  have e : nxt (look (pack r ((st.length + 63) / 64)) true) 0 st.length = nxt r 0 st.length := nxt_congr (Nat.zero_le _) fun i _ hi => by
    unfold look
    rw [pack_bat _ _ _ (by omega)]; simp
  have hp : prt st.length (pack r ((st.length + 63) / 64)) 0 0 = 0 := prt_ok h.chk0 (by omega)
  unfold nextV nextE
  simp only [Int.toNat_natCast, hp, Int.toNat_zero, e]
  simp
end Go.Proofs.YtfmclbacoffdaaaDoor
