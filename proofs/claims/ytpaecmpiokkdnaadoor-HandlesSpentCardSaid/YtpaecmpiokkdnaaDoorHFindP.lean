/- Handles: what find answers. -/
import Derived.Test.YtpaecmpiokkdnaaDoorHSlot
namespace Go.Proofs.YtpaecmpiokkdnaaDoor
open Go.RowKit Go.Sort Go.Joins

/-- the slot of a handle -/
def atH (st : List Slt) (h : Int) : Slt := st.getD (slotI h).toNat (0, false, undef)
def findE (st : List Slt) (h : Int) : Int :=
  if slotI h < 0 ∨ (st.length : Int) ≤ slotI h ∨ ((atH st h).1 : Int) < numI h then 4
  else if numI h < ((atH st h).1 : Int) ∨ (atH st h).2.1 = false then 160 else 0
def findP (q : Nat) (st : List Slt) (h : Int) : Option Addr := if findE st h = 0 then some ⟨q, (slotI h).toNat * 3, none⟩ else none
theorem ret_ptr {a b : Option Addr} {c d : Int} (h : a = b ∧ c = d) : Ending.returned (.tuple #[.pointer a, .int .i64 c]) = .returned (.tuple #[.pointer b, .int .i64 d]) := by rw [h.1, h.2]
section
variable {q : Nat} {st : List Slt} {h : Int}
theorem find_none (hh : slotI h < 0 ∨ (st.length : Int) ≤ slotI h ∨ ((atH st h).1 : Int) < numI h) : none = findP q st h ∧ 4 = findE st h := by
  have e : findE st h = 4 := if_pos hh
  unfold findP
  rw [e]
  exact ⟨rfl, rfl⟩
theorem atH_eq {i : Nat} (hi : slotI h = i) : atH st h = st.getD i (0, false, undef) := by unfold atH; rw [hi]; rfl
theorem find_far {i : Nat} (hi : slotI h = i) (_hlt : i < st.length) (h3 : ((st.getD i (0, false, undef)).1 : Int) < numI h) : none = findP q st h ∧ 4 = findE st h :=
  find_none (.inr (.inr (by rw [atH_eq hi]; exact h3)))
theorem find_old {i : Nat} (hi : slotI h = i) (hlt : i < st.length) (h3 : ¬ ((st.getD i (0, false, undef)).1 : Int) < numI h) (h4 : numI h < ((st.getD i (0, false, undef)).1 : Int) ∨ (st.getD i (0, false, undef)).2.1 = false) : none = findP q st h ∧ 160 = findE st h := by
  have e : findE st h = 160 := by
    unfold findE
    rw [atH_eq hi, if_neg (by rw [hi]; omega), if_pos h4]
  unfold findP
  rw [e]
  exact ⟨rfl, rfl⟩
theorem find_yes {i : Nat} (hi : slotI h = i) (hlt : i < st.length) (h3 : ¬ ((st.getD i (0, false, undef)).1 : Int) < numI h) (h4 : ¬ numI h < ((st.getD i (0, false, undef)).1 : Int)) (h5 : (st.getD i (0, false, undef)).2.1 = true) : some ⟨q, i * 3, none⟩ = findP q st h ∧ 0 = findE st h := by
  have e : findE st h = 0 := by
    unfold findE
    rw [atH_eq hi, if_neg (by rw [hi]; omega), if_neg (by rw [h5]; rintro (h | h); exact h4 h; cases h)]
  unfold findP
  rw [e, hi]
  exact ⟨rfl, rfl⟩
end
end Go.Proofs.YtpaecmpiokkdnaaDoor
