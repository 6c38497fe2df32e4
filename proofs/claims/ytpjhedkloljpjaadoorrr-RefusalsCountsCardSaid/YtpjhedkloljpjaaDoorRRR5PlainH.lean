/- Refusals: when a rule is needed, counted; the rest of a state, as a list. No program. -/
import Derived.Test.YtpjhedkloljpjaaDoorRRR5PlainF
import Derived.Test.YtpjhedkloljpjaaDoorRRR5PlainG
namespace Go.Proofs.YtpjhedkloljpjaaDoorRR

theorem need_many {n : Nat} {R : Nat → Rl} {S : Nat → Bool} {i : Nat} (hi : i < n) (hS : S i = true) {c : Int} (hr : rfz (R i) (R i).1 c = true) :
    manyP R S (R i).1 c n = 1 ↔ oth n R S i c = false := by
  rw [many_out hi, hS, hr]
  simp only [Bool.and_self, ↓reduceIte]
  rw [show (manyP R (fun j => S j && decide (j ≠ i)) (R i).1 c n + 1 = 1) ↔ manyP R (fun j => S j && decide (j ≠ i)) (R i).1 c n = 0 by omega, many_zero, Bool.eq_false_iff]
  constructor
  · intro h ho
    obtain ⟨j, hj, hne, hs, hrj⟩ := oth_iff.1 ho
    have := h j hj
    simp [hs, hrj, hne] at this
  · intro h j hj
    rw [Bool.eq_false_iff]
    intro hh
    simp only [Bool.and_eq_true, decide_eq_true_eq] at hh
    exact h (oth_iff.2 ⟨j, hj, hh.1.2, hh.1.1, hh.2⟩)
/-- the counts without one rule -/
theorem many_less {n : Nat} {R : Nat → Rl} {S : Nat → Bool} {i : Nat} (hi : i < n) (hS : S i = true) (k c : Int) :
    manyP R S k c n = manyP R (fun j => S j && decide (j ≠ i)) k c n + (if rfz (R i) k c = true then 1 else 0) := by
  rw [many_out hi, hS, Bool.true_and]
theorem many_first {R : Nat → Rl} {m : Nat} (k c : Int) : manyP R (fun _ => true) k c (m + 1) = manyP R (fun _ => true) k c m + (if rfz (R m) k c = true then 1 else 0) := by
  simp only [manyP, Bool.true_and]

/-- the rest of a state, when the first m rules were looked at -/
def rsL (R : Nat → Rl) (made : Int → Int) : Nat → List Rl
  | 0 => []
  | m + 1 => if nxc (R m) (made (R m).1) = 0 then rsL R made m else rsL R made m ++ [rstX (R m) (made (R m).1) (nxc (R m) (made (R m).1))]
theorem rsL_len (R : Nat → Rl) (made : Int → Int) : ∀ m, (rsL R made m).length ≤ m
  | 0 => Nat.le_refl _
  | m + 1 => by
    have := rsL_len R made m
    simp only [rsL]
    split
    · omega
    · rw [List.length_append]; simp; omega
theorem rsL_ok {R : Nat → Rl} {made : Int → Int} (hm : ∀ k, 0 ≤ made k) : ∀ {m : Nat}, (∀ i, i < m → RlOk (R i)) → ∀ x ∈ rsL R made m, RlOk x
  | 0, _, x, hx => by cases hx
  | m + 1, h, x, hx => by
    simp only [rsL] at hx
    by_cases e : nxc (R m) (made (R m).1) = 0
    · rw [if_pos e] at hx
      exact rsL_ok hm (fun i hi => h i (by omega)) x hx
    · rw [if_neg e, List.mem_append] at hx
      rcases hx with hx | hx
      · exact rsL_ok hm (fun i hi => h i (by omega)) x hx
      · rw [List.mem_singleton] at hx
        rw [hx]
        exact rst_ok (h m (by omega)) (hm _) e
theorem rsL_rfz {R : Nat → Rl} {made : Int → Int} (hm : ∀ k, 0 ≤ made k) {k c : Int} (hc : 1 ≤ c) : ∀ {m : Nat}, (∀ i, i < m → RlOk (R i)) → (rsL R made m).any (fun x => rfz x k c) = rfP m R k (made k + c)
  | 0, _ => rfl
  | m + 1, h => by
    have ih := rsL_rfz hm (k := k) hc (m := m) (fun i hi => h i (by omega))
    rw [rfP_succ, ← ih]
    simp only [rsL]
    by_cases hk : (R m).1 = k
    · by_cases e : nxc (R m) (made (R m).1) = 0
      · rw [if_pos e]
        rw [hk] at e
        rw [rst_none (h m (by omega)) e k c hc, Bool.or_false]
      · rw [if_neg e, List.any_append]
        simp only [List.any_cons, List.any_nil, Bool.or_false]
        rw [rst_rfz (h m (by omega)) (hm _) e k c hc, hk]
    · have hno : ∀ d, rfz (R m) k d = false := fun d => by
        rw [Bool.eq_false_iff]
        exact fun hf => hk (rfz_kind hf)
      rw [hno, Bool.or_false]
      by_cases e : nxc (R m) (made (R m).1) = 0
      · rw [if_pos e]
      · rw [if_neg e, List.any_append]
        simp only [List.any_cons, List.any_nil, Bool.or_false]
        rw [rst_rfz (h m (by omega)) (hm _) e k c hc, hno, Bool.or_false]
/-- a list of rules as a plan -/
theorem rfP_list (L : List Rl) (k c : Int) : rfP L.length (fun j => L.getD j rl0) k c = L.any (fun x => rfz x k c) := by
  rw [Bool.eq_iff_iff, rfP_iff, List.any_eq_true]
  constructor
  · rintro ⟨i, hi, h⟩
    rw [getD_eq hi] at h
    exact ⟨_, List.getElem_mem hi, h⟩
  · rintro ⟨x, hx, h⟩
    obtain ⟨i, hi, e⟩ := List.getElem_of_mem hx
    exact ⟨i, hi, by rw [getD_eq hi, e]; exact h⟩
end Go.Proofs.YtpjhedkloljpjaaDoorRR
