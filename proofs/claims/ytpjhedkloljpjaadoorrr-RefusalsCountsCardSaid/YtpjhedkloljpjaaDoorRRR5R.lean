/- Refusals: Next: program and reference. -/
import Derived.Test.YtpjhedkloljpjaaDoorRRR5Q
import Derived.Deep.DeepCutAuto
namespace Go.Proofs.YtpjhedkloljpjaaDoorRR
open Go.RowKit Go.Sort Go.Joins Go.Shelf
attribute [local go_sem] cell_grow frozen_grow size_grow
attribute [local go_sem ↓] Go.wp_at_zero Go.wp_at_succ

/-- the error of Next -/
def nxE (n : Nat) (R : Nat → Rl) (C H : Nat → Int) (q : Int) : Int := if csE n R C H ≠ 0 then csE n R C H else if q < 0 ∨ 7 ≤ q then 2 else if C q.toNat = 1000000 then 3 else 0
def nxB (n : Nat) (R : Nat → Rl) (C H : Nat → Int) (q : Int) : Bool := if nxE n R C H q = 0 then rfP n R q (C q.toNat + 1) else false
def nxN (n : Nat) (R : Nat → Rl) (C H : Nat → Int) (q : Int) : Nat := if nxE n R C H q = 0 then n else 0
def nxC (n : Nat) (R : Nat → Rl) (C H : Nat → Int) (q : Int) : Nat → Int := if nxE n R C H q = 0 then upd C q.toNat (C q.toNat + 1) else Z7
def nxH (n : Nat) (R : Nat → Rl) (C H : Nat → Int) (q : Int) : Nat → Int := if nxE n R C H q = 0 then (if rfP n R q (C q.toNat + 1) = true then upd H q.toNat (H q.toNat + 1) else H) else Z7
theorem nxE_ok {n : Nat} {R : Nat → Rl} {C H : Nat → Int} {k : Nat} (h : csE n R C H = 0) (hk : k < 7) (hc : C k ≠ 1000000) : nxE n R C H (k : Int) = 0 := by
  unfold nxE
  rw [if_neg (by simpa using h), if_neg (by omega), Int.toNat_natCast, if_neg hc]
theorem nx_cases' {P : Nat → (Nat → Int) → (Nat → Int) → Bool → Int → Prop} (n : Nat) (R : Nat → Rl) (C H : Nat → Int) (q : Int)
    (h1 : ∀ e, e ≠ 0 → csE n R C H = e → P 0 Z7 Z7 false e) (h2 : csE n R C H = 0 → q < 0 → P 0 Z7 Z7 false 2) (h2' : csE n R C H = 0 → 0 ≤ q → 7 ≤ q → P 0 Z7 Z7 false 2)
    (h3 : ∀ k : Nat, csE n R C H = 0 → q = k → k < 7 → C k = 1000000 → P 0 Z7 Z7 false 3)
    (h4 : ∀ k : Nat, csE n R C H = 0 → q = k → k < 7 → C k ≠ 1000000 → rfP n R (k : Int) (C k + 1) = true → P n (upd C k (C k + 1)) (upd H k (H k + 1)) true 0)
    (h5 : ∀ k : Nat, csE n R C H = 0 → q = k → k < 7 → C k ≠ 1000000 → rfP n R (k : Int) (C k + 1) = false → P n (upd C k (C k + 1)) H false 0) :
    P (nxN n R C H q) (nxC n R C H q) (nxH n R C H q) (nxB n R C H q) (nxE n R C H q) := by
  by_cases e1 : csE n R C H = 0
  · by_cases e2 : q < 0 ∨ 7 ≤ q
    · have e : nxE n R C H q = 2 := by unfold nxE; rw [if_neg (by simpa using e1), if_pos e2]
      unfold nxN nxC nxH nxB
      rw [e]
      simp only [show ¬ ((2 : Int) = 0) by decide, if_false]
      by_cases e3 : q < 0
      · exact h2 e1 e3
      · exact h2' e1 (by omega) (by omega)
    · obtain ⟨k, rfl⟩ := Int.eq_ofNat_of_zero_le (by omega : 0 ≤ q)
      by_cases e3 : C k = 1000000
      · have e : nxE n R C H (k : Int) = 3 := by unfold nxE; rw [if_neg (by simpa using e1), if_neg e2, Int.toNat_natCast, if_pos e3]
        unfold nxN nxC nxH nxB
        rw [e]
        simp only [show ¬ ((3 : Int) = 0) by decide, if_false]
        exact h3 k e1 rfl (by omega) e3
      · have e := nxE_ok e1 (by omega) e3
        unfold nxN nxC nxH nxB
        rw [e]
        simp only [if_true, Int.toNat_natCast]
        cases hr : rfP n R (k : Int) (C k + 1)
        · simp only [Bool.false_eq_true, if_false]
          exact h5 k e1 rfl (by omega) e3 hr
        · simp only [if_true]
          exact h4 k e1 rfl (by omega) e3 hr
  · have e : nxE n R C H q = csE n R C H := if_pos e1
    unfold nxN nxC nxH nxB
    rw [e]
    simp only [e1, if_false]
    exact h1 _ e1 rfl
end Go.Proofs.YtpjhedkloljpjaaDoorRR
