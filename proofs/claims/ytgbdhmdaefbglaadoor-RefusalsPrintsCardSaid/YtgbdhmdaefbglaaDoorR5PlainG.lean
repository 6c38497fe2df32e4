/- Refusals: the calls of a rule one by one; marks and hits; the last refused call. No program. -/
import Derived.Test.YtgbdhmdaefbglaaDoorR5PlainB
namespace Go.Proofs.YtgbdhmdaefbglaaDoor

/-- is c among the first i calls of a rule? -/
def cal (x : Rl) (i : Nat) (c : Int) : Bool := (List.range i).any fun j => decide (c = x.2.1 + (j : Int) * x.2.2.1)
theorem cal_zero (x : Rl) (c : Int) : cal x 0 c = false := rfl
theorem cal_succ (x : Rl) (i : Nat) (c : Int) : cal x (i + 1) c = (cal x i c || decide (c = x.2.1 + (i : Int) * x.2.2.1)) := by unfold cal; rw [List.range_succ, List.any_append]; simp
theorem cal_iff {x : Rl} {i : Nat} {c : Int} : cal x i c = true ↔ ∃ j : Nat, j < i ∧ c = x.2.1 + (j : Int) * x.2.2.1 := by unfold cal; simp
theorem step_mul (i : Nat) (e f : Int) : f + ((i + 1 : Nat) : Int) * e = f + (i : Int) * e + e := by rw [Int.natCast_add, Int.natCast_one, Int.add_mul, Int.one_mul]; omega
/-- the calls that were gone through are those that are refused, up to the limit, when the loop ends -/
theorem cal_end {x : Rl} (h : RlOk x) {L : Int} {i : Nat} (hi : ∀ j : Nat, j < i → x.2.1 + (j : Int) * x.2.2.1 ≤ L ∧ (x.2.2.2 = 0 ∨ (j : Int) < x.2.2.2))
    (hend : L < x.2.1 + (i : Int) * x.2.2.1 ∨ (x.2.2.2 ≠ 0 ∧ x.2.2.2 ≤ (i : Int))) {c : Int} (hc : c ≤ L) : cal x i c = rfz x x.1 c := by
  have e0 := h.e0
  have t0 := h.t0
  rw [Bool.eq_iff_iff, cal_iff, rfz_iff h]
  constructor
  · rintro ⟨j, hj, e⟩
    obtain ⟨_, h2⟩ := hi j hj
    by_cases hE : x.2.2.1 = 0
    · have hT := h.et hE
      exact ⟨rfl, j, by omega, h2, fun _ => by omega, e⟩
    · exact ⟨rfl, j, by omega, h2, fun h' => absurd h' hE, e⟩
  · rintro ⟨_, m, m0, mT, mE, e⟩
    obtain ⟨j, rfl⟩ : ∃ j : Nat, m = j := ⟨m.toNat, by omega⟩
    refine ⟨j, ?_, e⟩
    rcases Nat.lt_or_ge j i with hlt | hge
    · exact hlt
    · exfalso
      rcases hend with hh | ⟨ht, hh⟩
      · have : (i : Int) * x.2.2.1 ≤ (j : Int) * x.2.2.1 := Int.mul_le_mul_of_nonneg_right (by omega) e0
        omega
      · omega
/-- the numbers that a rule goes through stay small -/
theorem cal_bound {x : Rl} (h : RlOk x) {L : Int} {i : Nat} (hi : ∀ j : Nat, j < i → x.2.1 + (j : Int) * x.2.2.1 ≤ L ∧ (x.2.2.2 = 0 ∨ (j : Int) < x.2.2.2)) (hL : 0 ≤ L) :
    1 ≤ x.2.1 + (i : Int) * x.2.2.1 ∧ x.2.1 + (i : Int) * x.2.2.1 ≤ L + 10012 ∧ (i : Int) ≤ L + 1 := by
  have e0 := h.e0
  have e1 := h.e1
  have f0 := h.f0
  have f1 := h.f1
  have p : 0 ≤ (i : Int) * x.2.2.1 := Int.mul_nonneg (by omega) e0
  match i, hi, p with
  | 0, _, p => exact ⟨by omega, by omega, by omega⟩
  | i + 1, hi, p =>
    obtain ⟨h1, h2⟩ := hi i (by omega)
    refine ⟨by omega, by rw [step_mul]; omega, ?_⟩
    by_cases hE : x.2.2.1 = 0
    · have := h.et hE
      omega
    · have : (i : Int) * 1 ≤ (i : Int) * x.2.2.1 := Int.mul_le_mul_of_nonneg_left (by omega) (by omega)
      omega

theorem hit_zero (n : Nat) (R : Nat → Rl) (k : Int) : hitP n R k 0 = 0 := by unfold hitP; exact cnt_zero (Nat.le_refl _)
theorem hit_succ (n : Nat) (R : Nat → Rl) (k : Int) (c : Nat) : hitP n R k (c + 1) = hitP n R k c + (if rfP n R k ((c + 1 : Nat) : Int) = true then 1 else 0) := by
  unfold hitP
  simp only [cnt]
  by_cases h : rfP n R k ((c + 1 : Nat) : Int) = true
  · simp [h]
  · simp [h]
theorem hit_le (n : Nat) (R : Nat → Rl) (k : Int) : ∀ c, hitP n R k c ≤ c
  | 0 => by rw [hit_zero]; omega
  | c + 1 => by
    have := hit_le n R k c
    rw [hit_succ]
    split <;> omega
theorem rfP_zero {n : Nat} {R : Nat → Rl} {k c : Int} (h : ∀ i, i < n → RlOk (R i)) (hc : c ≤ 0) : rfP n R k c = false := by
  rw [Bool.eq_false_iff]
  intro e
  obtain ⟨i, hi, hr⟩ := rfP_iff.1 e
  have := rfz_first hr
  have := (h i hi).f0
  omega
/-- the marks of the first c numbers, counted -/
def hitM (n : Nat) (R : Nat → Rl) (k : Int) (c : Nat) : Nat := cnt (fun j => rfP n R k (j : Int)) 0 c
theorem hitM_succ (n : Nat) (R : Nat → Rl) (k : Int) (c : Nat) : hitM n R k (c + 1) = hitM n R k c + (if rfP n R k (c : Int) = true then 1 else 0) := by
  unfold hitM
  simp [cnt]
theorem hitM_eq {n : Nat} {R : Nat → Rl} {k : Int} (h : ∀ i, i < n → RlOk (R i)) : ∀ c, hitM n R k (c + 1) = hitP n R k c
  | 0 => by
    rw [hitM_succ, hit_zero, rfP_zero h (by omega)]
    rfl
  | c + 1 => by rw [hitM_succ, hitM_eq h c, hit_succ]
/-- the last refused call of a kind among the first c; 0: there is none -/
def lst (n : Nat) (R : Nat → Rl) (k : Int) : Nat → Nat
  | 0 => 0
  | c + 1 => if rfP n R k ((c + 1 : Nat) : Int) = true then c + 1 else lst n R k c
theorem lst_spec (n : Nat) (R : Nat → Rl) (k : Int) : ∀ c, lst n R k c ≤ c ∧ ∀ d : Int, (lst n R k c : Int) < d → d ≤ (c : Int) → rfP n R k d = false
  | 0 => ⟨Nat.le_refl _, fun d h1 h2 => by simp only [lst] at h1; omega⟩
  | c + 1 => by
    obtain ⟨h1, h2⟩ := lst_spec n R k c
    simp only [lst]
    by_cases h : rfP n R k ((c + 1 : Nat) : Int) = true
    · rw [if_pos h]; exact ⟨Nat.le_refl _, fun d g1 g2 => by omega⟩
    · rw [if_neg h]
      refine ⟨by omega, fun d g1 g2 => ?_⟩
      by_cases e : d = ((c + 1 : Nat) : Int)
      · rw [e]; simpa using h
      · exact h2 d g1 (by omega)
/-- After names the next refused call -/
theorem lst_after {n : Nat} {R : Nat → Rl} {k : Int} {c : Nat} (h : ∀ i, i < n → RlOk (R i)) (hc : c < 1000000) (hr : rfP n R k ((c + 1 : Nat) : Int) = true) :
    aftV n R k (lst n R k c) = ((c + 1 : Nat) : Int) ∧ aftE n R k (lst n R k c) = 0 := by
  obtain ⟨h1, h2⟩ := lst_spec n R k c
  obtain ⟨a, b⟩ := aft_found h (n := (lst n R k c : Int)) (by omega) (by omega : ((lst n R k c : Nat) : Int) < ((c + 1 : Nat) : Int)) (by omega) hr (fun d g1 g2 => h2 d g1 (by omega))
  exact ⟨a.symm, b.symm⟩
/-- how often a call is refused by the first m rules -/
def manyP (R : Nat → Rl) (S : Nat → Bool) (k c : Int) : Nat → Nat
  | 0 => 0
  | m + 1 => manyP R S k c m + (if (S m && rfz (R m) k c) = true then 1 else 0)
theorem many_le (R : Nat → Rl) (S : Nat → Bool) (k c : Int) : ∀ m, manyP R S k c m ≤ m
  | 0 => Nat.le_refl _
  | m + 1 => by
    have := many_le R S k c m
    simp only [manyP]
    split <;> omega
theorem many_zero {R : Nat → Rl} {S : Nat → Bool} {k c : Int} : ∀ {m : Nat}, manyP R S k c m = 0 ↔ ∀ j, j < m → (S j && rfz (R j) k c) = false
  | 0 => by simp [manyP]
  | m + 1 => by
    have ih := many_zero (R := R) (S := S) (k := k) (c := c) (m := m)
    simp only [manyP]
    constructor
    · intro h j hj
      by_cases e : j = m
      · subst e
        by_cases g : (S j && rfz (R j) k c) = true
        · rw [if_pos g] at h; omega
        · simpa using g
      · exact ih.1 (by omega) j (by omega)
    · intro h
      rw [ih.2 (fun j hj => h j (by omega)), h m (by omega)]
      rfl
/-- .. with one rule taken out -/
theorem many_out {R : Nat → Rl} {S : Nat → Bool} {k c : Int} {i : Nat} : ∀ {m : Nat}, i < m → manyP R S k c m = manyP R (fun j => S j && decide (j ≠ i)) k c m + (if (S i && rfz (R i) k c) = true then 1 else 0)
  | m + 1, hi => by
    simp only [manyP]
    by_cases e : i = m
    · subst e
      have : ∀ n, n ≤ i → manyP R (fun j => S j && decide (j ≠ i)) k c n = manyP R S k c n := by
        intro n
        induction n with
        | zero => intro _; rfl
        | succ n ih =>
          intro hn
          simp only [manyP]
          have hd : decide (n ≠ i) = true := by simp; omega
          rw [ih (by omega)]
          simp only [hd, Bool.and_true]
      rw [this i (Nat.le_refl _)]
      simp
    · have ih := many_out (R := R) (S := S) (k := k) (c := c) (i := i) (m := m) (by omega)
      have hd : decide (m ≠ i) = true := by simp; omega
      rw [ih]
      simp only [hd, Bool.and_true]
      omega
end Go.Proofs.YtgbdhmdaefbglaaDoor
