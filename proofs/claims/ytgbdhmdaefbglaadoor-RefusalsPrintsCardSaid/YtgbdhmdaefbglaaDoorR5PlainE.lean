/- Refusals: the ways in which the code's branches answer. No program. -/
import Derived.Test.YtgbdhmdaefbglaaDoorR5PlainB
namespace Go.Proofs.YtgbdhmdaefbglaaDoor

/-- the ways in which a rule is answered -/
theorem rl_cases {C : Int → Prop} (x : Rl)
    (h : ∀ r : Int, r = rlE x → ((decide (x.1 < 0) = true ∧ r = 2) ∨ (decide (x.1 < 0) = false ∧ decide (7 ≤ x.1) = true ∧ r = 2) ∨
      (decide (x.1 < 0) = false ∧ decide (7 ≤ x.1) = false ∧
        ((decide (x.2.1 < 1) = true ∧ r = 7) ∨ (decide (x.2.1 < 1) = false ∧ decide (10000 < x.2.1) = true ∧ r = 7) ∨
        (decide (x.2.1 < 1) = false ∧ decide (10000 < x.2.1) = false ∧
          ((decide (x.2.2.1 < 0) = true ∧ r = 7) ∨ (decide (x.2.2.1 < 0) = false ∧ decide (12 < x.2.2.1) = true ∧ r = 7) ∨
          (decide (x.2.2.1 < 0) = false ∧ decide (12 < x.2.2.1) = false ∧
            ((decide (x.2.2.2 < 0) = true ∧ r = 7) ∨ (decide (x.2.2.2 < 0) = false ∧ decide (1000 < x.2.2.2) = true ∧ r = 7) ∨
            (decide (x.2.2.2 < 0) = false ∧ decide (1000 < x.2.2.2) = false ∧
              (((x.2.2.1 == 0) = false ∧ r = 0) ∨ ((x.2.2.1 == 0) = true ∧ (x.2.2.2 == 1) = true ∧ r = 0) ∨ ((x.2.2.1 == 0) = true ∧ (x.2.2.2 == 1) = false ∧ r = 6)))))))))) → C r) : C (rlE x) := by
  obtain ⟨k, f, e, t⟩ := x
  dsimp only at h
  refine h _ rfl ?_
  unfold rlE
  dsimp only
  by_cases h1 : k < 0
  · exact .inl ⟨by simpa using h1, if_pos (.inl h1)⟩
  by_cases h2 : 7 ≤ k
  · exact .inr (.inl ⟨by simpa using h1, by simpa using h2, if_pos (.inr h2)⟩)
  rw [if_neg (by omega)]
  refine .inr (.inr ⟨by simpa using h1, by simpa using h2, ?_⟩)
  by_cases h3 : f < 1
  · exact .inl ⟨by simpa using h3, if_pos (by omega)⟩
  by_cases h4 : 10000 < f
  · exact .inr (.inl ⟨by simpa using h3, by simpa using h4, if_pos (by omega)⟩)
  refine .inr (.inr ⟨by simpa using h3, by simpa using h4, ?_⟩)
  by_cases h5 : e < 0
  · exact .inl ⟨by simpa using h5, if_pos (by omega)⟩
  by_cases h6 : 12 < e
  · exact .inr (.inl ⟨by simpa using h5, by simpa using h6, if_pos (by omega)⟩)
  refine .inr (.inr ⟨by simpa using h5, by simpa using h6, ?_⟩)
  by_cases h7 : t < 0
  · exact .inl ⟨by simpa using h7, if_pos (by omega)⟩
  by_cases h8 : 1000 < t
  · exact .inr (.inl ⟨by simpa using h7, by simpa using h8, if_pos (by omega)⟩)
  refine .inr (.inr ⟨by simpa using h7, by simpa using h8, ?_⟩)
  rw [if_neg (by omega)]
  by_cases h9 : e = 0
  · by_cases h10 : t = 1
    · exact .inr (.inl ⟨by simpa using h9, by simpa using h10, if_neg (by omega)⟩)
    · exact .inr (.inr ⟨by simpa using h9, by simpa using h10, if_pos ⟨h9, h10⟩⟩)
  · exact .inl ⟨by simpa using h9, if_neg (by omega)⟩


/-- the quotient of the calls of a rule -/
theorem nx_bounds {x : Rl} (h : RlOk x) {n : Int} (h0 : x.2.1 ≤ n) (h1 : n ≤ 1000000) (he : x.2.2.1 ≠ 0) :
    0 ≤ (n - x.2.1) / x.2.2.1 ∧ (n - x.2.1) / x.2.2.1 ≤ 1000000 ∧ 0 ≤ (n - x.2.1) / x.2.2.1 * x.2.2.1 ∧ (n - x.2.1) / x.2.2.1 * x.2.2.1 ≤ n - x.2.1 := by
  obtain ⟨k, f, e, t⟩ := x
  dsimp only at *
  have := h.e0
  have := h.f0
  dsimp only at *
  have a1 : 0 ≤ (n - f) / e := Int.ediv_nonneg (by omega) (by omega)
  have a2 : (n - f) / e * e ≤ n - f := Int.ediv_mul_le _ he
  have a3 : 0 ≤ (n - f) / e * e := Int.mul_nonneg a1 (by omega)
  have a4 : (n - f) / e * 1 ≤ (n - f) / e * e := Int.mul_le_mul_of_nonneg_left (by omega) a1
  exact ⟨a1, by omega, a3, a2⟩
/-- the ways in which next answers -/
theorem nx_cases {C : Int → Prop} (x : Rl) (hx : RlOk x) (n : Int) (h1 : n ≤ 1000000)
    (h : ∀ r : Int, ((decide (n < x.2.1) = true ∧ r = x.2.1) ∨ (decide (n < x.2.1) = false ∧ (x.2.2.1 == 0) = true ∧ r = 0) ∨
      (∃ q : Int, decide (n < x.2.1) = false ∧ (x.2.2.1 == 0) = false ∧ (n - x.2.1) / x.2.2.1 = q ∧ 1 ≤ x.2.2.1 ∧ x.2.2.1 ≤ 12 ∧ 0 ≤ q ∧ q ≤ 1000000 ∧ 0 ≤ (q + 1) * x.2.2.1 ∧ (q + 1) * x.2.2.1 ≤ 1000012 ∧ x.2.1 ≤ n ∧
        ((decide (0 < x.2.2.2) = true ∧ decide (x.2.2.2 ≤ q + 1) = true ∧ r = 0) ∨ (decide (0 < x.2.2.2) = true ∧ decide (x.2.2.2 ≤ q + 1) = false ∧ r = x.2.1 + (q + 1) * x.2.2.1) ∨ (decide (0 < x.2.2.2) = false ∧ r = x.2.1 + (q + 1) * x.2.2.1)))) → C r) : C (nxc x n) := by
  refine h _ ?_
  unfold nxc
  by_cases g1 : n < x.2.1
  · exact .inl ⟨by simpa using g1, if_pos g1⟩
  rw [if_neg g1]
  by_cases g2 : x.2.2.1 = 0
  · exact .inr (.inl ⟨by simpa using g1, by simpa using g2, if_pos g2⟩)
  rw [if_neg g2]
  obtain ⟨b1, b2, b3, b4⟩ := nx_bounds hx (by omega : x.2.1 ≤ n) h1 g2
  have e0 := hx.e0
  have e1 := hx.e1
  have f0 := hx.f0
  have em : ((n - x.2.1) / x.2.2.1 + 1) * x.2.2.1 = (n - x.2.1) / x.2.2.1 * x.2.2.1 + x.2.2.1 := by rw [Int.add_mul, Int.one_mul]
  refine .inr (.inr ⟨(n - x.2.1) / x.2.2.1, by simpa using g1, by simpa using g2, rfl, by omega, by omega, b1, b2, by omega, by omega, by omega, ?_⟩)
  by_cases g3 : 0 < x.2.2.2
  · by_cases g4 : x.2.2.2 ≤ (n - x.2.1) / x.2.2.1 + 1
    · exact .inl ⟨by simpa using g3, by simpa using g4, if_pos ⟨g3, g4⟩⟩
    · exact .inr (.inl ⟨by simpa using g3, by simpa using g4, if_neg (by omega)⟩)
  · exact .inr (.inr ⟨by simpa using g3, if_neg (by omega)⟩)
/-- the ways in which the reference says whether a rule refuses -/
theorem rf_cases {C : Bool → Prop} (x : Rl) (hx : RlOk x) (k n : Int) (h1 : n ≤ 1000000)
    (h : ∀ r : Bool, (((x.1 == k) = false ∧ r = false) ∨ ((x.1 == k) = true ∧ decide (n < x.2.1) = true ∧ r = false) ∨
      ((x.1 == k) = true ∧ decide (n < x.2.1) = false ∧ (x.2.2.1 == 0) = true ∧ r = (n == x.2.1)) ∨
      (∃ q : Int, (x.1 == k) = true ∧ decide (n < x.2.1) = false ∧ (x.2.2.1 == 0) = false ∧ (n - x.2.1) / x.2.2.1 = q ∧ 1 ≤ x.2.2.1 ∧ x.2.2.1 ≤ 12 ∧ 0 ≤ q ∧ q ≤ 1000000 ∧ 0 ≤ q * x.2.2.1 ∧ q * x.2.2.1 ≤ 1000000 ∧ x.2.1 ≤ n ∧
        (((x.2.1 + q * x.2.2.1 == n) = false ∧ r = false) ∨ ((x.2.1 + q * x.2.2.1 == n) = true ∧ (x.2.2.2 == 0) = true ∧ r = true) ∨ ((x.2.1 + q * x.2.2.1 == n) = true ∧ (x.2.2.2 == 0) = false ∧ r = decide (q < x.2.2.2))))) → C r) : C (rfz x k n) := by
  refine h _ ?_
  unfold rfz
  by_cases gx : x.1 ≠ k
  · exact .inl ⟨by simpa using gx, by simp [gx]⟩
  have g0 : x.1 = k := by omega
  have c0 : (x.1 == k) = true := by simpa using g0
  by_cases g1 : n < x.2.1
  · exact .inr (.inl ⟨c0, by simpa using g1, by rw [show decide (x.2.1 ≤ n) = false by simpa using g1]; simp⟩)
  have g1' : decide (x.2.1 ≤ n) = true := by simp; omega
  rw [decide_eq_true g0, g1']
  simp only [Bool.true_and]
  by_cases g2 : x.2.2.1 = 0
  · refine .inr (.inr (.inl ⟨c0, by simpa using g1, by simpa using g2, ?_⟩))
    rw [if_pos g2]
    by_cases g3 : n = x.2.1
    · simp [g3]
    · simp [g3]
  rw [if_neg g2]
  obtain ⟨b1, b2, b3, b4⟩ := nx_bounds hx (by omega : x.2.1 ≤ n) h1 g2
  have f0 := hx.f0
  have e0 := hx.e0
  have e1 := hx.e1
  refine .inr (.inr (.inr ⟨(n - x.2.1) / x.2.2.1, c0, by simpa using g1, by simpa using g2, rfl, by omega, by omega, b1, b2, b3, by omega, by omega, ?_⟩))
  have key : (n - x.2.1) % x.2.2.1 = n - x.2.1 - (n - x.2.1) / x.2.2.1 * x.2.2.1 := by
    have := Int.mul_ediv_add_emod (n - x.2.1) x.2.2.1
    rw [Int.mul_comm] at this
    omega
  by_cases g3 : x.2.1 + (n - x.2.1) / x.2.2.1 * x.2.2.1 = n
  · have c3 : (x.2.1 + (n - x.2.1) / x.2.2.1 * x.2.2.1 == n) = true := by simpa using g3
    rw [decide_eq_true (show (n - x.2.1) % x.2.2.1 = 0 by omega)]
    by_cases g4 : x.2.2.2 = 0
    · exact .inr (.inl ⟨c3, by simpa using g4, by simp [g4]⟩)
    · exact .inr (.inr ⟨c3, by simpa using g4, by simp [g4]⟩)
  · refine .inl ⟨by simpa using g3, ?_⟩
    rw [decide_eq_false (show ¬ (n - x.2.1) % x.2.2.1 = 0 by omega)]
    rfl
end Go.Proofs.YtgbdhmdaefbglaaDoor
