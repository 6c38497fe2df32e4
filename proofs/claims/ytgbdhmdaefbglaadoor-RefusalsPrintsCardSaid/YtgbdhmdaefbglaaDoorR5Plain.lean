/- Refusals: rules as numbers, what is wrong with them, which calls they refuse. No program. -/
import Derived.Test.YtgbdhmdaefbglaaDoorPlainC
namespace Go.Proofs.YtgbdhmdaefbglaaDoor

/-- a rule: kind, first, every, times -/
abbrev Rl := Int × Int × Int × Int
abbrev rl0 : Rl := (0, 0, 0, 0)
/-- the error of a rule -/
def rlE (x : Rl) : Int :=
  if x.1 < 0 ∨ 7 ≤ x.1 then 2
  else if x.2.1 < 1 ∨ 10000 < x.2.1 ∨ x.2.2.1 < 0 ∨ 12 < x.2.2.1 ∨ x.2.2.2 < 0 ∨ 1000 < x.2.2.2 then 7
  else if x.2.2.1 = 0 ∧ x.2.2.2 ≠ 1 then 6 else 0
theorem rlE_arg {x : Rl} (h : x.1 < 0 ∨ 7 ≤ x.1) : 2 = rlE x := by unfold rlE; rw [if_pos h]
theorem rlE_range {x : Rl} (h0 : ¬ (x.1 < 0 ∨ 7 ≤ x.1)) (h : x.2.1 < 1 ∨ 10000 < x.2.1 ∨ x.2.2.1 < 0 ∨ 12 < x.2.2.1 ∨ x.2.2.2 < 0 ∨ 1000 < x.2.2.2) : 7 = rlE x := by unfold rlE; rw [if_neg h0, if_pos h]
theorem rlE_form {x : Rl} (h0 : ¬ (x.1 < 0 ∨ 7 ≤ x.1)) (h1 : ¬ (x.2.1 < 1 ∨ 10000 < x.2.1 ∨ x.2.2.1 < 0 ∨ 12 < x.2.2.1 ∨ x.2.2.2 < 0 ∨ 1000 < x.2.2.2)) (h : x.2.2.1 = 0 ∧ x.2.2.2 ≠ 1) : 6 = rlE x := by unfold rlE; rw [if_neg h0, if_neg h1, if_pos h]
theorem rlE_good {x : Rl} (h0 : ¬ (x.1 < 0 ∨ 7 ≤ x.1)) (h1 : ¬ (x.2.1 < 1 ∨ 10000 < x.2.1 ∨ x.2.2.1 < 0 ∨ 12 < x.2.2.1 ∨ x.2.2.2 < 0 ∨ 1000 < x.2.2.2)) (h : ¬ (x.2.2.1 = 0 ∧ x.2.2.2 ≠ 1)) : 0 = rlE x := by unfold rlE; rw [if_neg h0, if_neg h1, if_neg h]
/-- a rule that is valid -/
structure RlOk (x : Rl) : Prop where
  k0 : 0 ≤ x.1
  k1 : x.1 ≤ 6
  f0 : 1 ≤ x.2.1
  f1 : x.2.1 ≤ 10000
  e0 : 0 ≤ x.2.2.1
  e1 : x.2.2.1 ≤ 12
  t0 : 0 ≤ x.2.2.2
  t1 : x.2.2.2 ≤ 1000
  et : x.2.2.1 = 0 → x.2.2.2 = 1
theorem rlE_ok {x : Rl} (h : rlE x = 0) : RlOk x := by
  unfold rlE at h
  by_cases h0 : x.1 < 0 ∨ 7 ≤ x.1
  · rw [if_pos h0] at h; cases h
  · rw [if_neg h0] at h
    by_cases h1 : x.2.1 < 1 ∨ 10000 < x.2.1 ∨ x.2.2.1 < 0 ∨ 12 < x.2.2.1 ∨ x.2.2.2 < 0 ∨ 1000 < x.2.2.2
    · rw [if_pos h1] at h; cases h
    · rw [if_neg h1] at h
      by_cases h2 : x.2.2.1 = 0 ∧ x.2.2.2 ≠ 1
      · rw [if_pos h2] at h; cases h
      · exact ⟨by omega, by omega, by omega, by omega, by omega, by omega, by omega, by omega, fun e => by omega⟩
/-- is rule i of a plan wrong? -/
def pBad (R : Nat → Rl) (i : Nat) : Bool := decide (rlE (R i) ≠ 0)
/-- the first wrong rule of a plan, and the plan's error -/
def pI (n : Nat) (R : Nat → Rl) : Int := if 50 < n then 0 else if nxt (pBad R) 0 n < n then ((nxt (pBad R) 0 n : Nat) : Int) else 0
def pE (n : Nat) (R : Nat → Rl) : Int := if 50 < n then 3 else if nxt (pBad R) 0 n < n then rlE (R (nxt (pBad R) 0 n)) else 0
theorem p_long {n : Nat} {R : Nat → Rl} (h : 50 < n) : 0 = pI n R ∧ 3 = pE n R := by unfold pI pE; rw [if_pos h, if_pos h]; exact ⟨rfl, rfl⟩
theorem p_bad {n i : Nat} {R : Nat → Rl} (h : ¬ 50 < n) (hi : i < n) (hb : rlE (R i) ≠ 0) (hp : ∀ j, j < i → rlE (R j) = 0) : (i : Int) = pI n R ∧ rlE (R i) = pE n R := by
  have e : nxt (pBad R) 0 n = i := nxt_eq (Nat.zero_le _) (Nat.zero_le _) (by omega) (fun j _ hj => by unfold pBad; simp [hp j hj]) (fun _ => by unfold pBad; simp [hb])
  unfold pI pE; rw [if_neg h, if_neg h, e, if_pos hi, if_pos hi]; exact ⟨rfl, rfl⟩
theorem p_good {n : Nat} {R : Nat → Rl} (h : ¬ 50 < n) (hp : ∀ j, j < n → rlE (R j) = 0) : 0 = pI n R ∧ 0 = pE n R := by
  have e : nxt (pBad R) 0 n = n := nxt_eq (Nat.zero_le _) (Nat.zero_le _) (Nat.le_refl _) (fun j _ hj => by unfold pBad; simp [hp j hj]) (fun h => by omega)
  unfold pI pE; rw [if_neg h, if_neg h, e, if_neg (Nat.lt_irrefl n), if_neg (Nat.lt_irrefl n)]; exact ⟨rfl, rfl⟩
theorem pE_zero {n : Nat} {R : Nat → Rl} (h : pE n R = 0) : n ≤ 50 ∧ ∀ j, j < n → RlOk (R j) := by
  unfold pE at h
  by_cases h1 : 50 < n
  · rw [if_pos h1] at h; cases h
  · rw [if_neg h1] at h
    obtain ⟨_, s2, s3, s4⟩ := nxt_spec (p := pBad R) (a := 0) (n := n) (Nat.zero_le _)
    by_cases h2 : nxt (pBad R) 0 n < n
    · rw [if_pos h2] at h
      have hb := s4 h2
      rw [pBad, h] at hb
      simp at hb
    · refine ⟨by omega, fun j hj => ?_⟩
      have := s3 j (Nat.zero_le _) (by omega)
      unfold pBad at this
      exact rlE_ok (by simpa using this)

/-- does a valid rule refuse the n-th call of a kind? -/
def rfz (x : Rl) (k n : Int) : Bool := decide (x.1 = k) && decide (x.2.1 ≤ n) && (if x.2.2.1 = 0 then decide (n = x.2.1) else decide ((n - x.2.1) % x.2.2.1 = 0) && (decide (x.2.2.2 = 0) || decide ((n - x.2.1) / x.2.2.1 < x.2.2.2)))
/-- the first call of a rule behind the n-th one; 0: there is none -/
def nxc (x : Rl) (n : Int) : Int :=
  if n < x.2.1 then x.2.1 else if x.2.2.1 = 0 then 0
  else if 0 < x.2.2.2 ∧ x.2.2.2 ≤ (n - x.2.1) / x.2.2.1 + 1 then 0 else x.2.1 + ((n - x.2.1) / x.2.2.1 + 1) * x.2.2.1
/-- how it refuses, said without division -/
theorem rfz_iff {x : Rl} (h : RlOk x) {k n : Int} : rfz x k n = true ↔ x.1 = k ∧ ∃ i : Int, 0 ≤ i ∧ (x.2.2.2 = 0 ∨ i < x.2.2.2) ∧ (x.2.2.1 = 0 → i = 0) ∧ n = x.2.1 + i * x.2.2.1 := by
  obtain ⟨K, F, E, T⟩ := x
  obtain ⟨h1, h2, h3, h4, h5, h6, h7, h8, h9⟩ := h
  dsimp only at h1 h2 h3 h4 h5 h6 h7 h8 h9 ⊢
  unfold rfz
  dsimp only
  simp only [Bool.and_eq_true, decide_eq_true_eq]
  by_cases hE : E = 0
  · rw [if_pos hE]
    have hT := h9 hE
    subst hE hT
    simp only [decide_eq_true_eq]
    constructor
    · rintro ⟨⟨e1, e2⟩, e3⟩
      exact ⟨e1, 0, by omega, by omega, fun _ => rfl, by omega⟩
    · rintro ⟨e1, i, e2, e3, e4, e5⟩
      have := e4 trivial
      subst this
      exact ⟨⟨e1, by omega⟩, by omega⟩
  · rw [if_neg hE]
    simp only [Bool.and_eq_true, Bool.or_eq_true, decide_eq_true_eq]
    have hE1 : 0 < E := by omega
    constructor
    · rintro ⟨⟨e1, e2⟩, e3, e4⟩
      refine ⟨e1, (n - F) / E, Int.ediv_nonneg (by omega) (by omega), e4, fun e => absurd e hE, ?_⟩
      have := Int.mul_ediv_add_emod (n - F) E
      rw [e3, Int.mul_comm] at this
      omega
    · rintro ⟨e1, i, e2, e3, _, e5⟩
      have hm : n - F = i * E := by omega
      have hp : 0 ≤ i * E := Int.mul_nonneg e2 (by omega)
      refine ⟨⟨e1, by omega⟩, ?_, ?_⟩
      · rw [hm]; exact Int.mul_emod_left i E
      · rw [hm, Int.mul_ediv_cancel i hE]; exact e3

/-- calls of a rule lie one behind the other -/
theorem mul_lt {a b E : Int} (hE : 0 < E) (h : a < b) : a * E + E ≤ b * E := by
  have := Int.mul_le_mul_of_nonneg_right (show a + 1 ≤ b by omega) (show 0 ≤ E by omega)
  rw [Int.add_mul, Int.one_mul] at this
  exact this
theorem nxc_spec {x : Rl} (h : RlOk x) {n : Int} :
    (nxc x n = 0 → ∀ m, n < m → rfz x x.1 m = false) ∧ (nxc x n ≠ 0 → n < nxc x n ∧ rfz x x.1 (nxc x n) = true ∧ ∀ m, n < m → m < nxc x n → rfz x x.1 m = false) := by
  have key : ∀ m, rfz x x.1 m = false ↔ ¬ (x.1 = x.1 ∧ ∃ i : Int, 0 ≤ i ∧ (x.2.2.2 = 0 ∨ i < x.2.2.2) ∧ (x.2.2.1 = 0 → i = 0) ∧ m = x.2.1 + i * x.2.2.1) := fun m => by
    rw [← rfz_iff h]; simp
  have f0 := h.f0
  have e0 := h.e0
  have t0 := h.t0
  unfold nxc
  by_cases h1 : n < x.2.1
  · rw [if_pos h1]
    refine ⟨fun e => by omega, fun _ => ⟨h1, (rfz_iff h).2 ⟨rfl, 0, Int.le_refl _, ?_, fun _ => rfl, by omega⟩, fun m _ hm => (key m).2 ?_⟩⟩
    · by_cases ht : x.2.2.2 = 0
      · exact .inl ht
      · exact .inr (by omega)
    · rintro ⟨_, i, i0, _, _, e⟩
      have := Int.mul_nonneg i0 e0
      omega
  · rw [if_neg h1]
    by_cases h2 : x.2.2.1 = 0
    · rw [if_pos h2]
      refine ⟨fun _ m hm => (key m).2 ?_, fun e => absurd rfl e⟩
      rintro ⟨_, i, i0, _, ie, e⟩
      rw [ie h2] at e
      omega
    · rw [if_neg h2]
      have hE : 0 < x.2.2.1 := by omega
      obtain ⟨q, hq⟩ : ∃ q, (n - x.2.1) / x.2.2.1 = q := ⟨_, rfl⟩
      have hq0 : 0 ≤ q := by rw [← hq]; exact Int.ediv_nonneg (by omega) (by omega)
      have hd := Int.mul_ediv_add_emod (n - x.2.1) x.2.2.1
      have hm0 := Int.emod_nonneg (n - x.2.1) h2
      have hm1 := Int.emod_lt_of_pos (n - x.2.1) hE
      rw [hq, Int.mul_comm] at hd
      rw [hq]
      have hq1 : (q + 1) * x.2.2.1 = q * x.2.2.1 + x.2.2.1 := by rw [Int.add_mul, Int.one_mul]
      have far : ∀ i : Int, n < x.2.1 + i * x.2.2.1 → q + 1 ≤ i := fun i hi => by
        by_cases hc : i ≤ q
        · have := Int.mul_le_mul_of_nonneg_right hc e0
          omega
        · omega
      by_cases h3 : 0 < x.2.2.2 ∧ x.2.2.2 ≤ q + 1
      · rw [if_pos h3]
        refine ⟨fun _ m hm => (key m).2 ?_, fun e => absurd rfl e⟩
        rintro ⟨_, i, i0, it, _, e⟩
        have := far i (by omega)
        omega
      · rw [if_neg h3]
        refine ⟨fun e => ?_, fun _ => ⟨by omega, (rfz_iff h).2 ⟨rfl, q + 1, by omega, ?_, fun e => absurd e h2, rfl⟩, fun m hm1 hm2 => (key m).2 ?_⟩⟩
        · have := Int.mul_nonneg (show 0 ≤ q + 1 by omega) e0
          omega
        · by_cases ht : x.2.2.2 = 0
          · exact .inl ht
          · exact .inr (by omega)
        · rintro ⟨_, i, i0, it, _, e⟩
          have h5 := far i (by omega)
          have := Int.mul_le_mul_of_nonneg_right h5 e0
          omega
theorem nxc_ne {x : Rl} (h : RlOk x) (n : Int) : 0 ≤ nxc x n := by
  unfold nxc
  have := h.f0
  have e0 := h.e0
  split
  · omega
  · split
    · omega
    · split
      · omega
      · rename_i h1 h2 _
        have h3 := Int.ediv_nonneg (show 0 ≤ n - x.2.1 by omega) e0
        have := Int.mul_nonneg (show 0 ≤ (n - x.2.1) / x.2.2.1 + 1 by omega) e0
        omega
/-- the program's test -/
theorem nxc_rfz {x : Rl} (h : RlOk x) (n : Int) (hn : 1 ≤ n) : (nxc x (n - 1) = n) ↔ rfz x x.1 n = true := by
  obtain ⟨s1, s2⟩ := nxc_spec h (n := n - 1)
  constructor
  · intro e
    have := (s2 (by omega)).2.1
    rw [e] at this; exact this
  · intro e
    by_cases h0 : nxc x (n - 1) = 0
    · have := s1 h0 n (by omega)
      rw [e] at this; cases this
    · obtain ⟨a, b, c⟩ := s2 h0
      by_cases hlt : n < nxc x (n - 1)
      · have := c n (by omega) hlt
        rw [e] at this; cases this
      · omega
/-- does a plan refuse the n-th call of a kind? -/
def rfP (n : Nat) (R : Nat → Rl) (k c : Int) : Bool := (List.range n).any fun i => rfz (R i) k c
theorem rfP_succ (n : Nat) (R : Nat → Rl) (k c : Int) : rfP (n + 1) R k c = (rfP n R k c || rfz (R n) k c) := by unfold rfP; rw [List.range_succ, List.any_append]; simp
theorem rfP_iff {n : Nat} {R : Nat → Rl} {k c : Int} : rfP n R k c = true ↔ ∃ i, i < n ∧ rfz (R i) k c = true := by unfold rfP; simp
theorem rfz_kind {x : Rl} {k n : Int} (h : rfz x k n = true) : x.1 = k := by unfold rfz at h; simp only [Bool.and_eq_true, decide_eq_true_eq] at h; exact h.1.1
theorem rfz_first {x : Rl} {k n : Int} (h : rfz x k n = true) : x.2.1 ≤ n := by unfold rfz at h; simp only [Bool.and_eq_true, decide_eq_true_eq] at h; exact h.1.2
/-- how many calls of a kind it refuses, up to a number -/
def hitP (n : Nat) (R : Nat → Rl) (k : Int) (c : Nat) : Nat := cnt (fun j => rfP n R k (j : Int)) 1 (c + 1)
end Go.Proofs.YtgbdhmdaefbglaaDoor
