/- Plain facts: the k-th number of a set. No program. -/
import Derived.Test.YtikdgnfcckenmaaDoorPlainD
namespace Go.Proofs.YtikdgnfcckenmaaDoor

theorem cnt_step (p : Nat → Bool) (i : Nat) : cnt p 0 (i + 1) = cnt p 0 i + if p i = true then 1 else 0 := by simp [cnt]
theorem cnt_mono (p : Nat → Bool) (i : Nat) : ∀ d, cnt p 0 i ≤ cnt p 0 (i + d)
  | 0 => Nat.le_refl _
  | d + 1 => by rw [← Nat.add_assoc, cnt_step]; have := cnt_mono p i d; omega
theorem cnt_lt_of (p : Nat → Bool) {i r : Nat} (h : i < r) (hp : p i = true) : cnt p 0 i < cnt p 0 r := by
  have h1 := cnt_mono p (i + 1) (r - (i + 1))
  rw [show i + 1 + (r - (i + 1)) = r by omega, cnt_step, if_pos hp] at h1
  omega
theorem cnt_le_of (q : Nat → Bool) (j : Nat) : ∀ t, (∀ i, i < t → q i = true → cnt q 0 i < j) → cnt q 0 t ≤ j
  | 0, _ => by simp [cnt]
  | t + 1, h => by
    rw [cnt_step]
    split
    · have := h t (by omega) (by assumption); omega
    · have := cnt_le_of q j t (fun i hi => h i (by omega)); omega

/-- the number of the set that has k others below it, or n -/
def selP (p : Nat → Bool) (n k : Nat) : Nat := nxt (fun i => p i && decide (cnt p 0 i = k)) 0 n
theorem selP_eq {p : Nat → Bool} {n k r : Nat} (hr : r < n) (hp : p r = true) (hc : cnt p 0 r = k) : selP p n k = r := by
  refine nxt_eq (Nat.zero_le _) (Nat.zero_le _) (Nat.le_of_lt hr) (fun i _ hi => ?_) (fun _ => by simp [hp, hc])
  cases hpi : p i with
  | false => rfl
  | true =>
    have := cnt_lt_of p hi hpi
    simp; omega
theorem selP_none {p : Nat → Bool} {n k : Nat} (h : cnt p 0 n ≤ k) : selP p n k = n := by
  refine nxt_eq (Nat.zero_le _) (Nat.zero_le _) (Nat.le_refl _) (fun i _ hi => ?_) (fun h => absurd h (Nat.lt_irrefl _))
  cases hpi : p i with
  | false => rfl
  | true =>
    have := cnt_lt_of p hi hpi
    simp; omega

/-- the lowest bit cleared -/
theorem low_clear {y : Nat} (h0 : y ≠ 0) (h : y < 18446744073709551616) (i : Nat) : (y &&& (y - 1)).testBit i = (y.testBit i && decide (i ≠ Lib.ctz 64 y)) := by
  obtain ⟨h1, h2, h3⟩ := ctz_bit h0 h
  obtain ⟨t, ht⟩ : ∃ t, Lib.ctz 64 y = t := ⟨_, rfl⟩
  rw [ht] at h1 h2 h3 ⊢
  have hm : y % 2 ^ (t + 1) = 2 ^ t := by
    apply Nat.eq_of_testBit_eq
    intro j
    rw [Nat.testBit_mod_two_pow, Nat.testBit_two_pow]
    by_cases hj : j < t
    · simp [h3 j hj]; omega
    · by_cases hjt : j = t
      · subst hjt; simp [h2]
      · have : ¬ j < t + 1 := by omega
        simp [this]; omega
  have hy := Nat.div_add_mod y (2 ^ (t + 1))
  rw [hm] at hy
  have hp := Nat.two_pow_pos t
  have e1 : y - 1 = 2 ^ (t + 1) * (y / 2 ^ (t + 1)) + (2 ^ t - 1) := by omega
  have hlt : 2 ^ t < 2 ^ (t + 1) := Nat.pow_lt_pow_right (by decide) (by omega)
  rw [Nat.testBit_and, e1, Nat.testBit_two_pow_mul_add _ (by omega)]
  by_cases hj : i < t + 1
  · rw [if_pos hj, Nat.testBit_two_pow_sub_one]
    by_cases hjt : i = t
    · subst hjt; simp
    · have : i < t := by omega
      simp [h3 i this]
  · rw [if_neg hj]
    have hit : i ≠ t := by omega
    have e2 : y.testBit i = (y / 2 ^ (t + 1)).testBit (i - (t + 1)) := by
      rw [Nat.testBit_div_two_pow]; congr 1; omega
    simp [hit, e2]
/-- the word x with its j lowest bits cleared -/
def Cleared (x j y : Nat) : Prop := y < 18446744073709551616 ∧ ∀ i, i < 64 → y.testBit i = (x.testBit i && decide (j ≤ cnt x.testBit 0 i))
theorem Cleared.zero {x : Nat} (h : x < 18446744073709551616) : Cleared x 0 x := ⟨h, fun i _ => by simp⟩
theorem Cleared.ne {x j y : Nat} (h : Cleared x j y) (hj : j < pop x) : y ≠ 0 := by
  rintro rfl
  have := cnt_le_of x.testBit j 64 (fun i hi hp => by
    have h2 := h.2 i hi
    simp [hp] at h2
    omega)
  unfold pop at hj
  omega
theorem Cleared.at {x j y : Nat} (h : Cleared x j y) (hj : j < pop x) : Lib.ctz 64 y < 64 ∧ x.testBit (Lib.ctz 64 y) = true ∧ cnt x.testBit 0 (Lib.ctz 64 y) = j := by
  obtain ⟨h1, h2, h3⟩ := ctz_bit (h.ne hj) h.1
  have h4 := h.2 _ h1
  rw [h2] at h4
  have h5 : x.testBit (Lib.ctz 64 y) = true ∧ j ≤ cnt x.testBit 0 (Lib.ctz 64 y) := by
    have := h4.symm; simpa using this
  refine ⟨h1, h5.1, Nat.le_antisymm (cnt_le_of _ _ _ fun i hi hp => ?_) h5.2⟩
  have h6 := h.2 i (by omega)
  rw [h3 i hi, hp] at h6
  simp at h6
  omega
theorem Cleared.step {x j y : Nat} (h : Cleared x j y) (hj : j < pop x) : Cleared x (j + 1) (y &&& (y - 1)) := by
  obtain ⟨h1, h2, h3⟩ := h.at hj
  refine ⟨Nat.lt_of_le_of_lt Nat.and_le_left h.1, fun i hi => ?_⟩
  rw [low_clear (h.ne hj) h.1, h.2 i hi]
  obtain ⟨t, ht⟩ : ∃ t, Lib.ctz 64 y = t := ⟨_, rfl⟩
  rw [ht] at h1 h2 h3 ⊢
  cases hx : x.testBit i with
  | false => simp
  | true =>
    rcases Nat.lt_trichotomy i t with hlt | rfl | hgt
    · have := cnt_lt_of x.testBit hlt hx
      rw [decide_eq_false (show ¬ j ≤ cnt x.testBit 0 i by omega), decide_eq_false (show ¬ j + 1 ≤ cnt x.testBit 0 i by omega)]
      simp
    · rw [decide_eq_false (show ¬ j + 1 ≤ cnt x.testBit 0 i by omega), decide_eq_false (show ¬ i ≠ i by simp)]
      simp
    · have := cnt_lt_of x.testBit hgt h2
      rw [decide_eq_true (show j ≤ cnt x.testBit 0 i by omega), decide_eq_true (show j + 1 ≤ cnt x.testBit 0 i by omega), decide_eq_true (show i ≠ t by omega)]
      simp
/-- where the word holds it -/
theorem sel_word {ws : List Nat} {on : Bool} {n w k y : Nat} (hw : ∀ x ∈ ws, x < 18446744073709551616) (hc : cnt (look ws on) 0 (64 * w) ≤ k) (hk : k - cnt (look ws on) 0 (64 * w) < pop (wrd (ws.getD w 0) on (min 64 (n - 64 * w))))
    (h : Cleared (wrd (ws.getD w 0) on (min 64 (n - 64 * w))) (k - cnt (look ws on) 0 (64 * w)) y) : selP (look ws on) n k = 64 * w + Lib.ctz 64 y ∧ 64 * w + Lib.ctz 64 y < n := by
  obtain ⟨h1, h2, h3⟩ := h.at hk
  obtain ⟨t, ht⟩ : ∃ t, Lib.ctz 64 y = t := ⟨_, rfl⟩
  rw [ht] at h1 h2 h3 ⊢
  have hx := getD_lt hw (by decide) w
  have h4 := h2
  rw [wrd_testBit hx on (by omega)] at h4
  have hm : t < min 64 (n - 64 * w) := by simp at h4; omega
  have hlt : 64 * w + t < n := by omega
  refine ⟨selP_eq hlt ?_ ?_, hlt⟩
  · rw [← look_word hw hm]; exact h2
  · rw [cnt_add]
    have e : cnt (fun j => look ws on (64 * w + j) && decide (0 ≤ 64 * w + j)) 0 t = cnt (wrd (ws.getD w 0) on (min 64 (n - 64 * w))).testBit 0 t := by
      apply cnt_congr
      intro i hi
      rw [look_word hw (show i < min 64 (n - 64 * w) by omega)]
      simp
    rw [e, h3]
    omega
/-- a word passed -/
theorem sel_pass {ws : List Nat} {on : Bool} {n w : Nat} (hw : ∀ x ∈ ws, x < 18446744073709551616) (hn : 64 * w ≤ n) : cnt (look ws on) 0 (min n (64 * (w + 1))) = cnt (look ws on) 0 (64 * w) + pop (wrd (ws.getD w 0) on (min 64 (n - 64 * w))) := by
  have hx := getD_lt hw (by decide) w
  rw [show min n (64 * (w + 1)) = 64 * w + min 64 (n - 64 * w) by omega, cnt_add]
  congr 1
  unfold pop
  have e1 : cnt (wrd (ws.getD w 0) on (min 64 (n - 64 * w))).testBit 0 64 = cnt (wrd (ws.getD w 0) on (min 64 (n - 64 * w))).testBit 0 (min 64 (n - 64 * w)) := by
    apply cnt_cut _ (by omega)
    intro i h1 _
    rw [wrd_testBit hx on (by omega)]
    simp; omega
  rw [e1]
  apply cnt_congr
  intro i hi
  rw [look_word hw hi]
  simp
end Go.Proofs.YtikdgnfcckenmaaDoor
