/- Plain facts: the first set bit; searching. No program. -/
import Derived.Test.YtgbdhmdaefbglaaDoorPlainB
import Derived.Lib.TrailingZeros
namespace Go.Proofs.YtgbdhmdaefbglaaDoor

/-- the first i from a on, below n, that holds; else n -/
def nxtF (p : Nat → Bool) : Nat → Nat → Nat
  | 0, a => a
  | m + 1, a => if p a = true then a else nxtF p m (a + 1)
def nxt (p : Nat → Bool) (a n : Nat) : Nat := nxtF p (n - a) a
theorem nxtF_spec (p : Nat → Bool) : ∀ m a, a ≤ nxtF p m a ∧ nxtF p m a ≤ a + m ∧ (∀ i, a ≤ i → i < nxtF p m a → p i = false) ∧ (nxtF p m a < a + m → p (nxtF p m a) = true)
  | 0, a => ⟨Nat.le_refl _, Nat.le_refl _, fun i h1 h2 => by simp only [nxtF] at h2; omega, fun h => by simp only [nxtF] at h; omega⟩
  | m + 1, a => by
    simp only [nxtF]
    split
    · rename_i h
      exact ⟨Nat.le_refl _, by omega, fun i h1 h2 => by omega, fun _ => h⟩
    · rename_i h
      obtain ⟨h1, h2, h3, h4⟩ := nxtF_spec p m (a + 1)
      refine ⟨by omega, by omega, fun i hi hj => ?_, fun hlt => h4 (by omega)⟩
      by_cases e : i = a
      · subst e; simpa using h
      · exact h3 i (by omega) hj
theorem nxt_spec {p : Nat → Bool} {a n : Nat} (h : a ≤ n) : a ≤ nxt p a n ∧ nxt p a n ≤ n ∧ (∀ i, a ≤ i → i < nxt p a n → p i = false) ∧ (nxt p a n < n → p (nxt p a n) = true) := by
  obtain ⟨h1, h2, h3, h4⟩ := nxtF_spec p (n - a) a
  refine ⟨h1, ?_, h3, fun hlt => h4 ?_⟩
  · unfold nxt; omega
  · unfold nxt at hlt; omega
theorem nxt_eq {p : Nat → Bool} {a n r : Nat} (h : a ≤ n) (h1 : a ≤ r) (h2 : r ≤ n) (h3 : ∀ i, a ≤ i → i < r → p i = false) (h4 : r < n → p r = true) : nxt p a n = r := by
  obtain ⟨g1, g2, g3, g4⟩ := nxt_spec (p := p) h
  rcases Nat.lt_trichotomy (nxt p a n) r with hlt | he | hgt
  · have := h3 _ g1 hlt
    rw [g4 (by omega)] at this; cases this
  · exact he
  · have := g3 _ h1 hgt
    rw [h4 (by omega)] at this; cases this

theorem ctz_bit {x : Nat} (h0 : x ≠ 0) (h : x < 18446744073709551616) : Lib.ctz 64 x < 64 ∧ x.testBit (Lib.ctz 64 x) = true ∧ ∀ j, j < Lib.ctz 64 x → x.testBit j = false := by
  obtain ⟨m, hm, hl⟩ := Lib.ctzFrom_spec 64 x (by omega) h
  have e : Lib.ctz 64 x = Lib.ctzFrom 64 x := by unfold Lib.ctz; rw [if_neg h0]
  rw [e]
  generalize Lib.ctzFrom 64 x = c at *
  subst hm
  refine ⟨hl, ?_, fun j hj => ?_⟩
  · rw [Nat.testBit_two_pow_mul]
    simp
  · rw [Nat.testBit_two_pow_mul]
    simp; omega

/-- the bits of a word that are looked for -/
def wrd (x : Nat) (on : Bool) (t : Nat) : Nat := (if on then x else 18446744073709551615 - x) &&& mk 0 t
theorem wrd_lt (x : Nat) (on : Bool) (t : Nat) : wrd x on t < 18446744073709551616 := Nat.lt_of_le_of_lt Nat.and_le_right (mk_lt 0 t)
theorem flip_testBit {x : Nat} (hx : x < 18446744073709551616) (j : Nat) : (18446744073709551615 - x).testBit j = (decide (j < 64) && !x.testBit j) := by
  have := Nat.testBit_two_pow_sub_succ (x := x) (n := 64) (by simpa using hx) j
  rw [show 2 ^ 64 - (x + 1) = 18446744073709551615 - x by omega] at this
  exact this
theorem wrd_testBit {x : Nat} (hx : x < 18446744073709551616) (on : Bool) {t : Nat} (ht : t ≤ 64) (j : Nat) : (wrd x on t).testBit j = (decide (j < t) && (x.testBit j == on)) := by
  unfold wrd
  rw [Nat.testBit_and, mk_testBit (by omega) ht]
  cases on
  · rw [if_neg (by simp), flip_testBit hx]
    by_cases h : j < t <;> simp [h] <;> omega
  · simp
    cases x.testBit j <;> simp
/-- what is looked for in bits -/
def look (ws : List Nat) (on : Bool) (i : Nat) : Bool := bat ws i == on
theorem look_word {ws : List Nat} {on : Bool} {n k j : Nat} (hw : ∀ x ∈ ws, x < 18446744073709551616) (hj : j < min 64 (n - 64 * k)) : (wrd (ws.getD k 0) on (min 64 (n - 64 * k))).testBit j = look ws on (64 * k + j) := by
  rw [wrd_testBit (getD_lt hw (by decide) k) on (by omega)]
  unfold look
  rw [bat_at _ _ _ (by omega)]
  simp [hj]
/-- one round of the search: nothing in this word -/
theorem next_none {ws : List Nat} {on : Bool} {n f k : Nat} (hw : ∀ x ∈ ws, x < 18446744073709551616)
    (h : wrd (ws.getD k 0) on (min 64 (n - 64 * k)) &&& mk (f - 64 * k) 64 = 0) (hf : f ≤ 64 * (k + 1)) : ∀ i, f ≤ i → 64 * k ≤ i → i < min n (64 * (k + 1)) → look ws on i = false := by
  intro i h1 h2 h3
  have e := look_word (ws := ws) (on := on) (n := n) (k := k) (j := i - 64 * k) hw (by omega)
  rw [show 64 * k + (i - 64 * k) = i by omega] at e
  have hb : (wrd (ws.getD k 0) on (min 64 (n - 64 * k)) &&& mk (f - 64 * k) 64).testBit (i - 64 * k) = false := by rw [h]; simp
  rw [Nat.testBit_and, mk_testBit (by omega) (by omega), e] at hb
  simpa [show f - 64 * k ≤ i - 64 * k by omega, show i - 64 * k < 64 by omega] using hb
/-- .. and where there is something -/
theorem next_some {ws : List Nat} {on : Bool} {n f k : Nat} (hw : ∀ x ∈ ws, x < 18446744073709551616)
    (h : wrd (ws.getD k 0) on (min 64 (n - 64 * k)) &&& mk (f - 64 * k) 64 ≠ 0) (hf : f ≤ 64 * (k + 1)) (hfn : f ≤ n) (hpre : ∀ i, f ≤ i → i < min n (64 * k) → look ws on i = false) :
    nxt (look ws on) f n = 64 * k + Lib.ctz 64 (wrd (ws.getD k 0) on (min 64 (n - 64 * k)) &&& mk (f - 64 * k) 64) := by
  obtain ⟨c1, c2, c3⟩ := ctz_bit h (Nat.lt_of_le_of_lt Nat.and_le_left (wrd_lt _ _ _))
  generalize Lib.ctz 64 (wrd (ws.getD k 0) on (min 64 (n - 64 * k)) &&& mk (f - 64 * k) 64) = c at *
  rw [Nat.testBit_and, mk_testBit (by omega) (by omega)] at c2
  simp only [Bool.and_eq_true, decide_eq_true_eq] at c2
  have hlt : c < min 64 (n - 64 * k) := by
    have := c2.1
    rw [wrd_testBit (getD_lt hw (by decide) k) on (by omega)] at this
    simp only [Bool.and_eq_true, decide_eq_true_eq] at this
    exact this.1
  have hl := look_word (ws := ws) (on := on) (n := n) (k := k) hw hlt
  rw [c2.1] at hl
  refine nxt_eq hfn (by omega) (by omega) (fun i h1 h2 => ?_) (fun _ => hl.symm)
  by_cases hik : i < 64 * k
  · exact hpre i h1 (by omega)
  · have e := look_word (ws := ws) (on := on) (n := n) (k := k) (j := i - 64 * k) hw (by omega)
    rw [show 64 * k + (i - 64 * k) = i by omega] at e
    have := c3 (i - 64 * k) (by omega)
    rw [Nat.testBit_and, mk_testBit (by omega) (by omega), e] at this
    simpa [show f - 64 * k ≤ i - 64 * k by omega, show i - 64 * k < 64 by omega] using this
end Go.Proofs.YtgbdhmdaefbglaaDoor
