/- The last bit below one; what BitsSelects asks, in plain terms. -/
import Derived.Test.YtikdgnfcckenmaaDoorPlainS
import Derived.Test.YtikdgnfcckenmaaDoorPlainC
import Derived.Lib.ItoaNum
namespace Go.Proofs.YtikdgnfcckenmaaDoor

/-- the last bit below t -/
def lst (p : Nat → Bool) : Nat → Option Nat
  | 0 => none
  | t + 1 => if p t = true then some t else lst p t
theorem lst_none {p : Nat → Bool} : ∀ {t : Nat}, (∀ i, i < t → p i = false) → lst p t = none
  | 0, _ => rfl
  | t + 1, h => by
    have h1 := h t (by omega)
    simp only [lst, h1]
    exact lst_none fun i hi => h i (by omega)
theorem lst_some {p : Nat → Bool} {r : Nat} (hp : p r = true) : ∀ {t : Nat}, r < t → (∀ i, r < i → i < t → p i = false) → lst p t = some r
  | 0, h, _ => by omega
  | t + 1, h, h2 => by
    by_cases e : r = t
    · subst e; simp only [lst, hp, if_true]
    · have h1 := h2 t (by omega) (by omega)
      simp only [lst, h1]
      exact lst_some hp (by omega) fun i a b => h2 i a (by omega)

theorem top_bit {x : Nat} (h0 : x ≠ 0) (h : x < 18446744073709551616) : 1 ≤ Lib.bitLen x ∧ Lib.bitLen x ≤ 64 ∧ x.testBit (Lib.bitLen x - 1) = true ∧ ∀ j, Lib.bitLen x ≤ j → x.testBit j = false := by
  obtain ⟨h1, h2, h3⟩ := Lib.bitLenAux_bounds 64 x (by simpa using h) h0
  have e : Lib.bitLen x = Lib.bitLenAux 64 x := rfl
  have h4 := Lib.bitLen_le x 64 (Nat.le_refl _) (by simpa using h)
  rw [← e] at h1 h2 h3
  refine ⟨h1, h4, ?_, fun j hj => Nat.testBit_lt_two_pow (Nat.lt_of_lt_of_le h3 (Nat.pow_le_pow_right (by decide) hj))⟩
  rw [Nat.testBit_eq_decide_div_mod_eq]
  have hd : x / 2 ^ (Lib.bitLen x - 1) = 1 := by
    have hp : 2 ^ Lib.bitLen x = 2 * 2 ^ (Lib.bitLen x - 1) := by
      rw [show Lib.bitLen x = (Lib.bitLen x - 1) + 1 by omega, Nat.pow_succ]; simp; omega
    exact Nat.div_eq_of_lt_le (by omega) (by omega)
  rw [hd]; rfl

/-- one round: nothing in this word -/
theorem last_none {ws : List Nat} {on : Bool} {n t k : Nat} (hw : ∀ x ∈ ws, x < 18446744073709551616) (ht : t ≤ n)
    (h : wrd (ws.getD k 0) on (min 64 (n - 64 * k)) &&& mk 0 (min 64 (t - 64 * k)) = 0) : ∀ i, 64 * k ≤ i → i < 64 * (k + 1) → i < t → look ws on i = false := by
  intro i h1 h2 h3
  have e := look_word (ws := ws) (on := on) (n := n) (k := k) (j := i - 64 * k) hw (by omega)
  rw [show 64 * k + (i - 64 * k) = i by omega] at e
  have hb : (wrd (ws.getD k 0) on (min 64 (n - 64 * k)) &&& mk 0 (min 64 (t - 64 * k))).testBit (i - 64 * k) = false := by rw [h]; simp
  rw [Nat.testBit_and, mk_testBit (by omega) (by omega), e] at hb
  simpa [show i - 64 * k < min 64 (t - 64 * k) by omega] using hb
theorem last_some {ws : List Nat} {on : Bool} {n t k : Nat} (hw : ∀ x ∈ ws, x < 18446744073709551616) (ht : t ≤ n)
    (h : wrd (ws.getD k 0) on (min 64 (n - 64 * k)) &&& mk 0 (min 64 (t - 64 * k)) ≠ 0) (hpre : ∀ i, 64 * (k + 1) ≤ i → i < t → look ws on i = false) :
    lst (look ws on) t = some (64 * k + Lib.bitLen (wrd (ws.getD k 0) on (min 64 (n - 64 * k)) &&& mk 0 (min 64 (t - 64 * k))) - 1) := by
  obtain ⟨c0, c1, c2, c3⟩ := top_bit h (Nat.lt_of_le_of_lt Nat.and_le_left (wrd_lt _ _ _))
  generalize Lib.bitLen (wrd (ws.getD k 0) on (min 64 (n - 64 * k)) &&& mk 0 (min 64 (t - 64 * k))) = c at *
  rw [Nat.testBit_and, mk_testBit (by omega) (by omega)] at c2
  simp only [Bool.and_eq_true, decide_eq_true_eq] at c2
  have hlt : c - 1 < min 64 (n - 64 * k) := by
    have := c2.1
    rw [wrd_testBit (getD_lt hw (by decide) k) on (by omega)] at this
    simp only [Bool.and_eq_true, decide_eq_true_eq] at this
    exact this.1
  have hl := look_word (ws := ws) (on := on) (n := n) (k := k) hw hlt
  rw [c2.1] at hl
  rw [show 64 * k + c - 1 = 64 * k + (c - 1) by omega]
  refine lst_some hl.symm (by omega) fun i h1 h2 => ?_
  by_cases hik : 64 * (k + 1) ≤ i
  · exact hpre i hik h2
  · have e := look_word (ws := ws) (on := on) (n := n) (k := k) (j := i - 64 * k) hw (by omega)
    rw [show 64 * k + (i - 64 * k) = i by omega] at e
    have := c3 (i - 64 * k) (by omega)
    rw [Nat.testBit_and, mk_testBit (by omega) (by omega), e] at this
    simpa [show i - 64 * k < min 64 (t - 64 * k) by omega] using this

theorem cnt_le_of_no {p : Nat → Bool} {k : Nat} : ∀ n, (∀ i, i < n → p i = true → cnt p 0 i ≠ k) → cnt p 0 n ≤ k
  | 0, _ => by simp [cnt]
  | n + 1, h => by
    have ih := cnt_le_of_no n fun i hi => h i (by omega)
    rw [cnt_step]
    by_cases hp : p n = true
    · have := h n (by omega) hp
      rw [if_pos hp]; omega
    · rw [if_neg hp]; omega
/-- bits that are found by their number -/
theorem selP_spec {p : Nat → Bool} {n k : Nat} (h : k < cnt p 0 n) : selP p n k < n ∧ p (selP p n k) = true ∧ cnt p 0 (selP p n k) = k := by
  obtain ⟨_, h2, h3, h4⟩ := nxt_spec (p := fun i => p i && decide (cnt p 0 i = k)) (a := 0) (n := n) (Nat.zero_le _)
  by_cases hlt : selP p n k < n
  · have := h4 hlt
    simp only [Bool.and_eq_true, decide_eq_true_eq] at this
    exact ⟨hlt, this.1, this.2⟩
  · exfalso
    have hn : selP p n k = n := Nat.le_antisymm h2 (by omega)
    have hall : ∀ i, i < n → p i = true → cnt p 0 i ≠ k := fun i hi hp hc => by
      have := h3 i (Nat.zero_le _) (by have : nxt (fun i => p i && decide (cnt p 0 i = k)) 0 n = n := hn; omega)
      simp [hp, hc] at this
    have := cnt_le_of_no n hall
    omega
theorem selP_lst0 {p : Nat → Bool} {i : Nat} (hc : cnt p 0 i = 0) : lst p i = none := lst_none fun j hj => cnt_eq_zero hc j (Nat.zero_le _) hj
theorem selP_nxt0 {p : Nat → Bool} {n i : Nat} (hi : i < n) (hp : p i = true) (hc : cnt p 0 i = 0) : nxt p 0 n = i :=
  nxt_eq (Nat.zero_le _) (Nat.zero_le _) (by omega) (fun j _ hj => cnt_eq_zero hc j (Nat.zero_le _) hj) (fun _ => hp)
theorem cnt_gap {p : Nat → Bool} {b i : Nat} (_ : b < i) (hp : p b = true) (hc : cnt p 0 i = cnt p 0 b + 1) : ∀ j, b < j → j < i → p j = false := by
  intro j h1 h2
  by_cases hj : p j = true
  · exfalso
    have a1 := cnt_lt_of p h1 hp
    have a2 := cnt_lt_of p h2 hj
    omega
  · simpa using hj
theorem cnt_lt_imp {p : Nat → Bool} {b i : Nat} (h : cnt p 0 b < cnt p 0 i) : b < i := by
  rcases Nat.lt_or_ge b i with h1 | h1
  · exact h1
  · have := cnt_mono p i (b - i)
    rw [show i + (b - i) = b by omega] at this
    omega
/-- the neighbours of what was found -/
theorem sel_before {p : Nat → Bool} {n k : Nat} (h : k < cnt p 0 n) (hk : 0 < k) :
    selP p n (k - 1) < selP p n k ∧ lst p (selP p n k) = some (selP p n (k - 1)) ∧ nxt p (selP p n (k - 1) + 1) n = selP p n k := by
  obtain ⟨a1, a2, a3⟩ := selP_spec h
  obtain ⟨b1, b2, b3⟩ := selP_spec (p := p) (n := n) (k := k - 1) (by omega)
  have hlt : selP p n (k - 1) < selP p n k := cnt_lt_imp (p := p) (by omega)
  have hg := cnt_gap hlt b2 (by omega)
  refine ⟨hlt, lst_some b2 hlt hg, nxt_eq (by omega) (by omega) (by omega) (fun j h1 h2 => hg j (by omega) h2) (fun _ => a2)⟩
/-- clear bits are those that are not set -/
theorem cnt_not (p : Nat → Bool) : ∀ n, cnt (fun i => !p i) 0 n + cnt p 0 n = n
  | 0 => rfl
  | n + 1 => by
    have := cnt_not p n
    rw [cnt_step, cnt_step]
    cases p n <;> simp <;> omega
theorem look_true (ws : List Nat) : look ws true = bat ws := by funext i; simp [look]
theorem look_false (ws : List Nat) : look ws false = fun i => !bat ws i := by funext i; simp [look]
end Go.Proofs.YtikdgnfcckenmaaDoor
