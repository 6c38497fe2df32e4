/- Plain facts: bits packed into words. No program. -/
import Derived.Test.YtfmclbacoffdaaaDoorPlainC
namespace Go.Proofs.YtfmclbacoffdaaaDoor

/-- the word whose bit j is q j, of m bits -/
def wordOf (q : Nat → Bool) : Nat → Nat
  | 0 => 0
  | m + 1 => wordOf q m + (if q m = true then 2 ^ m else 0)
theorem wordOf_lt (q : Nat → Bool) : ∀ m, wordOf q m < 2 ^ m
  | 0 => by simp [wordOf]
  | m + 1 => by have := wordOf_lt q m; simp only [wordOf, Nat.pow_succ]; split <;> omega
theorem wordOf_testBit (q : Nat → Bool) : ∀ m j, (wordOf q m).testBit j = (decide (j < m) && q j)
  | 0, j => by simp [wordOf]
  | m + 1, j => by
    have hlt := wordOf_lt q m
    simp only [wordOf]
    by_cases hq : q m = true
    · rw [if_pos hq, Nat.add_comm, show 2 ^ m + wordOf q m = 2 ^ m * 1 + wordOf q m by simp, Nat.testBit_two_pow_mul_add _ hlt]
      by_cases h : j < m
      · rw [if_pos h, wordOf_testBit q m j]; simp [h, show j < m + 1 by omega]
      · rw [if_neg h]
        by_cases e : j = m
        · subst e; simp [hq]
        · have h1 : ¬ j < m + 1 := by omega
          rw [Nat.testBit_lt_two_pow (Nat.one_lt_two_pow (by omega : j - m ≠ 0))]; simp [h1]
    · rw [if_neg hq, Nat.add_zero, wordOf_testBit q m j]
      by_cases e : j = m
      · subst e; simp at hq; simp [hq]
      · by_cases h : j < m
        · simp [h, show j < m + 1 by omega]
        · simp [h, show ¬ j < m + 1 by omega]
/-- words with these bits -/
def pack (p : Nat → Bool) (len : Nat) : List Nat := (List.range len).map fun w => wordOf (fun j => p (64 * w + j)) 64
theorem pack_length (p : Nat → Bool) (len : Nat) : (pack p len).length = len := by simp [pack]
theorem pack_getD (p : Nat → Bool) (len k : Nat) (hk : k < len) : (pack p len).getD k 0 = wordOf (fun j => p (64 * k + j)) 64 := by
  simp [pack, List.getD_eq_getElem?_getD, hk]
theorem pack_lt (p : Nat → Bool) (len : Nat) : ∀ x ∈ pack p len, x < 18446744073709551616 := by
  intro x hx
  simp only [pack, List.mem_map] at hx
  obtain ⟨_, _, rfl⟩ := hx
  exact wordOf_lt _ 64
theorem pack_bat (p : Nat → Bool) (len i : Nat) (hi : i < 64 * len) : bat (pack p len) i = p i := by
  unfold bat
  rw [pack_getD _ _ _ (by omega), wordOf_testBit]
  simp only [show i % 64 < 64 by omega, decide_true, Bool.true_and]
  congr 1; omega
theorem bat_out (ws : List Nat) (i : Nat) (h : 64 * ws.length ≤ i) : bat ws i = false := by
  unfold bat
  rw [List.getD_eq_getElem?_getD, List.getElem?_eq_none (by omega)]; simp
theorem pack_unique {L : List Nat} {p : Nat → Bool} {len : Nat} (hl : L.length = len) (hw : ∀ x ∈ L, x < 18446744073709551616) (h : ∀ i, i < 64 * len → bat L i = p i) : L = pack p len := by
  apply List.ext_getElem?
  intro k
  by_cases hk : k < len
  · have e1 : L[k]? = some (L.getD k 0) := by rw [List.getD_eq_getElem?_getD, List.getElem?_eq_getElem (by omega)]; rfl
    have e2 : (pack p len)[k]? = some ((pack p len).getD k 0) := by rw [List.getD_eq_getElem?_getD, List.getElem?_eq_getElem (by rw [pack_length]; exact hk)]; rfl
    rw [e1, e2]
    congr 1
    apply Nat.eq_of_testBit_eq
    intro j
    by_cases hj : j < 64
    · have a1 := bat_at L k j hj
      have a2 := bat_at (pack p len) k j hj
      rw [← a1, ← a2, h _ (by omega), pack_bat _ _ _ (by omega)]
    · have hb : (64 : Nat) ≤ j := by omega
      have t : ∀ x, x < 18446744073709551616 → Nat.testBit x j = false := fun x hx => Nat.testBit_lt_two_pow (Nat.lt_of_lt_of_le hx (by have := Nat.pow_le_pow_right (n := 2) (by decide) hb; simpa using this))
      rw [t _ (getD_lt hw (by decide) k), t _ (getD_lt (pack_lt p len) (by decide) k)]
  · rw [List.getElem?_eq_none (by omega), List.getElem?_eq_none (by rw [pack_length]; omega)]
theorem pack_congr {p q : Nat → Bool} {len : Nat} (h : ∀ i, i < 64 * len → p i = q i) : pack p len = pack q len :=
  pack_unique (pack_length _ _) (pack_lt _ _) fun i hi => by rw [pack_bat _ _ _ hi, h i hi]

theorem bat_set {L : List Nat} {k v : Nat} (hk : k < L.length) (i : Nat) : bat (L.set k v) i = if i / 64 = k then v.testBit (i % 64) else bat L i := by
  unfold bat
  rw [List.getD_eq_getElem?_getD, List.getElem?_set]
  by_cases h : k = i / 64
  · rw [if_pos h, if_pos (by omega), if_pos h.symm]; rfl
  · rw [if_neg h, if_neg (fun e => h e.symm), List.getD_eq_getElem?_getD]
theorem set_lt {L : List Nat} {k v B : Nat} (hw : ∀ x ∈ L, x < B) (hv : v < B) : ∀ x ∈ L.set k v, x < B := by
  intro x hx
  rcases List.mem_or_eq_of_mem_set hx with h | h
  · exact hw x h
  · rw [h]; exact hv

/-- what fill makes of the bits -/
def filled (p : Nat → Bool) (f t : Nat) (on : Bool) (i : Nat) : Bool := if f ≤ i ∧ i < t then on else p i
/-- one round of fill -/
theorem fill_step (p : Nat → Bool) {f t k len : Nat} (on : Bool) (h : 64 * k < t) (hf : f / 64 ≤ k) (hk : k < len) :
    (pack (filled p f (min t (64 * k)) on) len).set k (if on = true then (pack (filled p f (min t (64 * k)) on) len).getD k 0 ||| mk (f - 64 * k) (min 64 (t - 64 * k)) else (pack (filled p f (min t (64 * k)) on) len).getD k 0 &&& (18446744073709551615 - mk (f - 64 * k) (min 64 (t - 64 * k)))) =
    pack (filled p f (min t (64 * (k + 1))) on) len := by
  have hx := getD_lt (pack_lt (filled p f (min t (64 * k)) on) len) (by decide) k
  refine pack_unique (by rw [List.length_set, pack_length]) (set_lt (pack_lt _ _) ?_) fun i hi => ?_
  · split
    · exact Nat.or_lt_two_pow (n := 64) hx (mk_lt _ _)
    · exact Nat.lt_of_le_of_lt Nat.and_le_left hx
  · rw [bat_set (by rw [pack_length]; exact hk)]
    by_cases hik : i / 64 = k
    · rw [if_pos hik]
      have e := bat_at (pack (filled p f (min t (64 * k)) on) len) k (i % 64) (by omega)
      rw [show 64 * k + i % 64 = i by omega, pack_bat _ _ _ hi] at e
      have e' : filled p f (min t (64 * k)) on i = p i := by unfold filled; rw [if_neg (by omega)]
      rw [e'] at e
      cases on
      · rw [if_neg (by simp), Nat.testBit_and, ← e, flip_testBit (mk_lt _ _), mk_testBit (by omega) (by omega)]
        unfold filled
        by_cases c : f ≤ i ∧ i < min t (64 * (k + 1))
        · rw [if_pos c]; simp [show f - 64 * k ≤ i % 64 by omega, show i % 64 < min 64 (t - 64 * k) by omega]
        · rw [if_neg c]
          by_cases c1 : f - 64 * k ≤ i % 64
          · have : ¬ i % 64 < min 64 (t - 64 * k) := by omega
            simp [this, show i % 64 < 64 by omega]
          · simp [c1, show i % 64 < 64 by omega]
      · rw [if_pos rfl, Nat.testBit_or, ← e, mk_testBit (by omega) (by omega)]
        unfold filled
        by_cases c : f ≤ i ∧ i < min t (64 * (k + 1))
        · rw [if_pos c]; simp [show f - 64 * k ≤ i % 64 by omega, show i % 64 < min 64 (t - 64 * k) by omega]
        · rw [if_neg c]
          by_cases c1 : f - 64 * k ≤ i % 64
          · have : ¬ i % 64 < min 64 (t - 64 * k) := by omega
            simp [this]
          · simp [c1]
    · rw [if_neg hik, pack_bat _ _ _ hi]
      unfold filled
      by_cases c : f ≤ i ∧ i < min t (64 * k)
      · rw [if_pos c, if_pos (by omega)]
      · rw [if_neg c, if_neg (by omega)]
theorem fill_start (ws : List Nat) (hw : ∀ x ∈ ws, x < 18446744073709551616) (f t : Nat) (on : Bool) : ws = pack (filled (bat ws) f (min t (64 * (f / 64))) on) ws.length :=
  pack_unique rfl hw fun i _ => by unfold filled; rw [if_neg (by omega)]
theorem fill_end (p : Nat → Bool) {f t k : Nat} (on : Bool) (len : Nat) (h : t ≤ 64 * k) : pack (filled p f (min t (64 * k)) on) len = pack (filled p f t on) len := by rw [show min t (64 * k) = t by omega]
end Go.Proofs.YtfmclbacoffdaaaDoor
