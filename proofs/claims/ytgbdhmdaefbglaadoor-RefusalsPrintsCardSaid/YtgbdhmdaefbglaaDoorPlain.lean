/- Plain facts on words and bits: no program. -/
import Derived.PlainAid
namespace Go.Proofs.YtgbdhmdaefbglaaDoor

/-- the bit i of a list of words -/
def bat (ws : List Nat) (i : Nat) : Bool := (ws.getD (i / 64) 0).testBit (i % 64)

/-- the answer of Check -/
def chk (N : Int) (ws : List Nat) : Int :=
  if N < 0 ∨ 4096 < N then 7 else if (ws.length : Int) ≠ (N + 63) / 64 then 6
  else if ∀ i, i < 64 * ws.length → N.toNat ≤ i → bat ws i = false then 0 else 6

theorem chk_range {N : Int} {ws : List Nat} (h : N < 0 ∨ 4096 < N) : chk N ws = 7 := by unfold chk; rw [if_pos h]
theorem chk_len {N : Int} {ws : List Nat} (h : ¬ (N < 0 ∨ 4096 < N)) (h2 : (ws.length : Int) ≠ (N + 63) / 64) : chk N ws = 6 := by
  unfold chk; rw [if_neg h, if_pos h2]
theorem chk_ok {N : Int} {ws : List Nat} (h : ¬ (N < 0 ∨ 4096 < N)) (h2 : (ws.length : Int) = (N + 63) / 64) (h3 : ∀ i, i < 64 * ws.length → N.toNat ≤ i → bat ws i = false) : chk N ws = 0 := by
  unfold chk; rw [if_neg h, if_neg (by simpa using h2), if_pos h3]
theorem chk_bad {N : Int} {ws : List Nat} (h : ¬ (N < 0 ∨ 4096 < N)) (h2 : (ws.length : Int) = (N + 63) / 64) (i : Nat) (hi : i < 64 * ws.length) (hn : N.toNat ≤ i) (hb : bat ws i = true) : chk N ws = 6 := by
  unfold chk; rw [if_neg h, if_neg (by simpa using h2), if_neg]
  intro h3; rw [h3 i hi hn] at hb; cases hb

theorem getD_lt {ws : List Nat} {B : Nat} (h : ∀ x ∈ ws, x < B) (hB : 0 < B) (i : Nat) : ws.getD i 0 < B := by
  by_cases hi : i < ws.length
  · rw [List.getD_eq_getElem?_getD, List.getElem?_eq_getElem hi]; exact h _ (List.getElem_mem hi)
  · rw [List.getD_eq_getElem?_getD, List.getElem?_eq_none (by omega)]; exact hB

/-- The test that Check makes of the last word. -/
theorem chk_word0 {n : Nat} {ws : List Nat} (hn : n ≤ 4096) (hl : (ws.length : Int) = ((n : Int) + 63) / 64) (h64 : n % 64 = 0) : chk n ws = 0 := by
  refine chk_ok (by omega) hl fun i hi hni => ?_
  have : ws.length = n / 64 := by omega
  omega
theorem chk_word {n : Nat} {ws : List Nat} (hn : n ≤ 4096) (hl : (ws.length : Int) = ((n : Int) + 63) / 64) (h64 : 0 < n % 64) (hw : ∀ x ∈ ws, x < 2 ^ 64) :
    chk n ws = if ws.getD (n / 64) 0 / 2 ^ (n % 64) = 0 then 0 else 6 := by
  have hlen : ws.length = n / 64 + 1 := by omega
  split
  · rename_i h0
    refine chk_ok (by omega) hl fun i hi hni => ?_
    have e : i / 64 = n / 64 := by omega
    unfold bat
    rw [e]
    have hlt : ws.getD (n / 64) 0 < 2 ^ (n % 64) := by
      rcases Nat.div_eq_zero_iff.1 h0 with h | h
      · exact absurd h (by have := Nat.two_pow_pos (n % 64); omega)
      · exact h
    refine Nat.testBit_lt_two_pow (Nat.lt_of_lt_of_le hlt (Nat.pow_le_pow_right (by decide) ?_))
    omega
  · rename_i h0
    have hx := getD_lt hw (by decide) (n / 64)
    have hne : ws.getD (n / 64) 0 / 2 ^ (n % 64) ≠ 0 := h0
    obtain ⟨j, hj⟩ := Nat.exists_testBit_of_ne_zero hne
    rw [Nat.testBit_div_two_pow] at hj
    have hj64 : j + n % 64 < 64 := by
      rcases Nat.lt_or_ge (j + n % 64) 64 with h | h
      · exact h
      · have := Nat.testBit_lt_two_pow (Nat.lt_of_lt_of_le hx (Nat.pow_le_pow_right (by decide) h))
        rw [this] at hj; cases hj
    refine chk_bad (by omega) hl (64 * (n / 64) + (j + n % 64)) (by omega) (by omega) ?_
    unfold bat
    rw [show (64 * (n / 64) + (j + n % 64)) / 64 = n / 64 by omega, show (64 * (n / 64) + (j + n % 64)) % 64 = j + n % 64 by omega]
    exact hj
end Go.Proofs.YtgbdhmdaefbglaaDoor
