/- Refusals, plain: which rules are needed. No program. -/
import Derived.Test.YtpjhedkloljpjaaDoorRRR5PlainC
namespace Go.Proofs.YtpjhedkloljpjaaDoorRR

/-- how many calls are looked at -/
def HZ : Nat := 49720
/-- is there another rule of those that are left that refuses this call? -/
def oth (n : Nat) (R : Nat → Rl) (S : Nat → Bool) (i : Nat) (c : Int) : Bool := (List.range n).any fun j => decide (j ≠ i) && S j && rfz (R j) (R i).1 c
theorem oth_iff {n : Nat} {R : Nat → Rl} {S : Nat → Bool} {i : Nat} {c : Int} : oth n R S i c = true ↔ ∃ j, j < n ∧ j ≠ i ∧ S j = true ∧ rfz (R j) (R i).1 c = true := by
  unfold oth
  simp only [List.any_eq_true, List.mem_range, Bool.and_eq_true, decide_eq_true_eq]
  constructor
  · rintro ⟨j, h1, ⟨h2, h3⟩, h4⟩; exact ⟨j, h1, h2, h3, h4⟩
  · rintro ⟨j, h1, h2, h3, h4⟩; exact ⟨j, h1, ⟨h2, h3⟩, h4⟩
/-- a rule is needed: it alone refuses some call -/
def Need (n : Nat) (R : Nat → Rl) (S : Nat → Bool) (i : Nat) : Prop := ∃ c : Int, 1 ≤ c ∧ c ≤ (HZ : Int) ∧ rfz (R i) (R i).1 c = true ∧ oth n R S i c = false
/-- what those that are left refuse -/
def rfS (n : Nat) (R : Nat → Rl) (S : Nat → Bool) (k c : Int) : Bool := (List.range n).any fun j => S j && rfz (R j) k c
theorem rfS_iff {n : Nat} {R : Nat → Rl} {S : Nat → Bool} {k c : Int} : rfS n R S k c = true ↔ ∃ j, j < n ∧ S j = true ∧ rfz (R j) k c = true := by
  unfold rfS; simp
/-- a rule that is left is not needed exactly if all is refused without it -/
theorem need_iff {n : Nat} {R : Nat → Rl} {S : Nat → Bool} {i : Nat} (hi : i < n) (hS : S i = true) :
    ¬ Need n R S i ↔ ∀ k c : Int, 1 ≤ c → c ≤ (HZ : Int) → rfS n R (fun j => S j && decide (j ≠ i)) k c = rfS n R S k c := by
  constructor
  · intro hn k c h1 h2
    rw [Bool.eq_iff_iff, rfS_iff, rfS_iff]
    constructor
    · rintro ⟨j, hj, hs, hr⟩
      simp only [Bool.and_eq_true, decide_eq_true_eq] at hs
      exact ⟨j, hj, hs.1, hr⟩
    · rintro ⟨j, hj, hs, hr⟩
      by_cases e : j = i
      · subst e
        have hk := rfz_kind hr
        subst hk
        cases ho : oth n R S j c with
        | false => exact absurd ⟨c, h1, h2, hr, ho⟩ hn
        | true =>
          obtain ⟨l, hl, hne, hsl, hrl⟩ := oth_iff.1 ho
          exact ⟨l, hl, by simp [hsl, hne], hrl⟩
      · exact ⟨j, hj, by simp [hs, e], hr⟩
  · rintro h ⟨c, h1, h2, hr, ho⟩
    have := h (R i).1 c h1 h2
    rw [Bool.eq_iff_iff, rfS_iff, rfS_iff] at this
    obtain ⟨j, hj, hs, hrj⟩ := this.2 ⟨i, hi, hS, hr⟩
    simp only [Bool.and_eq_true, decide_eq_true_eq] at hs
    rw [oth_iff.2 ⟨j, hj, hs.2, hs.1, hrj⟩] at ho
    cases ho
/-- which rules are left when the last m of n were looked at, from the end on -/
noncomputable def redS (n : Nat) (R : Nat → Rl) : Nat → Nat → Bool
  | 0 => fun _ => true
  | m + 1 => open Classical in if Need n R (redS n R m) (n - 1 - m) then redS n R m else fun j => redS n R m j && decide (j ≠ n - 1 - m)
theorem redS_yes {n : Nat} {R : Nat → Rl} {m : Nat} (h : Need n R (redS n R m) (n - 1 - m)) : redS n R (m + 1) = redS n R m := by simp only [redS]; rw [if_pos h]
theorem redS_no {n : Nat} {R : Nat → Rl} {m : Nat} (h : ¬ Need n R (redS n R m) (n - 1 - m)) : redS n R (m + 1) = fun j => redS n R m j && decide (j ≠ n - 1 - m) := by simp only [redS]; rw [if_neg h]
theorem redS_old {n : Nat} {R : Nat → Rl} : ∀ {m j : Nat}, m ≤ n → j < n - m → redS n R m j = true
  | 0, _, _, _ => rfl
  | m + 1, j, hm, hj => by
    have ih := redS_old (n := n) (R := R) (m := m) (j := j) (by omega) (by omega)
    by_cases h : Need n R (redS n R m) (n - 1 - m)
    · rw [redS_yes h]; exact ih
    · rw [redS_no h]
      dsimp only
      rw [ih]
      simp; omega
/-- all is refused as before -/
theorem redS_same {n : Nat} {R : Nat → Rl} : ∀ {m : Nat}, m ≤ n → ∀ k c : Int, 1 ≤ c → c ≤ (HZ : Int) → rfS n R (redS n R m) k c = rfP n R k c
  | 0, _, k, c, _, _ => by unfold rfS rfP redS; simp
  | m + 1, hm, k, c, h1, h2 => by
    rw [← redS_same (n := n) (R := R) (m := m) (by omega) k c h1 h2]
    by_cases h : Need n R (redS n R m) (n - 1 - m)
    · rw [redS_yes h]
    · rw [redS_no h]
      exact (need_iff (by omega) (redS_old (by omega) (by omega))).1 h k c h1 h2
/-- a rule that is left at the end is needed among those that are left -/
theorem need_mono {n : Nat} {R : Nat → Rl} {S T : Nat → Bool} {i : Nat} (h : Need n R S i) (hT : ∀ j, T j = true → S j = true) : Need n R T i := by
  obtain ⟨c, h1, h2, h3, h4⟩ := h
  refine ⟨c, h1, h2, h3, ?_⟩
  cases ho : oth n R T i c with
  | false => rfl
  | true =>
    obtain ⟨j, a, b, d, e⟩ := oth_iff.1 ho
    rw [oth_iff.2 ⟨j, a, b, hT j d, e⟩] at h4
    cases h4
theorem redS_mono {n : Nat} {R : Nat → Rl} {m j : Nat} (h : redS n R (m + 1) j = true) : redS n R m j = true := by
  by_cases hn : Need n R (redS n R m) (n - 1 - m)
  · rw [redS_yes hn] at h; exact h
  · rw [redS_no hn] at h
    simp only [Bool.and_eq_true] at h
    exact h.1
theorem redS_need {n : Nat} {R : Nat → Rl} : ∀ {m i : Nat}, m ≤ n → n - m ≤ i → i < n → redS n R m i = true → Need n R (redS n R m) i
  | 0, i, _, h1, h2, _ => by omega
  | m + 1, i, hm, h1, h2, h => by
    by_cases e : i = n - 1 - m
    · subst e
      by_cases hn : Need n R (redS n R m) (n - 1 - m)
      · rw [redS_yes hn]; exact hn
      · rw [redS_no hn] at h; simp at h
    · exact need_mono (redS_need (n := n) (R := R) (m := m) (by omega) (by omega) h2 (redS_mono h)) (fun j hj => redS_mono hj)
end Go.Proofs.YtpjhedkloljpjaaDoorRR
