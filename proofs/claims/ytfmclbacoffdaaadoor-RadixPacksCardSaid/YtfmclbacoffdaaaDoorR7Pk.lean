/- The radix map, plain: packed descriptions. -/
import Derived.Test.YtfmclbacoffdaaaDoorBase
namespace Go.Proofs.YtfmclbacoffdaaaDoor
def pkE (o s t : Int) : Int := if o < 0 ∨ 4095 < o ∨ s < 0 ∨ 15 < s ∨ t < 0 ∨ 1000000000000 < t then 2 else 0
def pkW (o s t : Int) (h : Bool) : Int := 1 + 2 * o + 8192 * s + 131072 * t + (if h = true then 144115188075855872 else 0)
def pkV (o s t : Int) (h : Bool) : Int := if pkE o s t = 0 then pkW o s t h else 0
def unO (x : Int) : Int := x / 2 % 4096
def unS (x : Int) : Int := x / 8192 % 16
def unT (x : Int) : Int := x / 131072 % 1099511627776
def unH (x : Int) : Bool := decide (x / 144115188075855872 % 2 = 1)
def unE (x : Int) : Int := if x % 2 = 1 ∧ x < 288230376151711744 ∧ unT x ≤ 1000000000000 then 0 else 6
theorem pkE_zero {o s t : Int} (h : pkE o s t = 0) : 0 ≤ o ∧ o ≤ 4095 ∧ 0 ≤ s ∧ s ≤ 15 ∧ 0 ≤ t ∧ t ≤ 1000000000000 := by
  unfold pkE at h
  split at h
  · cases h
  · omega
theorem pkE_ok {o s t : Int} (h : 0 ≤ o ∧ o ≤ 4095 ∧ 0 ≤ s ∧ s ≤ 15 ∧ 0 ≤ t ∧ t ≤ 1000000000000) : pkE o s t = 0 := by
  unfold pkE
  rw [if_neg (by omega)]
theorem pkW_bd {o s t : Int} {h : Bool} (hE : pkE o s t = 0) : 0 < pkW o s t h ∧ pkW o s t h < 288230376151711744 := by
  obtain ⟨h1, h2, h3, h4, h5, h6⟩ := pkE_zero hE
  unfold pkW
  cases h <;> simp <;> omega
theorem un_pk {o s t : Int} {h : Bool} (hE : pkE o s t = 0) : unO (pkW o s t h) = o ∧ unS (pkW o s t h) = s ∧ unT (pkW o s t h) = t ∧ unH (pkW o s t h) = h ∧ unE (pkW o s t h) = 0 := by
  obtain ⟨h1, h2, h3, h4, h5, h6⟩ := pkE_zero hE
  unfold unE unO unS unT unH pkW
  cases h
  · simp only [Bool.false_eq_true, if_false, Int.add_zero]
    refine ⟨by omega, by omega, by omega, decide_eq_false (by omega), ?_⟩
    rw [if_pos (by omega)]
  · simp only [if_true]
    refine ⟨by omega, by omega, by omega, decide_eq_true (by omega), ?_⟩
    rw [if_pos (by omega)]
theorem pk_un {x : Int} (h0 : 0 ≤ x) : unE x = 0 ↔ pkE (unO x) (unS x) (unT x) = 0 ∧ pkW (unO x) (unS x) (unT x) (unH x) = x := by
  have hH : unH x = true ∨ unH x = false := by cases unH x <;> simp
  constructor
  · intro h
    have h' : x % 2 = 1 ∧ x < 288230376151711744 ∧ unT x ≤ 1000000000000 := by
      unfold unE at h
      split at h
      · assumption
      · cases h
    obtain ⟨a, b, c⟩ := h'
    refine ⟨pkE_ok ?_, ?_⟩
    · unfold unO unS unT at *; omega
    · unfold pkW unO unS unT unH at *
      by_cases hb : x / 144115188075855872 % 2 = 1
      · rw [if_pos (decide_eq_true hb)]; omega
      · rw [if_neg (by rw [decide_eq_false hb]; decide)]; omega
  · rintro ⟨a, b⟩
    have c := pkW_bd (h := unH x) a
    rw [b] at c
    have d := pkE_zero a
    unfold unE
    rw [if_pos]
    refine ⟨?_, c.2, d.2.2.2.2.2⟩
    have e : pkW (unO x) (unS x) (unT x) (unH x) % 2 = 1 := by
      unfold pkW
      cases unH x <;> simp <;> omega
    rw [← b]; exact e
end Go.Proofs.YtfmclbacoffdaaaDoor
