/- Refusals, plain: the reference's rest of a rule, call by call. No program. -/
import Derived.Test.YtpjhedkloljpjaaDoorRRR5PlainB
namespace Go.Proofs.YtpjhedkloljpjaaDoorRR

theorem nxc_is {x : Rl} (h : RlOk x) {made F : Int} (h1 : made < F) (hr : rfz x x.1 F = true) (hno : ∀ m, made < m → m < F → rfz x x.1 m = false) : nxc x made = F := by
  obtain ⟨s1, s2⟩ := nxc_spec h (n := made)
  by_cases h0 : nxc x made = 0
  · rw [s1 h0 F h1] at hr; cases hr
  · obtain ⟨a, b, c⟩ := s2 h0
    by_cases h3 : nxc x made < F
    · rw [hno _ a h3] at b; cases b
    · by_cases h4 : F < nxc x made
      · rw [c F h1 h4] at hr; cases hr
      · omega
/-- where the loop over the calls of a rule stands -/
def RsAt (x : Rl) (made F T : Int) (left : Bool) : Prop :=
  (left = true → ∃ i : Int, 0 ≤ i ∧ F = x.2.1 + i * x.2.2.1 ∧ (x.2.2.2 = 0 ∨ i < x.2.2.2) ∧ (x.2.2.1 = 0 → i = 0) ∧ T = (if x.2.2.2 = 0 then 0 else x.2.2.2 - i) ∧ (0 < i → F - x.2.2.1 ≤ made)) ∧
  (left = false → nxc x made = 0)
theorem RsAt.start {x : Rl} (h : RlOk x) (made : Int) : RsAt x made x.2.1 x.2.2.2 true := by
  refine ⟨fun _ => ⟨0, Int.le_refl _, by omega, ?_, fun _ => rfl, ?_, fun h => by omega⟩, fun h => by cases h⟩
  · by_cases ht : x.2.2.2 = 0
    · exact .inl ht
    · have := h.t0; right; omega
  · split <;> omega
theorem RsAt.step {x : Rl} (h : RlOk x) {made F T : Int} (H : RsAt x made F T true) (hF : F ≤ made) :
    RsAt x made (F + x.2.2.1) (if 1 < T then T - 1 else T) (decide (0 < x.2.2.1) && (T != 1)) := by
  obtain ⟨i, i0, eF, it, ie, eT, _⟩ := H.1 rfl
  have e0 := h.e0
  have t0 := h.t0
  have hp := Int.mul_nonneg i0 e0
  by_cases hE : x.2.2.1 = 0
  · have hi := ie hE
    refine ⟨fun hl => ?_, fun _ => ?_⟩
    · rw [hE] at hl; simp at hl
    · unfold nxc
      rw [if_neg (by omega), if_pos hE]
  · have hE1 : 0 < x.2.2.1 := by omega
    have hi1 : (i + 1) * x.2.2.1 = i * x.2.2.1 + x.2.2.1 := by rw [Int.add_mul, Int.one_mul]
    by_cases hT : T = 1
    · have ht : x.2.2.2 ≠ 0 := fun e => by rw [if_pos e] at eT; omega
      rw [if_neg ht] at eT
      refine ⟨fun hl => ?_, fun _ => ?_⟩
      · rw [hT] at hl; simp at hl
      · have hq : i ≤ (made - x.2.1) / x.2.2.1 := (Int.le_ediv_iff_mul_le hE1).2 (by omega)
        unfold nxc
        rw [if_neg (by omega), if_neg hE, if_pos ⟨by omega, by omega⟩]
    · refine ⟨fun _ => ⟨i + 1, by omega, by omega, ?_, fun e => absurd e hE, ?_, fun _ => by omega⟩, fun hl => ?_⟩
      · by_cases ht : x.2.2.2 = 0
        · exact .inl ht
        · rw [if_neg ht] at eT
          right; omega
      · by_cases ht : x.2.2.2 = 0
        · rw [if_pos ht] at eT ⊢
          rw [if_neg (by omega)]; exact eT
        · rw [if_neg ht] at eT ⊢
          have : i < x.2.2.2 := by omega
          rw [if_pos (by omega)]; omega
      · have : (T != 1) = true := by simpa using hT
        rw [this, decide_eq_true hE1] at hl
        cases hl
theorem RsAt.out {x : Rl} (h : RlOk x) {made F T : Int} (H : RsAt x made F T true) (hF : made < F) : nxc x made = F ∧ rstX x made F = (x.1, F - made, x.2.2.1, T) := by
  obtain ⟨i, i0, eF, it, ie, eT, il⟩ := H.1 rfl
  have e0 := h.e0
  have hr : rfz x x.1 F = true := (rfz_iff h).2 ⟨rfl, i, i0, it, ie, eF⟩
  refine ⟨nxc_is h hF hr fun m h1 h2 => ?_, ?_⟩
  · cases hf : rfz x x.1 m with
    | false => rfl
    | true =>
      obtain ⟨_, j, j0, jt, je, ej⟩ := (rfz_iff h).1 hf
      exfalso
      by_cases hE : x.2.2.1 = 0
      · rw [je hE] at ej; rw [ie hE] at eF; omega
      · by_cases hji : j < i
        · have := mul_lt (show 0 < x.2.2.1 by omega) hji
          have := il (by omega)
          omega
        · have := Int.mul_le_mul_of_nonneg_right (show i ≤ j by omega) e0
          omega
  · unfold rstX
    by_cases hE : 0 < x.2.2.1 ∧ 0 < x.2.2.2
    · rw [if_pos hE, show F - x.2.1 = i * x.2.2.1 by omega, Int.mul_ediv_cancel i (by omega), eT, if_neg (by omega)]
    · rw [if_neg hE]
      have t0 := h.t0
      have : T = x.2.2.2 := by
        rw [eT]
        by_cases ht : x.2.2.2 = 0
        · rw [if_pos ht]; exact ht.symm
        · rw [if_neg ht]
          have := ie (by omega)
          omega
      rw [this]
theorem RsAt.none {x : Rl} {made F T : Int} (H : RsAt x made F T false) : nxc x made = 0 := H.2 rfl
end Go.Proofs.YtpjhedkloljpjaaDoorRR
