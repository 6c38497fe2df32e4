/- The radix map, plain: what Set, Clear and Get answer. -/
import Derived.Test.YtfmclbacoffdaaaDoorR7Cnt
import Derived.Test.YtfmclbacoffdaaaDoorR7Pk
namespace Go.Proofs.YtfmclbacoffdaaaDoor
/-- the error of a part -/
def paE (f t : Int) : Int := if f < 0 ∨ t < f ∨ 1024 < t then 7 else 0
theorem paE_zero {f t : Int} (h : paE f t = 0) : 0 ≤ f ∧ f ≤ t ∧ t ≤ 1024 := by
  unfold paE at h
  split at h
  · cases h
  · omega
def setE (X : RM) (f t o s c : Int) : Int :=
  if paE f t ≠ 0 then 7 else if pkE o s c ≠ 0 then 2 else if X.st.length < X.m + needF X.st (t - f).toNat f.toNat (-1) (-1) then 5 else 0
def setX (X : RM) (f t o s c : Int) (h : Bool) : RM := if setE X f t o s c = 0 then setM (pkW o s c h).toNat (t - f).toNat X f.toNat else X
def clrX (X : RM) (f t : Int) : RM := if paE f t = 0 then clrN (t - f).toNat X f.toNat else X
/-- every word is packed -/
def RWk (X : RM) : Prop := ∀ q, q < 1024 → wdI X.st q ≠ 0 → unE (wdI X.st q : Int) = 0
section
variable {X : RM}
theorem setE_zero {f t o s c : Int} (h : setE X f t o s c = 0) : paE f t = 0 ∧ pkE o s c = 0 ∧ X.m + needF X.st (t - f).toNat f.toNat (-1) (-1) ≤ X.st.length := by
  unfold setE at h
  split at h
  · cases h
  · rename_i h1
    split at h
    · cases h
    · rename_i h2
      split at h
      · cases h
      · rename_i h3
        exact ⟨by simpa using h1, by simpa using h2, by omega⟩
theorem RAll.setX (h : RAll X) (hw : RWk X) (f t o s c : Int) (g : Bool) : RAll (setX X f t o s c g) ∧ RWk (Go.Proofs.YtfmclbacoffdaaaDoor.setX X f t o s c g) ∧ (Go.Proofs.YtfmclbacoffdaaaDoor.setX X f t o s c g).st.length = X.st.length := by
  unfold Go.Proofs.YtfmclbacoffdaaaDoor.setX
  by_cases e : setE X f t o s c = 0
  · rw [if_pos e]
    obtain ⟨h1, h2, h3⟩ := setE_zero e
    obtain ⟨p1, p2, p3⟩ := paE_zero h1
    have hb := pkW_bd (h := g) h2
    have hx : (pkW o s c g).toNat ≠ 0 := by omega
    obtain ⟨g1, g2, g3⟩ := h.sets hx (show f.toNat + (t - f).toNat ≤ 1024 by omega) h3
    refine ⟨g1, fun q hq hne => ?_, setM_len _ _ _ _⟩
    rw [g3 q hq] at hne ⊢
    split
    · rw [Int.toNat_of_nonneg (by omega)]
      exact (un_pk h2).2.2.2.2
    · rename_i hc
      rw [if_neg hc] at hne
      exact hw q hq hne
  · rw [if_neg e]; exact ⟨h, hw, rfl⟩
theorem RAll.clrX (h : RAll X) (hw : RWk X) (f t : Int) : RAll (clrX X f t) ∧ RWk (Go.Proofs.YtfmclbacoffdaaaDoor.clrX X f t) ∧ (Go.Proofs.YtfmclbacoffdaaaDoor.clrX X f t).st.length = X.st.length := by
  unfold Go.Proofs.YtfmclbacoffdaaaDoor.clrX
  by_cases e : paE f t = 0
  · rw [if_pos e]
    obtain ⟨p1, p2, p3⟩ := paE_zero e
    obtain ⟨g1, g2, g3⟩ := h.clrs f.toNat (t - f).toNat (by omega)
    refine ⟨g1, fun q hq hne => ?_, g2⟩
    rw [g3 q hq] at hne ⊢
    split at hne
    · exact absurd rfl hne
    · rename_i hc
      rw [if_neg hc]
      exact hw q hq hne
  · rw [if_neg e]; exact ⟨h, hw, rfl⟩
end
/-- what Get answers -/
def getE (X : RM) (p : Int) : Int := if p < 0 ∨ 1023 < p then 7 else if wdI X.st p.toNat = 0 then 4 else unE (wdI X.st p.toNat)
end Go.Proofs.YtfmclbacoffdaaaDoor
