/- Refusals: RefusalsCounts, plain: what a round keeps. -/
import Derived.Test.YtpjhedkloljpjaaDoorRRR5R
import Derived.Test.YtpjhedkloljpjaaDoorRRR5PlainG
namespace Go.Proofs.YtpjhedkloljpjaaDoorRR
open Go.RowKit Go.Sort Go.Joins Go.Shelf
section
variable {n : Nat} {R : Nat → Rl} {C H : Nat → Int} {k : Nat}
theorem nx_zero (h : csE n R C H = 0) (hk : k < 7) (hc : C k < 1000000) : nxE n R C H (k : Int) = 0 ∧ nxN n R C H (k : Int) = n ∧ nxC n R C H (k : Int) = upd C k (C k + 1) ∧ nxB n R C H (k : Int) = rfP n R k (C k + 1) ∧ nxH n R C H (k : Int) = (if rfP n R k (C k + 1) = true then upd H k (H k + 1) else H) := by
  have e := nxE_ok (k := k) h hk (by omega)
  unfold nxN nxC nxB nxH
  rw [if_pos e, if_pos e, if_pos e, if_pos e, Int.toNat_natCast]
  exact ⟨e, rfl, rfl, rfl, rfl⟩
/-- the counters of refusals behind a call -/
def hUp (r : Bool) (H : Nat → Int) (k : Nat) : Nat → Int := if r = true then upd H k (H k + 1) else H
/-- the last refused call behind a call -/
def tUp (r : Bool) (T : Nat → Int) (k : Nat) (v : Int) : Nat → Int := if r = true then upd T k v else T
/-- what the loop knows of its counters -/
structure CtAt (n : Nat) (R : Nat → Rl) (C H T : Nat → Int) (i : Nat) : Prop where
  e : csE n R C H = 0
  c : ∀ j, j < 7 → 0 ≤ C j ∧ C j ≤ i
  t : ∀ j, j < 7 → T j = (lst n R (j : Int) (C j).toNat : Nat)
  h : ∀ j, j < 7 → 0 ≤ H j ∧ H j ≤ i
theorem CtAt.start {n : Nat} {R : Nat → Rl} (h : pE n R = 0) : CtAt n R Z7 Z7 Z7 0 := by
  refine ⟨(cs_good h fun j hj => okK_yes.2 ?_).symm, fun j _ => ⟨Int.le_refl _, Int.le_refl _⟩, fun j _ => rfl, fun j _ => ⟨Int.le_refl _, Int.le_refl _⟩⟩
  refine ⟨Int.le_refl _, (by decide : (0 : Int) ≤ 1000000), ?_⟩
  show ((hitP n R (j : Int) 0 : Nat) : Int) = 0
  rw [hit_zero]; rfl
theorem hits_next (h : csE n R C H = 0) (hk : k < 7) : ((hitP n R (k : Int) (C k + 1).toNat : Nat) : Int) = hUp (rfP n R k (C k + 1)) H k k := by
  obtain ⟨hp, hb⟩ := csE_zero h
  obtain ⟨b0, b1, b2⟩ := hb k hk
  have e1 : (C k + 1).toNat = (C k).toNat + 1 := by omega
  have e2 : (((C k).toNat + 1 : Nat) : Int) = C k + 1 := by omega
  rw [e1, hit_succ, e2]
  unfold hUp
  cases hr : rfP n R k (C k + 1)
  · simp only [Bool.false_eq_true, ↓reduceIte, Nat.add_zero]; exact b2
  · simp only [↓reduceIte, upd_same]; omega
theorem CtAt.step {T : Nat → Int} {i : Nat} (h : CtAt n R C H T i) (hi : i < 1000000) (hk : k < 7) :
    CtAt n R (upd C k (C k + 1)) (hUp (rfP n R k (C k + 1)) H k) (tUp (rfP n R k (C k + 1)) T k (C k + 1)) (i + 1) := by
  obtain ⟨hp, hb⟩ := csE_zero h.e
  have ck := h.c k hk
  refine ⟨(cs_good hp fun j hj => okK_yes.2 ?_).symm, fun j hj => ?_, fun j hj => ?_, fun j hj => ?_⟩
  · obtain ⟨b0, b1, b2⟩ := hb j hj
    by_cases e : j = k
    · subst e
      rw [upd_same]
      exact ⟨by omega, by omega, hits_next h.e hk⟩
    · rw [upd_other _ _ e]
      refine ⟨b0, b1, b2.trans ?_⟩
      unfold hUp
      split
      · rw [upd_other _ _ e]
      · rfl
  · by_cases e : j = k
    · subst e; rw [upd_same]; omega
    · rw [upd_other _ _ e]; have := h.c j hj; omega
  · by_cases e : j = k
    · subst e
      have e1 : (C j + 1).toNat = (C j).toNat + 1 := by omega
      have e2 : (((C j).toNat + 1 : Nat) : Int) = C j + 1 := by omega
      rw [upd_same, e1]
      simp only [lst, e2]
      unfold tUp
      cases hr : rfP n R j (C j + 1)
      · simp only [Bool.false_eq_true, ↓reduceIte]; exact h.t j hk
      · simp only [↓reduceIte, upd_same]; omega
    · rw [upd_other _ _ e]
      unfold tUp
      split
      · rw [upd_other _ _ e]; exact h.t j hj
      · exact h.t j hj
  · have hj' := h.h j hj
    unfold hUp
    split
    · by_cases e : j = k
      · subst e; rw [upd_same]; omega
      · rw [upd_other _ _ e]; omega
    · omega
theorem CtAt.after {T : Nat → Int} {i : Nat} (h : CtAt n R C H T i) (hi : i < 1000000) (hk : k < 7) (hr : rfP n R k (C k + 1) = true) :
    afV n R k (T k) = C k + 1 ∧ afE n R k (T k) = 0 := by
  obtain ⟨hp, hb⟩ := csE_zero h.e
  have ck := h.c k hk
  have e2 : (((C k).toNat + 1 : Nat) : Int) = C k + 1 := by omega
  rw [← e2] at hr ⊢
  obtain ⟨a1, a2⟩ := lst_after (pE_zero hp).2 (by omega) hr
  obtain ⟨l1, _⟩ := lst_spec n R (k : Int) (C k).toNat
  have ha : askE n R k (T k) 0 = 0 := by
    rw [h.t k hk]
    unfold askE
    rw [if_neg (by simpa using hp), if_neg (by omega), if_neg (by omega)]
  unfold afV afE
  rw [if_pos ha, if_pos ha, h.t k hk]
  exact ⟨a1, a2⟩
theorem ask_at {m lo : Int} (hp : pE n R = 0) (hk : k < 7) (h0 : lo ≤ m) (h1 : m ≤ 1000000) : askE n R (k : Int) m lo = 0 := by
  unfold askE
  rw [if_neg (by simpa using hp), if_neg (by omega), if_neg (by omega)]
end
end Go.Proofs.YtpjhedkloljpjaaDoorRR
