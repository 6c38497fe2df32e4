/- Refusals, plain: the next refused call; the rest of a rule; rules that are not needed. No program. -/
import Derived.Test.YtgbdhmdaefbglaaDoorR5Plain
namespace Go.Proofs.YtgbdhmdaefbglaaDoor

/-- the least call behind the n-th one that the first m rules refuse; more than 1000000: there is none -/
def aft (R : Nat → Rl) (k n : Int) : Nat → Int
  | 0 => 1000001
  | m + 1 => if (R m).1 = k ∧ 0 < nxc (R m) n then min (aft R k n m) (nxc (R m) n) else aft R k n m
theorem aft_le (R : Nat → Rl) (k n : Int) : ∀ m, aft R k n m ≤ 1000001
  | 0 => Int.le_refl _
  | m + 1 => by
    have := aft_le R k n m
    simp only [aft]
    split
    · omega
    · exact this
theorem aft_spec {R : Nat → Rl} {k n : Int} (hn : n ≤ 1000000) : ∀ {m : Nat}, (∀ i, i < m → RlOk (R i)) → n < aft R k n m ∧ (∀ c, n < c → c < aft R k n m → rfP m R k c = false) ∧ (aft R k n m ≤ 1000000 → rfP m R k (aft R k n m) = true)
  | 0, _ => ⟨by simp only [aft]; omega, fun c _ _ => rfl, fun h => by simp only [aft] at h; omega⟩
  | m + 1, h => by
    obtain ⟨h0, h1, h2⟩ := aft_spec (k := k) hn (m := m) (fun i hi => h i (by omega))
    obtain ⟨s1, s2⟩ := nxc_spec (h m (by omega)) (n := n)
    have hb := aft_le R k n m
    simp only [aft]
    by_cases hk : (R m).1 = k ∧ 0 < nxc (R m) n
    · rw [if_pos hk]
      obtain ⟨hk1, hk2⟩ := hk
      obtain ⟨a, b, c⟩ := s2 (by omega)
      rw [hk1] at b c
      refine ⟨by omega, fun d hd1 hd2 => ?_, fun hle => ?_⟩
      · rw [rfP_succ, h1 d hd1 (by omega), c d hd1 (by omega)]; rfl
      · rw [rfP_succ]
        by_cases hlt : aft R k n m ≤ nxc (R m) n
        · rw [Int.min_eq_left hlt, h2 (by omega)]; rfl
        · rw [Int.min_eq_right (by omega), b, Bool.or_true]
    · rw [if_neg hk]
      have hno : ∀ d, n < d → rfz (R m) k d = false := fun d hd => by
        by_cases hk1 : (R m).1 = k
        · have := nxc_ne (h m (by omega)) n
          rw [← hk1]; exact s1 (by omega) d hd
        · cases hf : rfz (R m) k d with
          | false => rfl
          | true => exact absurd (rfz_kind hf) hk1
      exact ⟨h0, fun d hd1 hd2 => by rw [rfP_succ, h1 d hd1 hd2, hno d hd1]; rfl, fun hle => by rw [rfP_succ, h2 hle]; rfl⟩
/-- what After answers -/
def aftV (m : Nat) (R : Nat → Rl) (k n : Int) : Int := if aft R k n m ≤ 1000000 then aft R k n m else 0
def aftE (m : Nat) (R : Nat → Rl) (k n : Int) : Int := if aft R k n m ≤ 1000000 then 0 else 4
theorem aft_found {m : Nat} {R : Nat → Rl} {k n c : Int} (h : ∀ i, i < m → RlOk (R i)) (hn : n ≤ 1000000) (h1 : n < c) (h2 : c ≤ 1000000) (hr : rfP m R k c = true) (hno : ∀ d, n < d → d < c → rfP m R k d = false) : c = aftV m R k n ∧ 0 = aftE m R k n := by
  obtain ⟨a, b, d⟩ := aft_spec hn h (k := k)
  have e : aft R k n m = c := by
    by_cases h3 : c < aft R k n m
    · rw [b c h1 h3] at hr; cases hr
    · by_cases h4 : aft R k n m < c
      · have := d (by omega)
        rw [hno _ a h4] at this; cases this
      · omega
  unfold aftV aftE
  rw [e, if_pos h2, if_pos h2]
  exact ⟨rfl, rfl⟩
theorem aft_none {m : Nat} {R : Nat → Rl} {k n : Int} (h : ∀ i, i < m → RlOk (R i)) (hn : n ≤ 1000000) (hno : ∀ d, n < d → d ≤ 1000000 → rfP m R k d = false) : 0 = aftV m R k n ∧ 4 = aftE m R k n := by
  obtain ⟨a, b, d⟩ := aft_spec hn h (k := k)
  have e : ¬ aft R k n m ≤ 1000000 := fun hle => by
    have := d hle
    rw [hno _ a hle] at this; cases this
  unfold aftV aftE
  rw [if_neg e, if_neg e]
  exact ⟨rfl, rfl⟩

/-- the rest of a rule, when so many calls of its kind were made (its next call: c) -/
def rstX (x : Rl) (made c : Int) : Rl := (x.1, c - made, x.2.2.1, if 0 < x.2.2.1 ∧ 0 < x.2.2.2 then x.2.2.2 - (c - x.2.1) / x.2.2.1 else x.2.2.2)
theorem rst_ok {x : Rl} (h : RlOk x) {made : Int} (hm : 0 ≤ made) (hc : nxc x made ≠ 0) : RlOk (rstX x made (nxc x made)) := by
  obtain ⟨_, s2⟩ := nxc_spec h (n := made)
  obtain ⟨a, b, c⟩ := s2 hc
  obtain ⟨_, i, i0, it, ie, e⟩ := (rfz_iff h).1 b
  have e0 := h.e0
  have f0 := h.f0
  have f1 := h.f1
  have hE1 := h.e1
  have ht1 := h.t1
  have hup : nxc x made - made ≤ 10000 := by
    unfold nxc at a ⊢
    by_cases h1 : made < x.2.1
    · rw [if_pos h1]; omega
    · rw [if_neg h1] at a ⊢
      by_cases h2 : x.2.2.1 = 0
      · rw [if_pos h2]; omega
      · rw [if_neg h2] at a ⊢
        split
        · omega
        · have hd := Int.mul_ediv_add_emod (made - x.2.1) x.2.2.1
          have hm0 := Int.emod_nonneg (made - x.2.1) h2
          have hq1 : ((made - x.2.1) / x.2.2.1 + 1) * x.2.2.1 = (made - x.2.1) / x.2.2.1 * x.2.2.1 + x.2.2.1 := by rw [Int.add_mul, Int.one_mul]
          rw [Int.mul_comm] at hd
          omega
  have hq : 0 < x.2.2.1 → (nxc x made - x.2.1) / x.2.2.1 = i := fun hE => by
    rw [show nxc x made - x.2.1 = i * x.2.2.1 by omega, Int.mul_ediv_cancel i (by omega)]
  unfold rstX
  refine ⟨h.k0, h.k1, by dsimp only; omega, by dsimp only; omega, h.e0, h.e1, ?_, ?_, ?_⟩
  · dsimp only
    split
    · rename_i hE; rw [hq hE.1]; omega
    · exact h.t0
  · dsimp only
    split
    · rename_i hE; rw [hq hE.1]; omega
    · exact h.t1
  · dsimp only
    intro hE
    rw [if_neg (by omega)]
    exact h.et hE
theorem rst_rfz {x : Rl} (h : RlOk x) {made : Int} (hm : 0 ≤ made) (hc : nxc x made ≠ 0) (k m : Int) (h1 : 1 ≤ m) : rfz (rstX x made (nxc x made)) k m = rfz x k (made + m) := by
  have hr := rst_ok h hm hc
  obtain ⟨_, s2⟩ := nxc_spec h (n := made)
  obtain ⟨a, b, c⟩ := s2 hc
  obtain ⟨_, i, i0, it, ie, e⟩ := (rfz_iff h).1 b
  have e0 := h.e0
  have hq : 0 < x.2.2.1 → (nxc x made - x.2.1) / x.2.2.1 = i := fun hE => by
    rw [show nxc x made - x.2.1 = i * x.2.2.1 by omega, Int.mul_ediv_cancel i (by omega)]
  rw [Bool.eq_iff_iff, rfz_iff hr, rfz_iff h]
  unfold rstX
  dsimp only
  constructor
  · rintro ⟨e1, j, j0, jt, je, ej⟩
    refine ⟨e1, i + j, by omega, ?_, fun hE => by rw [ie hE, je hE]; rfl, ?_⟩
    · by_cases hE : 0 < x.2.2.1
      · by_cases hT : 0 < x.2.2.2
        · rw [if_pos ⟨hE, hT⟩, hq hE] at jt
          right; omega
        · left; have := h.t0; omega
      · have := ie (by omega)
        have := je (by omega)
        rw [if_neg (by omega)] at jt
        subst_vars
        omega
    · rw [Int.add_mul]; omega
  · rintro ⟨e1, j, j0, jt, je, ej⟩
    have hij : i ≤ j := by
      by_cases hlt : j < i
      · exfalso
        by_cases hE : 0 < x.2.2.1
        · have := mul_lt hE hlt
          have hf := c (made + m) (by omega) (by omega)
          have : rfz x x.1 (made + m) = true := (rfz_iff h).2 ⟨rfl, j, j0, jt, je, ej⟩
          rw [hf] at this; cases this
        · have := ie (by omega)
          omega
      · omega
    refine ⟨e1, j - i, by omega, ?_, fun hE => by rw [ie hE, je hE]; rfl, ?_⟩
    · by_cases hE : 0 < x.2.2.1
      · by_cases hT : 0 < x.2.2.2
        · rw [if_pos ⟨hE, hT⟩, hq hE]
          right; omega
        · rw [if_neg (by omega)]
          left; have := h.t0; omega
      · have := ie (by omega)
        have := je (by omega)
        rw [if_neg (by omega)]
        subst_vars
        omega
    · rw [Int.sub_mul]; omega
/-- a rule without rest refuses nothing more -/
theorem rst_none {x : Rl} (h : RlOk x) {made : Int} (hc : nxc x made = 0) (k m : Int) (h1 : 1 ≤ m) : rfz x k (made + m) = false := by
  obtain ⟨s1, _⟩ := nxc_spec h (n := made)
  by_cases hk : x.1 = k
  · rw [← hk]; exact s1 hc _ (by omega)
  · cases hf : rfz x k (made + m) with
    | false => rfl
    | true => exact absurd (rfz_kind hf) hk
end Go.Proofs.YtgbdhmdaefbglaaDoor
