/- Words: digits, whole numbers, Int. No program. -/
import Derived.Lib.ParseIntBTie
import Derived.Lib.ItoaMem
namespace Go.Proofs.YtgbdhmdaefbglaaDoor

/-- is that a digit? -/
def dgC (c : UInt8) : Bool := decide (48 ≤ c.toNat) && decide (c.toNat ≤ 57)
theorem dgC_yes {c : UInt8} : dgC c = true ↔ 48 ≤ c.toNat ∧ c.toNat ≤ 57 := by unfold dgC; simp
/-- the number that digits spell -/
def valN (acc : Nat) (l : List UInt8) : Nat := l.foldl (fun a c => 10 * a + (c.toNat - 48)) acc
theorem valN_nil (a : Nat) : valN a [] = a := by unfold valN; rw [List.foldl_nil]
theorem valN_cons (a : Nat) (c : UInt8) (r : List UInt8) : valN a (c :: r) = valN (10 * a + (c.toNat - 48)) r := by unfold valN; rw [List.foldl_cons]
theorem valN_snoc (c : UInt8) : ∀ (l : List UInt8) (a : Nat), valN a (l ++ [c]) = 10 * valN a l + (c.toNat - 48)
  | [], _ => by rw [List.nil_append, valN_cons, valN_nil, valN_nil]
  | x :: r, a => by rw [List.cons_append, valN_cons, valN_cons]; exact valN_snoc c r _
theorem valN_ge : ∀ (l : List UInt8) (a : Nat), a ≤ valN a l
  | [], _ => Nat.le_refl _
  | x :: r, a => Nat.le_trans (by omega) (valN_ge r (10 * a + (x.toNat - 48)))
theorem valN_pow : ∀ (l : List UInt8) (a : Nat), a * 10 ^ l.length ≤ valN a l
  | [], a => by rw [valN_nil, List.length_nil, Nat.pow_zero, Nat.mul_one]; exact Nat.le_refl _
  | x :: r, a => by
    have h := valN_pow r (10 * a + (x.toNat - 48))
    rw [valN_cons]
    refine Nat.le_trans ?_ h
    rw [List.length_cons, Nat.pow_succ, Nat.mul_comm (10 ^ r.length) 10, ← Nat.mul_assoc]
    exact Nat.mul_le_mul_right _ (by omega)
theorem valN_lt : ∀ (l : List UInt8) (a : Nat), l.all dgC = true → valN a l < (a + 1) * 10 ^ l.length
  | [], a, _ => by rw [valN_nil, List.length_nil, Nat.pow_zero, Nat.mul_one]; exact Nat.lt_succ_self _
  | x :: r, a, h => by
    simp only [List.all_cons, Bool.and_eq_true] at h
    have h1 := dgC_yes.1 h.1
    have h2 := valN_lt r (10 * a + (x.toNat - 48)) h.2
    rw [valN_cons]
    refine Nat.lt_of_lt_of_le h2 ?_
    rw [List.length_cons, Nat.pow_succ, Nat.mul_comm (10 ^ r.length) 10, ← Nat.mul_assoc]
    exact Nat.mul_le_mul_right _ (by omega)
/-- the digits of a number from 0 on, as it is written -/
def natB (l : List UInt8) : Bool := l.all dgC && (decide (l ≠ []) && (decide (l.length = 1) || decide (l.head? ≠ some 48)))
theorem natB_dig {l : List UInt8} (h : natB l = true) : l.all dgC = true := by
  unfold natB at h; simp only [Bool.and_eq_true] at h; exact h.1
theorem natB_ne {l : List UInt8} (h : natB l = true) : l ≠ [] := by
  unfold natB at h; simp only [Bool.and_eq_true, decide_eq_true_eq] at h; exact h.2.1
theorem natB_head {l : List UInt8} (h : natB l = true) (k : 2 ≤ l.length) : l.head? ≠ some 48 := by
  unfold natB at h
  simp only [Bool.and_eq_true, decide_eq_true_eq, Bool.or_eq_true] at h
  rcases h.2.2 with h | h
  · omega
  · exact h
theorem natB_of {l : List UInt8} (h1 : l.all dgC = true) (h2 : l ≠ []) (h3 : l.length = 1 ∨ l.head? ≠ some 48) : natB l = true := by
  unfold natB
  simp only [Bool.and_eq_true, decide_eq_true_eq, Bool.or_eq_true]
  exact ⟨h1, h2, h3⟩
/-- digits that do not begin with 0 spell a great number -/
theorem val_big {l : List UInt8} (h : l.all dgC = true) (h0 : l ≠ []) (h1 : l.head? ≠ some 48) : 10 ^ (l.length - 1) ≤ valN 0 l := by
  cases l with
  | nil => exact absurd rfl h0
  | cons x r =>
    simp only [List.all_cons, Bool.and_eq_true] at h
    have hx := dgC_yes.1 h.1
    have hne : x.toNat ≠ 48 := fun e => h1 (by rw [List.head?_cons]; congr 1; exact UInt8.toNat_inj.1 e)
    have := valN_pow r (10 * 0 + (x.toNat - 48))
    rw [valN_cons]
    refine Nat.le_trans ?_ this
    rw [List.length_cons, Nat.add_sub_cancel]
    exact Nat.le_mul_of_pos_left _ (by omega)
theorem toNat_dg {d : Nat} (h : d < 10) : (UInt8.ofNat (48 + d)).toNat = 48 + d := by
  rw [UInt8.toNat_ofNat']; omega
theorem dec_dig : ∀ n : Nat, (Lib.decDigits n).all dgC = true := by
  intro n
  induction n using Nat.strongRecOn with
  | ind n ih =>
    rw [Lib.decDigits]
    by_cases h : n < 10
    · rw [dif_pos h]
      simp only [List.all_cons, List.all_nil, Bool.and_true]
      rw [dgC_yes, toNat_dg h]; omega
    · rw [dif_neg h, List.all_append, ih (n / 10) (by omega)]
      simp only [List.all_cons, List.all_nil, Bool.and_true, Bool.true_and]
      rw [dgC_yes, toNat_dg (by omega)]; omega
theorem dec_val : ∀ n : Nat, valN 0 (Lib.decDigits n) = n := by
  intro n
  induction n using Nat.strongRecOn with
  | ind n ih =>
    rw [Lib.decDigits]
    by_cases h : n < 10
    · rw [dif_pos h]
      show 10 * 0 + ((UInt8.ofNat (48 + n)).toNat - 48) = n
      rw [toNat_dg h]; omega
    · rw [dif_neg h, valN_snoc, ih (n / 10) (by omega), toNat_dg (by omega)]
      omega
theorem dec_ne (n : Nat) : Lib.decDigits n ≠ [] := by
  rw [Lib.decDigits]
  by_cases h : n < 10
  · rw [dif_pos h]; simp
  · rw [dif_neg h]; simp
theorem hd_app {a b : List UInt8} (h : a ≠ []) : (a ++ b).head? = a.head? := by
  cases a with
  | nil => exact absurd rfl h
  | cons x r => rfl
theorem dec_head : ∀ n : Nat, 1 ≤ n → (Lib.decDigits n).head? ≠ some 48 := by
  intro n
  induction n using Nat.strongRecOn with
  | ind n ih =>
    intro h1
    rw [Lib.decDigits]
    by_cases h : n < 10
    · rw [dif_pos h, List.head?_cons]
      intro e
      have := congrArg (fun x => x.toNat) (Option.some.inj e)
      rw [toNat_dg h] at this
      have h48 : (48 : UInt8).toNat = 48 := rfl
      omega
    · rw [dif_neg h, hd_app (dec_ne _)]
      exact ih (n / 10) (by omega) (by omega)
theorem dec_natB (n : Nat) : natB (Lib.decDigits n) = true := by
  refine natB_of (dec_dig n) (dec_ne n) ?_
  by_cases h : n < 10
  · left; rw [Lib.decDigits, dif_pos h]; rfl
  · right; exact dec_head n (by omega)
theorem val_pos {l : List UInt8} (h : l.all dgC = true) (h0 : l ≠ []) (h1 : l.head? ≠ some 48) : 1 ≤ valN 0 l :=
  Nat.le_trans (Nat.pow_pos (by decide)) (val_big h h0 h1)
theorem dec_of : ∀ (k : Nat) (l : List UInt8), l.length = k → natB l = true → Lib.decDigits (valN 0 l) = l
  | 0, l, hk, h => absurd (List.length_eq_zero_iff.1 hk) (natB_ne h)
  | 1, l, hk, h => by
    match l, hk with
    | [c], _ => ?_
    have h1 := natB_dig h
    simp only [List.all_cons, List.all_nil, Bool.and_true] at h1
    have h1 := dgC_yes.1 h1
    show Lib.decDigits (10 * 0 + (c.toNat - 48)) = [c]
    rw [Lib.decDigits, dif_pos (by omega)]
    congr 1
    apply UInt8.toNat_inj.1
    rw [toNat_dg (by omega)]; omega
  | k + 2, l, hk, h => by
    have hne : l ≠ [] := natB_ne h
    have hd := natB_dig h
    have hh := natB_head h (by omega)
    obtain ⟨r, c, rfl⟩ : ∃ r c, l = r ++ [c] := ⟨l.dropLast, l.getLast hne, (List.dropLast_concat_getLast hne).symm⟩
    simp only [List.length_append, List.length_cons, List.length_nil] at hk
    have hr : r ≠ [] := by intro e; rw [e] at hk; simp at hk
    rw [hd_app hr] at hh
    simp only [List.all_append, List.all_cons, List.all_nil, Bool.and_true, Bool.and_eq_true] at hd
    have hc := dgC_yes.1 hd.2
    have hv := val_pos hd.1 hr hh
    have ih := dec_of (k + 1) r (by omega) (natB_of hd.1 hr (.inr hh))
    rw [valN_snoc, Lib.decDigits, dif_neg (by omega)]
    rw [show (10 * valN 0 r + (c.toNat - 48)) / 10 = valN 0 r by omega, show (10 * valN 0 r + (c.toNat - 48)) % 10 = c.toNat - 48 by omega, ih]
    congr 2
    apply UInt8.toNat_inj.1
    rw [toNat_dg (by omega)]; omega

/-- a minus in front? -/
def ngB (l : List UInt8) : Bool := decide (l.head? = some 45)
def absL (l : List UInt8) : List UInt8 := if ngB l then l.tail else l
/-- the digits of a whole number, as it is written -/
def wholeB (l : List UInt8) : Bool := natB (absL l) && !(ngB l && decide (absL l = [48]))
def valZ (l : List UInt8) : Int := if ngB l then -(valN 0 (absL l) : Int) else valN 0 (absL l)
theorem ngB_cons (c : UInt8) (r : List UInt8) : ngB (c :: r) = decide (c.toNat = 45) := by
  unfold ngB
  rw [List.head?_cons, Bool.eq_iff_iff]
  simp only [decide_eq_true_eq, Option.some.injEq]
  constructor
  · rintro rfl; rfl
  · intro h; exact UInt8.toNat_inj.1 h
theorem ngB_dig {l : List UInt8} (h : l.all dgC = true) : ngB l = false := by
  cases l with
  | nil => rfl
  | cons c r =>
    rw [ngB_cons]
    simp only [List.all_cons, Bool.and_eq_true] at h
    have := dgC_yes.1 h.1
    exact decide_eq_false (by omega)
theorem absL_nat {l : List UInt8} (h : natB l = true) : absL l = l := by unfold absL; rw [ngB_dig (natB_dig h)]; rfl
theorem whole_nat {l : List UInt8} (h : natB l = true) : wholeB l = true := by
  unfold wholeB; rw [absL_nat h, h, ngB_dig (natB_dig h)]; rfl
theorem valZ_nat {l : List UInt8} (h : natB l = true) : valZ l = valN 0 l := by
  unfold valZ; rw [absL_nat h, ngB_dig (natB_dig h)]; rfl
/-- a whole number's digits are its digits -/
theorem itoa_valZ {l : List UInt8} (h : wholeB l = true) : Lib.itoa (valZ l) = l := by
  unfold wholeB at h
  simp only [Bool.and_eq_true, Bool.not_eq_true', Bool.and_eq_false_iff, decide_eq_false_iff_not] at h
  obtain ⟨h1, h2⟩ := h
  unfold valZ
  cases hn : ngB l
  · have ha : absL l = l := by unfold absL; rw [hn]; rfl
    rw [ha] at h1 ⊢
    rw [if_neg (by simp), Lib.itoa_nonneg]
    exact dec_of _ l rfl h1
  · have ha : absL l = l.tail := by unfold absL; rw [hn]; rfl
    have h3 : absL l ≠ [48] := by
      rcases h2 with h2 | h2
      · rw [hn] at h2; cases h2
      · exact h2
    rw [if_pos rfl]
    have hpos : 1 ≤ valN 0 (absL l) := by
      by_cases hl : (absL l).length = 1
      · match h4 : absL l, hl with
        | [c], _ => ?_
        rw [h4] at h1 h3
        have h5 := natB_dig h1
        simp only [List.all_cons, List.all_nil, Bool.and_true] at h5
        have h5 := dgC_yes.1 h5
        show 1 ≤ 10 * 0 + (c.toNat - 48)
        have : c.toNat ≠ 48 := fun e => h3 (by congr 1; exact UInt8.toNat_inj.1 e)
        omega
      · have h4 : 2 ≤ (absL l).length := by
          have := List.length_pos_iff.2 (natB_ne h1)
          omega
        exact val_pos (natB_dig h1) (natB_ne h1) (natB_head h1 h4)
    rw [Lib.itoa_neg _ hpos, dec_of _ _ rfl h1, ha]
    cases l with
    | nil => cases hn
    | cons c r =>
      rw [ngB_cons] at hn
      have : c.toNat = 45 := by simpa using hn
      rw [List.tail_cons]
      congr 1
      exact UInt8.toNat_inj.1 this.symm
theorem ngB_45 (r : List UInt8) : ngB (45 :: r) = true := rfl
theorem itoa_whole (n : Int) : wholeB (Lib.itoa n) = true := by
  rcases (show n < 0 ∨ 0 ≤ n by omega) with h | h
  · obtain ⟨u, hu, rfl⟩ : ∃ u : Nat, 1 ≤ u ∧ n = -(u : Int) := ⟨n.natAbs, by omega, by omega⟩
    rw [Lib.itoa_neg u hu]
    unfold wholeB
    rw [show absL (45 :: Lib.decDigits u) = Lib.decDigits u from rfl, dec_natB, ngB_45]
    simp only [Bool.true_and, Bool.not_eq_true', decide_eq_false_iff_not]
    intro e
    exact dec_head u hu (by rw [e]; rfl)
  · obtain ⟨u, rfl⟩ : ∃ u : Nat, n = (u : Int) := ⟨n.toNat, by omega⟩
    rw [Lib.itoa_nonneg]
    exact whole_nat (dec_natB u)
theorem valZ_itoa (n : Int) : valZ (Lib.itoa n) = n := by
  rcases (show n < 0 ∨ 0 ≤ n by omega) with h | h
  · obtain ⟨u, hu, rfl⟩ : ∃ u : Nat, 1 ≤ u ∧ n = -(u : Int) := ⟨n.natAbs, by omega, by omega⟩
    rw [Lib.itoa_neg u hu]
    unfold valZ
    rw [ngB_45, if_pos rfl, show absL (45 :: Lib.decDigits u) = Lib.decDigits u from rfl, dec_val]
  · obtain ⟨u, rfl⟩ : ∃ u : Nat, n = (u : Int) := ⟨n.toNat, by omega⟩
    rw [Lib.itoa_nonneg, valZ_nat (dec_natB u), dec_val]
theorem itoa_inj {l : List UInt8} (h : wholeB l = true) (n : Int) : Lib.itoa n = l ↔ n = valZ l := by
  constructor
  · intro e; rw [← e, valZ_itoa]
  · rintro rfl; exact itoa_valZ h

/-- strconv.ParseUint of digits -/
theorem puM {M : Nat} (hM : M = 18446744073709551615) : ∀ (l : List UInt8) (a : Nat), l.all dgC = true → a ≤ M → Lib.parseUintM M a l = if valN a l ≤ M then .ok (valN a l) else .range
  | [], a, _, h => by rw [Lib.parseUintM, valN_nil, if_pos h]
  | c :: r, a, hd, h => by
    simp only [List.all_cons, Bool.and_eq_true] at hd
    have hc := dgC_yes.1 hd.1
    have hge := valN_ge r (10 * a + (c.toNat - 48))
    rw [Lib.parseUintM, if_pos hc]
    rw [valN_cons]
    by_cases h1 : 1844674407370955162 ≤ a
    · rw [if_pos h1, if_neg (by omega)]
    · rw [if_neg h1]
      by_cases h2 : M < a * 10 + (c.toNat - 48)
      · rw [if_pos h2, if_neg (by omega)]
      · rw [if_neg h2, puM hM r _ hd.2 (by omega), Nat.mul_comm a 10]
theorem pi64 {l : List UInt8} (h : wholeB l = true) : Lib.parseIntB 64 l = if -9223372036854775808 ≤ valZ l ∧ valZ l ≤ 9223372036854775807 then .ok (valZ l) else .range := by
  have e1 : (2 : Nat) ^ (64 - 1) = 9223372036854775808 := by decide
  have e2 : (2 : Nat) ^ 64 - 1 = 18446744073709551615 := by decide
  have h' := h
  unfold wholeB at h'
  simp only [Bool.and_eq_true] at h'
  have hd := natB_dig h'.1
  have hne := natB_ne h'.1
  cases l with
  | nil => exact absurd rfl hne
  | cons c r =>
    have hU : Lib.parseUintB 64 (absL (c :: r)) = if valN 0 (absL (c :: r)) ≤ 18446744073709551615 then .ok (valN 0 (absL (c :: r))) else .range := by
      unfold Lib.parseUintB
      rw [if_neg hne, e2, puM rfl _ _ hd (by omega)]
    by_cases h45 : c.toNat = 45
    · have hc : c = 45 := UInt8.toNat_inj.1 h45
      subst hc
      rw [Lib.parseIntB_minus, e1]
      rw [show absL (45 :: r) = r from rfl] at hU
      rw [hU, show valZ (45 :: r) = -(valN 0 r : Int) from rfl]
      by_cases h1 : valN 0 r ≤ 18446744073709551615
      · rw [if_pos h1]
        unfold Lib.signedC
        by_cases h2 : 9223372036854775808 < valN 0 r
        · rw [if_neg (by omega)]; simp [h2]
        · rw [if_pos (by omega)]; simp [h2]
      · rw [if_neg h1, if_neg (by omega)]; rfl
    · have hn : ngB (c :: r) = false := by rw [ngB_cons]; exact decide_eq_false h45
      have ha : absL (c :: r) = c :: r := by unfold absL; rw [hn]; rfl
      rw [ha] at hU hd
      have hd0 := hd
      simp only [List.all_cons, Bool.and_eq_true] at hd0
      have hc := dgC_yes.1 hd0.1
      rw [Lib.parseIntB_plain 64 c r (by omega) h45, e1, hU]
      have hv : valZ (c :: r) = valN 0 (c :: r) := by unfold valZ; rw [hn, ha]; rfl
      rw [hv]
      by_cases h1 : valN 0 (c :: r) ≤ 18446744073709551615
      · rw [if_pos h1]
        unfold Lib.signlessC
        by_cases h2 : 9223372036854775808 ≤ valN 0 (c :: r)
        · rw [if_neg (by omega)]; simp [h2]
        · rw [if_pos (by omega)]; simp; omega
      · rw [if_neg h1, if_neg (by omega)]; rfl
/-- what Int answers -/
def intE (l : List UInt8) (lo hi : Int) : Int := if hi < lo then 2 else if wholeB l = false then 6 else if lo ≤ valZ l ∧ valZ l ≤ hi then 0 else 7
def intV (l : List UInt8) (lo hi : Int) : Int := if intE l lo hi = 0 then valZ l else 0
theorem intE_arg {l : List UInt8} {lo hi : Int} (h : hi < lo) : intE l lo hi = 2 := by unfold intE; rw [if_pos h]
theorem intE_form {l : List UInt8} {lo hi : Int} (h : lo ≤ hi) (k : wholeB l = false) : intE l lo hi = 6 := by unfold intE; rw [if_neg (by omega), if_pos k]
theorem intE_whole {l : List UInt8} {lo hi : Int} (h : lo ≤ hi) (k : wholeB l = true) : intE l lo hi = if lo ≤ valZ l ∧ valZ l ≤ hi then 0 else 7 := by unfold intE; rw [if_neg (by omega), if_neg (by simp [k])]
theorem intV_ok {l : List UInt8} {lo hi : Int} (h : intE l lo hi = 0) : intV l lo hi = valZ l := by unfold intV; rw [if_pos h]
theorem intV_no {l : List UInt8} {lo hi : Int} (h : intE l lo hi ≠ 0) : intV l lo hi = 0 := by unfold intV; rw [if_neg h]
/-- a whole number of more than 20 bytes does not fit -/
theorem val_long {l : List UInt8} (h : wholeB l = true) (k : 20 < l.length) : ¬ (-9223372036854775808 ≤ valZ l ∧ valZ l ≤ 9223372036854775807) := by
  unfold wholeB at h
  simp only [Bool.and_eq_true] at h
  have hn := h.1
  have hl : 20 ≤ (absL l).length := by
    unfold absL
    split
    · rw [List.length_tail]; omega
    · omega
  have h1 := val_big (natB_dig hn) (natB_ne hn) (natB_head hn (by omega))
  have h2 : (10 : Nat) ^ 19 ≤ 10 ^ ((absL l).length - 1) := Nat.pow_le_pow_right (by decide) (by omega)
  have h3 : (10 : Nat) ^ 19 = 10000000000000000000 := by decide
  unfold valZ
  split <;> omega
end Go.Proofs.YtgbdhmdaefbglaaDoor
