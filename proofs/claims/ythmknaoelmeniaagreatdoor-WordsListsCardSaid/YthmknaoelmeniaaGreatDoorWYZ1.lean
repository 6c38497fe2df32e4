/- Words: digits, whole numbers, Int. No program. | Words: a text cut at each instance of one byte. No program. | Words: the texts of a list of numbers, the shortest and first of them. No program. -/
import Derived.Lib.ParseIntBTie
import Derived.Lib.ItoaMem
import Derived.Lib.SplitLaws
namespace Go.Proofs.YthmknaoelmeniaaGreatDoor

/-- is that a digit? -/
def dgC (c : UInt8) : Bool := decide (48 ≤ c.toNat) && decide (c.toNat ≤ 57)
theorem dgC_yes {c : UInt8} : dgC c = true ↔ 48 ≤ c.toNat ∧ c.toNat ≤ 57 := by unfold dgC; simp
/-- the number that digits spell -/
def valN (acc : Nat) (l : List UInt8) : Nat := l.foldl (fun a c => 10 * a + (c.toNat - 48)) acc
theorem valN_nil (a : Nat) : valN a [] = a := by unfold valN; rw [List.foldl_nil]
theorem valN_cons (a : Nat) (c : UInt8) (r : List UInt8) : valN a (c :: r) = valN (10 * a + (c.toNat - 48)) r := by unfold valN; rw [List.foldl_cons]
theorem valN_snoc (c : UInt8) : ∀ (l : List UInt8) (a : Nat), valN a (l ++ [c]) = 10 * valN a l + (c.toNat - 48)
  | [], _ => by rw [List.nil_append, valN_cons, valN_nil, valN_nil]
  | x :: r, a => by rw [List.cons_append, valN_cons, valN_cons]; exact valN_snoc c r _
theorem valN_ge : ∀ (l : List UInt8) (a : Nat), a ≤ valN a l
  | [], _ => Nat.le_refl _
  | x :: r, a => Nat.le_trans (by omega) (valN_ge r (10 * a + (x.toNat - 48)))
theorem valN_pow : ∀ (l : List UInt8) (a : Nat), a * 10 ^ l.length ≤ valN a l
  | [], a => by rw [valN_nil, List.length_nil, Nat.pow_zero, Nat.mul_one]; exact Nat.le_refl _
  | x :: r, a => by
    have h := valN_pow r (10 * a + (x.toNat - 48))
    rw [valN_cons]
    refine Nat.le_trans ?_ h
    rw [List.length_cons, Nat.pow_succ, Nat.mul_comm (10 ^ r.length) 10, ← Nat.mul_assoc]
    exact Nat.mul_le_mul_right _ (by omega)
theorem valN_lt : ∀ (l : List UInt8) (a : Nat), l.all dgC = true → valN a l < (a + 1) * 10 ^ l.length
  | [], a, _ => by rw [valN_nil, List.length_nil, Nat.pow_zero, Nat.mul_one]; exact Nat.lt_succ_self _
  | x :: r, a, h => by
    simp only [List.all_cons, Bool.and_eq_true] at h
    have h1 := dgC_yes.1 h.1
    have h2 := valN_lt r (10 * a + (x.toNat - 48)) h.2
    rw [valN_cons]
    refine Nat.lt_of_lt_of_le h2 ?_
    rw [List.length_cons, Nat.pow_succ, Nat.mul_comm (10 ^ r.length) 10, ← Nat.mul_assoc]
    exact Nat.mul_le_mul_right _ (by omega)
/-- the digits of a number from 0 on, as it is written -/
def natB (l : List UInt8) : Bool := l.all dgC && (decide (l ≠ []) && (decide (l.length = 1) || decide (l.head? ≠ some 48)))
theorem natB_dig {l : List UInt8} (h : natB l = true) : l.all dgC = true := by
  unfold natB at h; simp only [Bool.and_eq_true] at h; exact h.1
theorem natB_ne {l : List UInt8} (h : natB l = true) : l ≠ [] := by
  unfold natB at h; simp only [Bool.and_eq_true, decide_eq_true_eq] at h; exact h.2.1
theorem natB_head {l : List UInt8} (h : natB l = true) (k : 2 ≤ l.length) : l.head? ≠ some 48 := by
  unfold natB at h
  simp only [Bool.and_eq_true, decide_eq_true_eq, Bool.or_eq_true] at h
  rcases h.2.2 with h | h
  · omega
  · exact h
theorem natB_of {l : List UInt8} (h1 : l.all dgC = true) (h2 : l ≠ []) (h3 : l.length = 1 ∨ l.head? ≠ some 48) : natB l = true := by
  unfold natB
  simp only [Bool.and_eq_true, decide_eq_true_eq, Bool.or_eq_true]
  exact ⟨h1, h2, h3⟩
/-- digits that do not begin with 0 spell a great number -/
theorem val_big {l : List UInt8} (h : l.all dgC = true) (h0 : l ≠ []) (h1 : l.head? ≠ some 48) : 10 ^ (l.length - 1) ≤ valN 0 l := by
  cases l with
  | nil => exact absurd rfl h0
  | cons x r =>
    simp only [List.all_cons, Bool.and_eq_true] at h
    have hx := dgC_yes.1 h.1
    have hne : x.toNat ≠ 48 := fun e => h1 (by rw [List.head?_cons]; congr 1; exact UInt8.toNat_inj.1 e)
    have := valN_pow r (10 * 0 + (x.toNat - 48))
    rw [valN_cons]
    refine Nat.le_trans ?_ this
    rw [List.length_cons, Nat.add_sub_cancel]
    exact Nat.le_mul_of_pos_left _ (by omega)
theorem toNat_dg {d : Nat} (h : d < 10) : (UInt8.ofNat (48 + d)).toNat = 48 + d := by
  rw [UInt8.toNat_ofNat']; omega
theorem dec_dig : ∀ n : Nat, (Lib.decDigits n).all dgC = true := by
  intro n
  induction n using Nat.strongRecOn with
  | ind n ih =>
    rw [Lib.decDigits]
    by_cases h : n < 10
    · rw [dif_pos h]
      simp only [List.all_cons, List.all_nil, Bool.and_true]
      rw [dgC_yes, toNat_dg h]; omega
    · rw [dif_neg h, List.all_append, ih (n / 10) (by omega)]
      simp only [List.all_cons, List.all_nil, Bool.and_true, Bool.true_and]
      rw [dgC_yes, toNat_dg (by omega)]; omega
theorem dec_val : ∀ n : Nat, valN 0 (Lib.decDigits n) = n := by
  intro n
  induction n using Nat.strongRecOn with
  | ind n ih =>
    rw [Lib.decDigits]
    by_cases h : n < 10
    · rw [dif_pos h]
      show 10 * 0 + ((UInt8.ofNat (48 + n)).toNat - 48) = n
      rw [toNat_dg h]; omega
    · rw [dif_neg h, valN_snoc, ih (n / 10) (by omega), toNat_dg (by omega)]
      omega
theorem dec_ne (n : Nat) : Lib.decDigits n ≠ [] := by
  rw [Lib.decDigits]
  by_cases h : n < 10
  · rw [dif_pos h]; simp
  · rw [dif_neg h]; simp
theorem hd_app {a b : List UInt8} (h : a ≠ []) : (a ++ b).head? = a.head? := by
  cases a with
  | nil => exact absurd rfl h
  | cons x r => rfl
theorem dec_head : ∀ n : Nat, 1 ≤ n → (Lib.decDigits n).head? ≠ some 48 := by
  intro n
  induction n using Nat.strongRecOn with
  | ind n ih =>
    intro h1
    rw [Lib.decDigits]
    by_cases h : n < 10
    · rw [dif_pos h, List.head?_cons]
      intro e
      have := congrArg (fun x => x.toNat) (Option.some.inj e)
      rw [toNat_dg h] at this
      have h48 : (48 : UInt8).toNat = 48 := rfl
      omega
    · rw [dif_neg h, hd_app (dec_ne _)]
      exact ih (n / 10) (by omega) (by omega)
theorem dec_natB (n : Nat) : natB (Lib.decDigits n) = true := by
  refine natB_of (dec_dig n) (dec_ne n) ?_
  by_cases h : n < 10
  · left; rw [Lib.decDigits, dif_pos h]; rfl
  · right; exact dec_head n (by omega)
theorem val_pos {l : List UInt8} (h : l.all dgC = true) (h0 : l ≠ []) (h1 : l.head? ≠ some 48) : 1 ≤ valN 0 l :=
  Nat.le_trans (Nat.pow_pos (by decide)) (val_big h h0 h1)
theorem dec_of : ∀ (k : Nat) (l : List UInt8), l.length = k → natB l = true → Lib.decDigits (valN 0 l) = l
  | 0, l, hk, h => absurd (List.length_eq_zero_iff.1 hk) (natB_ne h)
  | 1, l, hk, h => by
    match l, hk with
    | [c], _ => ?_
    have h1 := natB_dig h
    simp only [List.all_cons, List.all_nil, Bool.and_true] at h1
    have h1 := dgC_yes.1 h1
    show Lib.decDigits (10 * 0 + (c.toNat - 48)) = [c]
    rw [Lib.decDigits, dif_pos (by omega)]
    congr 1
    apply UInt8.toNat_inj.1
    rw [toNat_dg (by omega)]; omega
  | k + 2, l, hk, h => by
    have hne : l ≠ [] := natB_ne h
    have hd := natB_dig h
    have hh := natB_head h (by omega)
    obtain ⟨r, c, rfl⟩ : ∃ r c, l = r ++ [c] := ⟨l.dropLast, l.getLast hne, (List.dropLast_concat_getLast hne).symm⟩
    simp only [List.length_append, List.length_cons, List.length_nil] at hk
    have hr : r ≠ [] := by intro e; rw [e] at hk; simp at hk
    rw [hd_app hr] at hh
    simp only [List.all_append, List.all_cons, List.all_nil, Bool.and_true, Bool.and_eq_true] at hd
    have hc := dgC_yes.1 hd.2
    have hv := val_pos hd.1 hr hh
    have ih := dec_of (k + 1) r (by omega) (natB_of hd.1 hr (.inr hh))
    rw [valN_snoc, Lib.decDigits, dif_neg (by omega)]
    rw [show (10 * valN 0 r + (c.toNat - 48)) / 10 = valN 0 r by omega, show (10 * valN 0 r + (c.toNat - 48)) % 10 = c.toNat - 48 by omega, ih]
    congr 2
    apply UInt8.toNat_inj.1
    rw [toNat_dg (by omega)]; omega

/-- a minus in front? -/
def ngB (l : List UInt8) : Bool := decide (l.head? = some 45)
def absL (l : List UInt8) : List UInt8 := if ngB l then l.tail else l
/-- the digits of a whole number, as it is written -/
def wholeB (l : List UInt8) : Bool := natB (absL l) && !(ngB l && decide (absL l = [48]))
def valZ (l : List UInt8) : Int := if ngB l then -(valN 0 (absL l) : Int) else valN 0 (absL l)
theorem ngB_cons (c : UInt8) (r : List UInt8) : ngB (c :: r) = decide (c.toNat = 45) := by
  unfold ngB
  rw [List.head?_cons, Bool.eq_iff_iff]
  simp only [decide_eq_true_eq, Option.some.injEq]
  constructor
  · rintro rfl; rfl
  · intro h; exact UInt8.toNat_inj.1 h
theorem ngB_dig {l : List UInt8} (h : l.all dgC = true) : ngB l = false := by
  cases l with
  | nil => rfl
  | cons c r =>
    rw [ngB_cons]
    simp only [List.all_cons, Bool.and_eq_true] at h
    have := dgC_yes.1 h.1
    exact decide_eq_false (by omega)
theorem absL_nat {l : List UInt8} (h : natB l = true) : absL l = l := by unfold absL; rw [ngB_dig (natB_dig h)]; rfl
theorem whole_nat {l : List UInt8} (h : natB l = true) : wholeB l = true := by
  unfold wholeB; rw [absL_nat h, h, ngB_dig (natB_dig h)]; rfl
theorem valZ_nat {l : List UInt8} (h : natB l = true) : valZ l = valN 0 l := by
  unfold valZ; rw [absL_nat h, ngB_dig (natB_dig h)]; rfl
/-- a whole number's digits are its digits -/
theorem itoa_valZ {l : List UInt8} (h : wholeB l = true) : Lib.itoa (valZ l) = l := by
  unfold wholeB at h
  simp only [Bool.and_eq_true, Bool.not_eq_true', Bool.and_eq_false_iff, decide_eq_false_iff_not] at h
  obtain ⟨h1, h2⟩ := h
  unfold valZ
  cases hn : ngB l
  · have ha : absL l = l := by unfold absL; rw [hn]; rfl
    rw [ha] at h1 ⊢
    rw [if_neg (by simp), Lib.itoa_nonneg]
    exact dec_of _ l rfl h1
  · have ha : absL l = l.tail := by unfold absL; rw [hn]; rfl
    have h3 : absL l ≠ [48] := by
      rcases h2 with h2 | h2
      · rw [hn] at h2; cases h2
      · exact h2
    rw [if_pos rfl]
    have hpos : 1 ≤ valN 0 (absL l) := by
      by_cases hl : (absL l).length = 1
      · match h4 : absL l, hl with
        | [c], _ => ?_
        rw [h4] at h1 h3
        have h5 := natB_dig h1
        simp only [List.all_cons, List.all_nil, Bool.and_true] at h5
        have h5 := dgC_yes.1 h5
        show 1 ≤ 10 * 0 + (c.toNat - 48)
        have : c.toNat ≠ 48 := fun e => h3 (by congr 1; exact UInt8.toNat_inj.1 e)
        omega
      · have h4 : 2 ≤ (absL l).length := by
          have := List.length_pos_iff.2 (natB_ne h1)
          omega
        exact val_pos (natB_dig h1) (natB_ne h1) (natB_head h1 h4)
    rw [Lib.itoa_neg _ hpos, dec_of _ _ rfl h1, ha]
    cases l with
    | nil => cases hn
    | cons c r =>
      rw [ngB_cons] at hn
      have : c.toNat = 45 := by simpa using hn
      rw [List.tail_cons]
      congr 1
      exact UInt8.toNat_inj.1 this.symm
theorem ngB_45 (r : List UInt8) : ngB (45 :: r) = true := rfl
theorem itoa_whole (n : Int) : wholeB (Lib.itoa n) = true := by
  rcases (show n < 0 ∨ 0 ≤ n by omega) with h | h
  · obtain ⟨u, hu, rfl⟩ : ∃ u : Nat, 1 ≤ u ∧ n = -(u : Int) := ⟨n.natAbs, by omega, by omega⟩
    rw [Lib.itoa_neg u hu]
    unfold wholeB
    rw [show absL (45 :: Lib.decDigits u) = Lib.decDigits u from rfl, dec_natB, ngB_45]
    simp only [Bool.true_and, Bool.not_eq_true', decide_eq_false_iff_not]
    intro e
    exact dec_head u hu (by rw [e]; rfl)
  · obtain ⟨u, rfl⟩ : ∃ u : Nat, n = (u : Int) := ⟨n.toNat, by omega⟩
    rw [Lib.itoa_nonneg]
    exact whole_nat (dec_natB u)
theorem valZ_itoa (n : Int) : valZ (Lib.itoa n) = n := by
  rcases (show n < 0 ∨ 0 ≤ n by omega) with h | h
  · obtain ⟨u, hu, rfl⟩ : ∃ u : Nat, 1 ≤ u ∧ n = -(u : Int) := ⟨n.natAbs, by omega, by omega⟩
    rw [Lib.itoa_neg u hu]
    unfold valZ
    rw [ngB_45, if_pos rfl, show absL (45 :: Lib.decDigits u) = Lib.decDigits u from rfl, dec_val]
  · obtain ⟨u, rfl⟩ : ∃ u : Nat, n = (u : Int) := ⟨n.toNat, by omega⟩
    rw [Lib.itoa_nonneg, valZ_nat (dec_natB u), dec_val]
theorem itoa_inj {l : List UInt8} (h : wholeB l = true) (n : Int) : Lib.itoa n = l ↔ n = valZ l := by
  constructor
  · intro e; rw [← e, valZ_itoa]
  · rintro rfl; exact itoa_valZ h

/-- strconv.ParseUint of digits -/
theorem puM {M : Nat} (hM : M = 18446744073709551615) : ∀ (l : List UInt8) (a : Nat), l.all dgC = true → a ≤ M → Lib.parseUintM M a l = if valN a l ≤ M then .ok (valN a l) else .range
  | [], a, _, h => by rw [Lib.parseUintM, valN_nil, if_pos h]
  | c :: r, a, hd, h => by
    simp only [List.all_cons, Bool.and_eq_true] at hd
    have hc := dgC_yes.1 hd.1
    have hge := valN_ge r (10 * a + (c.toNat - 48))
    rw [Lib.parseUintM, if_pos hc]
    rw [valN_cons]
    by_cases h1 : 1844674407370955162 ≤ a
    · rw [if_pos h1, if_neg (by omega)]
    · rw [if_neg h1]
      by_cases h2 : M < a * 10 + (c.toNat - 48)
      · rw [if_pos h2, if_neg (by omega)]
      · rw [if_neg h2, puM hM r _ hd.2 (by omega), Nat.mul_comm a 10]
theorem pi64 {l : List UInt8} (h : wholeB l = true) : Lib.parseIntB 64 l = if -9223372036854775808 ≤ valZ l ∧ valZ l ≤ 9223372036854775807 then .ok (valZ l) else .range := by
  have e1 : (2 : Nat) ^ (64 - 1) = 9223372036854775808 := by decide
  have e2 : (2 : Nat) ^ 64 - 1 = 18446744073709551615 := by decide
  have h' := h
  unfold wholeB at h'
  simp only [Bool.and_eq_true] at h'
  have hd := natB_dig h'.1
  have hne := natB_ne h'.1
  cases l with
  | nil => exact absurd rfl hne
  | cons c r =>
    have hU : Lib.parseUintB 64 (absL (c :: r)) = if valN 0 (absL (c :: r)) ≤ 18446744073709551615 then .ok (valN 0 (absL (c :: r))) else .range := by
      unfold Lib.parseUintB
      rw [if_neg hne, e2, puM rfl _ _ hd (by omega)]
    by_cases h45 : c.toNat = 45
    · have hc : c = 45 := UInt8.toNat_inj.1 h45
      subst hc
      rw [Lib.parseIntB_minus, e1]
      rw [show absL (45 :: r) = r from rfl] at hU
      rw [hU, show valZ (45 :: r) = -(valN 0 r : Int) from rfl]
      by_cases h1 : valN 0 r ≤ 18446744073709551615
      · rw [if_pos h1]
        unfold Lib.signedC
        by_cases h2 : 9223372036854775808 < valN 0 r
        · rw [if_neg (by omega)]; simp [h2]
        · rw [if_pos (by omega)]; simp [h2]
      · rw [if_neg h1, if_neg (by omega)]; rfl
    · have hn : ngB (c :: r) = false := by rw [ngB_cons]; exact decide_eq_false h45
      have ha : absL (c :: r) = c :: r := by unfold absL; rw [hn]; rfl
      rw [ha] at hU hd
      have hd0 := hd
      simp only [List.all_cons, Bool.and_eq_true] at hd0
      have hc := dgC_yes.1 hd0.1
      rw [Lib.parseIntB_plain 64 c r (by omega) h45, e1, hU]
      have hv : valZ (c :: r) = valN 0 (c :: r) := by unfold valZ; rw [hn, ha]; rfl
      rw [hv]
      by_cases h1 : valN 0 (c :: r) ≤ 18446744073709551615
      · rw [if_pos h1]
        unfold Lib.signlessC
        by_cases h2 : 9223372036854775808 ≤ valN 0 (c :: r)
        · rw [if_neg (by omega)]; simp [h2]
        · rw [if_pos (by omega)]; simp; omega
      · rw [if_neg h1, if_neg (by omega)]; rfl
/-- what Int answers -/
def intE (l : List UInt8) (lo hi : Int) : Int := if hi < lo then 2 else if wholeB l = false then 6 else if lo ≤ valZ l ∧ valZ l ≤ hi then 0 else 7
def intV (l : List UInt8) (lo hi : Int) : Int := if intE l lo hi = 0 then valZ l else 0
theorem intE_arg {l : List UInt8} {lo hi : Int} (h : hi < lo) : intE l lo hi = 2 := by unfold intE; rw [if_pos h]
theorem intE_form {l : List UInt8} {lo hi : Int} (h : lo ≤ hi) (k : wholeB l = false) : intE l lo hi = 6 := by unfold intE; rw [if_neg (by omega), if_pos k]
theorem intE_whole {l : List UInt8} {lo hi : Int} (h : lo ≤ hi) (k : wholeB l = true) : intE l lo hi = if lo ≤ valZ l ∧ valZ l ≤ hi then 0 else 7 := by unfold intE; rw [if_neg (by omega), if_neg (by simp [k])]
theorem intV_ok {l : List UInt8} {lo hi : Int} (h : intE l lo hi = 0) : intV l lo hi = valZ l := by unfold intV; rw [if_pos h]
theorem intV_no {l : List UInt8} {lo hi : Int} (h : intE l lo hi ≠ 0) : intV l lo hi = 0 := by unfold intV; rw [if_neg h]
/-- a whole number of more than 20 bytes does not fit -/
theorem val_long {l : List UInt8} (h : wholeB l = true) (k : 20 < l.length) : ¬ (-9223372036854775808 ≤ valZ l ∧ valZ l ≤ 9223372036854775807) := by
  unfold wholeB at h
  simp only [Bool.and_eq_true] at h
  have hn := h.1
  have hl : 20 ≤ (absL l).length := by
    unfold absL
    split
    · rw [List.length_tail]; omega
    · omega
  have h1 := val_big (natB_dig hn) (natB_ne hn) (natB_head hn (by omega))
  have h2 : (10 : Nat) ^ 19 ≤ 10 ^ ((absL l).length - 1) := Nat.pow_le_pow_right (by decide) (by omega)
  have h3 : (10 : Nat) ^ 19 = 10000000000000000000 := by decide
  unfold valZ
  split <;> omega
end Go.Proofs.YthmknaoelmeniaaGreatDoor

namespace Go.Proofs.YthmknaoelmeniaaGreatDoor

/-- the pieces between the bytes c -/
def spl (c : UInt8) : List UInt8 → List (List UInt8)
  | [] => [[]]
  | x :: r => if x = c then [] :: spl c r else (x :: (spl c r).headD []) :: (spl c r).tail
theorem spl_nil (c : UInt8) : spl c [] = [[]] := rfl
theorem spl_ne (c : UInt8) (l : List UInt8) : spl c l ≠ [] := by
  cases l with
  | nil => simp [spl]
  | cons x r =>
    rw [spl]
    split <;> simp
theorem spl_hit (c : UInt8) (r : List UInt8) : spl c (c :: r) = [] :: spl c r := by rw [spl, if_pos rfl]
theorem spl_miss {c x : UInt8} {r : List UInt8} (h : x ≠ c) : spl c (x :: r) = (x :: (spl c r).headD []) :: (spl c r).tail := by rw [spl, if_neg h]
theorem hd_mem {l : List (List UInt8)} (h : l ≠ []) : l.headD [] ∈ l := by
  cases l with
  | nil => exact absurd rfl h
  | cons p q => exact List.mem_cons_self ..
/-- a text without the byte is one piece -/
theorem spl_one {c : UInt8} : ∀ {l : List UInt8}, c ∉ l → spl c l = [l]
  | [], _ => rfl
  | x :: r, h => by
    have h1 : x ≠ c := fun e => h (by rw [e]; exact List.mem_cons_self ..)
    have h2 := spl_one (l := r) (fun k => h (List.mem_cons_of_mem _ k))
    rw [spl_miss h1]
    simp [h2]
theorem spl_cut {c : UInt8} : ∀ {a r : List UInt8}, c ∉ a → spl c (a ++ c :: r) = a :: spl c r
  | [], r, _ => by rw [List.nil_append, spl_hit]
  | x :: a, r, h => by
    have h1 : x ≠ c := fun e => h (by rw [e]; exact List.mem_cons_self ..)
    have h2 := spl_cut (a := a) (r := r) (fun k => h (List.mem_cons_of_mem _ k))
    rw [List.cons_append, spl_miss h1]
    simp [h2]
theorem spl_mem {c : UInt8} : ∀ {l p : List UInt8}, p ∈ spl c l → c ∉ p
  | [], p, h => by
    rw [spl_nil] at h
    have : p = [] := by simpa using h
    subst this; simp
  | x :: r, p, h => by
    by_cases e : x = c
    · subst e
      rw [spl_hit] at h
      rcases List.mem_cons.1 h with rfl | h
      · simp
      · exact spl_mem h
    · rw [spl_miss e] at h
      rcases List.mem_cons.1 h with rfl | h
      · intro k
        rcases List.mem_cons.1 k with k | k
        · exact e k.symm
        · exact spl_mem (hd_mem (spl_ne c r)) k
      · exact spl_mem (List.mem_of_mem_tail h)
/-- the pieces, joined -/
def jn (c : UInt8) : List (List UInt8) → List UInt8
  | [] => []
  | [p] => p
  | p :: q :: r => p ++ c :: jn c (q :: r)
theorem jn_cons {c : UInt8} {p : List UInt8} {l : List (List UInt8)} (h : l ≠ []) : jn c (p :: l) = p ++ c :: jn c l := by
  cases l with
  | nil => exact absurd rfl h
  | cons q r => rfl
theorem jn_spl (c : UInt8) : ∀ l : List UInt8, jn c (spl c l) = l
  | [] => rfl
  | x :: r => by
    have ih := jn_spl c r
    by_cases e : x = c
    · subst e; rw [spl_hit, jn_cons (spl_ne x r), ih]; rfl
    · rw [spl_miss e]
      have hn := spl_ne c r
      cases hs : spl c r with
      | nil => exact absurd hs hn
      | cons p q =>
        rw [hs] at ih
        simp only [List.headD_cons, List.tail_cons]
        cases q with
        | nil =>
          rw [show jn c [p] = p from rfl] at ih
          rw [show jn c [x :: p] = x :: p from rfl, ih]
        | cons q1 q2 =>
          rw [jn_cons (by simp)] at ih ⊢
          rw [List.cons_append, ih]
theorem spl_jn {c : UInt8} : ∀ {l : List (List UInt8)}, l ≠ [] → (∀ p, p ∈ l → c ∉ p) → spl c (jn c l) = l
  | [], h, _ => absurd rfl h
  | [p], _, h => spl_one (h p (List.mem_cons_self ..))
  | p :: q :: r, _, h => by
    rw [jn_cons (by simp), spl_cut (h p (List.mem_cons_self ..)), spl_jn (by simp) (fun a ha => h a (List.mem_cons_of_mem _ ha))]
theorem spl_len (c : UInt8) : ∀ l : List UInt8, (spl c l).length = l.count c + 1
  | [] => rfl
  | x :: r => by
    have ih := spl_len c r
    by_cases e : x = c
    · subst e; rw [spl_hit, List.length_cons, ih, List.count_cons_self]
    · rw [spl_miss e, List.length_cons, List.length_tail, ih, List.count_cons_of_ne (by simpa using e)]; omega
/-- the kit's own cutting, at one byte -/
theorem splK_one (c : UInt8) : ∀ (n : Nat) (l : List UInt8), l.length ≤ n → Lib.splitK [c] 0 (Lib.count l [c]) l = spl c l
  | n, l, hn => by
    by_cases hm : c ∈ l
    · obtain ⟨a, r, rfl, ha⟩ := cut_first hm
      have hix : Lib.index (a ++ c :: r) [c] = (a.length : Int) := ix_cut ha
      have hd : (a ++ c :: r).drop (a.length + 1) = r := by rw [List.drop_append]; simp
      have hct : Lib.count (a ++ c :: r) [c] = Lib.count r [c] + 1 := by
        rw [Lib.count_hit (by simp) hix]
        rw [List.length_singleton, hd, Nat.add_comm]
      rw [hct, Lib.splitK, if_neg (by rw [hix]; simp), hix, Int.toNat_natCast, List.length_singleton, hd, spl_cut ha]
      congr 1
      · simp
      · match n, hn with
        | 0, hn => simp at hn
        | n + 1, hn => exact splK_one c n r (by simp at hn; omega)
    · have hix : Lib.index l [c] = -1 := ix_none hm
      rw [Lib.count_miss hix, Lib.splitK, spl_one hm]
where
  cut_first {c : UInt8} : ∀ {l : List UInt8}, c ∈ l → ∃ a r, l = a ++ c :: r ∧ c ∉ a
    | [], h => by cases h
    | x :: l, h => by
      by_cases e : x = c
      · subst e; exact ⟨[], l, rfl, by simp⟩
      · obtain ⟨a, r, e1, e2⟩ := cut_first (l := l) ((List.mem_cons.1 h).resolve_left (fun k => e k.symm))
        exact ⟨x :: a, r, by rw [e1]; rfl, fun k => (List.mem_cons.1 k).elim (fun k => e k.symm) e2⟩
  ix_cut {c : UInt8} {r : List UInt8} : ∀ {a : List UInt8}, c ∉ a → Lib.index (a ++ c :: r) [c] = (a.length : Int)
    | [], _ => by rw [List.nil_append, Lib.index]; simp [List.isPrefixOf]
    | x :: a, h => by
      have hx : x ≠ c := fun e => h (by rw [e]; exact List.mem_cons_self ..)
      have ih := ix_cut (r := r) (a := a) (fun k => h (List.mem_cons_of_mem _ k))
      have hp : ([c] : List UInt8).isPrefixOf (x :: (a ++ c :: r)) = false := by simp [List.isPrefixOf, Ne.symm hx]
      rw [List.cons_append, Lib.index, hp, ih]
      have : ((a.length : Int) == -1) = false := by simp
      rw [this]; simp
  ix_none {c : UInt8} : ∀ {l : List UInt8}, c ∉ l → Lib.index l [c] = -1
    | [], _ => rfl
    | x :: l, h => by
      have hx : x ≠ c := fun e => h (by rw [e]; exact List.mem_cons_self ..)
      have ih := ix_none (l := l) (fun k => h (List.mem_cons_of_mem _ k))
      have hp : ([c] : List UInt8).isPrefixOf (x :: l) = false := by simp [List.isPrefixOf, Ne.symm hx]
      rw [Lib.index, hp, ih]; rfl
theorem splB_one (c : UInt8) (s : ByteArray) : (Lib.splitB ⟨#[c]⟩ 0 (Lib.countB s ⟨#[c]⟩) s).map (·.data.toList) = spl c s.data.toList := by
  rw [Lib.splitB_data]
  exact splK_one c _ _ (Nat.le_refl _)
theorem cntB_one (c : UInt8) (s : ByteArray) : Lib.countB s ⟨#[c]⟩ = s.data.toList.count c := Lib.count_one c _
/-- the lines of a text -/
def lnsE (l : List UInt8) : Int := if 1048576 < l.length then 3 else if l = [] then 0 else if l.getLast? ≠ some 10 then 6 else if 5000 < l.count 10 then 3 else 0
def lnsL (l : List UInt8) : List (List UInt8) := if lnsE l ≠ 0 ∨ l = [] then [] else spl 10 l.dropLast
end Go.Proofs.YthmknaoelmeniaaGreatDoor

namespace Go.Proofs.YthmknaoelmeniaaGreatDoor

/-- how many numbers go up from a one on -/
def runU : Nat → List Nat → Nat
  | _, [] => 0
  | a, x :: r => if x = a then 1 + runU (a + 1) r else 0
/-- how many are that number -/
def runA (a : Nat) : List Nat → Nat
  | [] => 0
  | x :: r => if x = a then 1 + runA a r else 0
theorem runU_le : ∀ (N : List Nat) (a : Nat), runU a N ≤ N.length
  | [], _ => Nat.le_refl _
  | x :: r, a => by
    rw [runU]
    split
    · have := runU_le r (a + 1); rw [List.length_cons]; omega
    · exact Nat.zero_le _
theorem runA_le (a : Nat) : ∀ N : List Nat, runA a N ≤ N.length
  | [] => Nat.le_refl _
  | x :: r => by
    rw [runA]
    split
    · have := runA_le a r; rw [List.length_cons]; omega
    · exact Nat.zero_le _
theorem runU_iff : ∀ (N : List Nat) (a n : Nat), n ≤ runU a N ↔ ∀ j, j < n → N[j]? = some (a + j)
  | [], a, n => by
    rw [runU]
    constructor
    · intro h j hj; omega
    · intro h
      rcases Nat.eq_zero_or_pos n with h0 | h0
      · omega
      · have := h 0 h0; simp at this
  | x :: r, a, 0 => by constructor
                       · intro _ j hj; omega
                       · intro _; exact Nat.zero_le _
  | x :: r, a, n + 1 => by
    rw [runU]
    by_cases hx : x = a
    · subst hx
      rw [if_pos rfl]
      have ih := runU_iff r (x + 1) n
      constructor
      · intro h j hj
        cases j with
        | zero => rfl
        | succ j =>
          have := ih.1 (by omega) j (by omega)
          rw [List.getElem?_cons_succ, this]; congr 1; omega
      · intro h
        have := ih.2 (fun j hj => by have := h (j + 1) (by omega); rw [List.getElem?_cons_succ] at this; rw [this]; congr 1; omega)
        omega
    · rw [if_neg hx]
      constructor
      · intro h; omega
      · intro h
        have := h 0 (by omega)
        simp at this
        exact absurd this hx
theorem runA_iff (a : Nat) : ∀ (N : List Nat) (n : Nat), n ≤ runA a N ↔ ∀ j, j < n → N[j]? = some a
  | [], n => by
    rw [runA]
    constructor
    · intro h j hj; omega
    · intro h
      rcases Nat.eq_zero_or_pos n with h0 | h0
      · omega
      · have := h 0 h0; simp at this
  | x :: r, 0 => by constructor
                    · intro _ j hj; omega
                    · intro _; exact Nat.zero_le _
  | x :: r, n + 1 => by
    rw [runA]
    by_cases hx : x = a
    · subst hx
      rw [if_pos rfl]
      have ih := runA_iff x r n
      constructor
      · intro h j hj
        cases j with
        | zero => rfl
        | succ j => exact ih.1 (by omega) j (by omega)
      · intro h
        have := ih.2 (fun j hj => h (j + 1) (by omega))
        omega
    · rw [if_neg hx]
      constructor
      · intro h; omega
      · intro h
        have := h 0 (by omega)
        simp at this
        exact absurd this hx
/-- the items that may begin at a list's first number: the text, and how many numbers -/
abbrev Itm := List UInt8 × Nat
def upI (a j : Nat) : Itm := (Lib.decDigits a ++ 45 :: Lib.decDigits (a + j + 1), j + 2)
def alI (a j : Nat) : Itm := (Lib.decDigits (j + 2) ++ 120 :: Lib.decDigits a, j + 2)
def itemsL : List Nat → List Itm
  | [] => []
  | a :: r => (Lib.decDigits a, 1) :: ((List.range (runU a (a :: r) - 1)).map (upI a) ++ (List.range (runA a (a :: r) - 1)).map (alI a))
theorem mem_items {a : Nat} {r : List Nat} {x : Itm} : x ∈ itemsL (a :: r) ↔ x = (Lib.decDigits a, 1) ∨ (∃ j, j + 2 ≤ runU a (a :: r) ∧ x = upI a j) ∨ (∃ j, j + 2 ≤ runA a (a :: r) ∧ x = alI a j) := by
  unfold itemsL
  simp only [List.mem_cons, List.mem_append, List.mem_map, List.mem_range]
  refine or_congr_right (or_congr ⟨fun ⟨j, h, e⟩ => ⟨j, by omega, e.symm⟩, fun ⟨j, h, e⟩ => ⟨j, by omega, e.symm⟩⟩ ⟨fun ⟨j, h, e⟩ => ⟨j, by omega, e.symm⟩, fun ⟨j, h, e⟩ => ⟨j, by omega, e.symm⟩⟩)
theorem items_many {N : List Nat} {x : Itm} (h : x ∈ itemsL N) : 1 ≤ x.2 ∧ x.2 ≤ N.length := by
  cases N with
  | nil => cases h
  | cons a r =>
    rcases mem_items.1 h with rfl | ⟨j, hj, rfl⟩ | ⟨j, hj, rfl⟩
    · exact ⟨Nat.le_refl _, by simp⟩
    · have := runU_le (a :: r) a
      exact ⟨by unfold upI; omega, by show j + 2 ≤ _; omega⟩
    · have := runA_le a (a :: r)
      exact ⟨by unfold alI; omega, by show j + 2 ≤ _; omega⟩
theorem dec_not {c : UInt8} (hc : dgC c = false) (n : Nat) : c ∉ Lib.decDigits n := fun h => by
  have := List.all_eq_true.1 (dec_dig n) c h
  rw [hc] at this; cases this
theorem items_comma {N : List Nat} {x : Itm} (h : x ∈ itemsL N) : (44 : UInt8) ∉ x.1 := by
  have hd : ∀ n, (44 : UInt8) ∉ Lib.decDigits n := dec_not rfl
  cases N with
  | nil => cases h
  | cons a r =>
    rcases mem_items.1 h with rfl | ⟨j, hj, rfl⟩ | ⟨j, hj, rfl⟩
    · exact hd a
    · unfold upI
      simp only [List.mem_append, List.mem_cons, not_or]
      exact ⟨hd _, by decide, hd _⟩
    · unfold alI
      simp only [List.mem_append, List.mem_cons, not_or]
      exact ⟨hd _, by decide, hd _⟩
theorem items_ne {N : List Nat} {x : Itm} (h : x ∈ itemsL N) : x.1 ≠ [] := by
  cases N with
  | nil => cases h
  | cons a r =>
    rcases mem_items.1 h with rfl | ⟨j, hj, rfl⟩ | ⟨j, hj, rfl⟩
    · exact dec_ne a
    · unfold upI; simp
    · unfold alI; simp
theorem dec_inj {a b : Nat} (h : Lib.decDigits a = Lib.decDigits b) : a = b := by
  have := dec_val a
  rw [h, dec_val] at this
  exact this.symm
/-- an item's text says how many numbers it is -/
theorem items_inj {N : List Nat} {x y : Itm} (hx : x ∈ itemsL N) (hy : y ∈ itemsL N) (h : x.1 = y.1) : x = y := by
  have h45 : ∀ n, (45 : UInt8) ∉ Lib.decDigits n := dec_not rfl
  have h120 : ∀ n, (120 : UInt8) ∉ Lib.decDigits n := dec_not rfl
  have u45 : ∀ a j, (45 : UInt8) ∈ (upI a j).1 := fun a j => by unfold upI; simp
  have a120 : ∀ a j, (120 : UInt8) ∈ (alI a j).1 := fun a j => by unfold alI; simp
  have u120 : ∀ a j, (120 : UInt8) ∉ (upI a j).1 := fun a j => by unfold upI; simp only [List.mem_append, List.mem_cons, not_or]; exact ⟨h120 _, by decide, h120 _⟩
  cases N with
  | nil => cases hx
  | cons a r =>
    rcases mem_items.1 hx with rfl | ⟨j, hj, rfl⟩ | ⟨j, hj, rfl⟩ <;> rcases mem_items.1 hy with rfl | ⟨i, hi, rfl⟩ | ⟨i, hi, rfl⟩
    · rfl
    · have := u45 a i; rw [← h] at this; exact absurd this (h45 a)
    · have := a120 a i; rw [← h] at this; exact absurd this (h120 a)
    · have := u45 a j; rw [h] at this; exact absurd this (h45 a)
    · unfold upI at h
      have h2 := (List.cons.inj (List.append_cancel_left h)).2
      have := dec_inj h2
      have : j = i := by omega
      rw [this]
    · have := a120 a i; rw [← h] at this; exact absurd this (u120 a j)
    · have := a120 a j; rw [h] at this; exact absurd this (h120 a)
    · have := a120 a j; rw [h] at this; exact absurd this (u120 a i)
    · unfold alI at h
      have := dec_inj (List.append_cancel_right h)
      have : j = i := by omega
      rw [this]
/-- the texts of a list, with a comma behind each item -/
inductive Tc : List Nat → List UInt8 → Prop
  | nil : Tc [] []
  | cons {N : List Nat} {x : Itm} {u : List UInt8} (h : x ∈ itemsL N) (k : Tc (N.drop x.2) u) : Tc N (x.1 ++ 44 :: u)
/-- the order of texts: shorter, or as long and before -/
def ltS (s t : List UInt8) : Bool := decide (s.length < t.length) || (decide (s.length = t.length) && decide (s < t))
theorem ltS_yes {s t : List UInt8} : ltS s t = true ↔ s.length < t.length ∨ s.length = t.length ∧ s < t := by unfold ltS; simp
theorem lt_irr (s : List UInt8) : ¬ s < s := List.lt_irrefl s
theorem ltS_irr (s : List UInt8) : ltS s s = false := by
  cases h : ltS s s
  · rfl
  · rcases ltS_yes.1 h with h | ⟨_, h⟩
    · omega
    · exact absurd h (lt_irr s)
theorem ltS_tr {s t u : List UInt8} (h : ltS s t = true) (k : ltS t u = true) : ltS s u = true := by
  rw [ltS_yes] at *
  rcases h with h | ⟨h, h'⟩ <;> rcases k with k | ⟨k, k'⟩
  · left; omega
  · left; omega
  · left; omega
  · right; exact ⟨by omega, List.lt_trans h' k'⟩
theorem ltS_tri {s t : List UInt8} (h : ltS s t = false) (hne : s ≠ t) : ltS t s = true := by
  rw [ltS_yes]
  have h' : ¬ (s.length < t.length ∨ s.length = t.length ∧ s < t) := fun k => by rw [ltS_yes.2 k] at h; cases h
  rcases Nat.lt_trichotomy s.length t.length with k | k | k
  · exact absurd (.inl k) h'
  · right
    refine ⟨k.symm, ?_⟩
    by_cases q : t < s
    · exact q
    · rw [List.not_lt] at q
      rcases List.le_iff_lt_or_eq.1 q with g | g
      · exact absurd (.inr ⟨k, g⟩) h'
      · exact absurd g hne
  · exact .inl k
/-- the least of some texts: the first of them in that order -/
def pickM : List (List UInt8) → List UInt8
  | [] => []
  | s :: r => r.foldl (fun b x => if ltS x b then x else b) s
theorem pick_fold : ∀ (r : List (List UInt8)) (b : List UInt8), (r.foldl (fun b x => if ltS x b then x else b) b = b ∨ r.foldl (fun b x => if ltS x b then x else b) b ∈ r) ∧ ltS b (r.foldl (fun b x => if ltS x b then x else b) b) = false ∧ ∀ t, t ∈ r → ltS t (r.foldl (fun b x => if ltS x b then x else b) b) = false
  | [], b => ⟨.inl rfl, ltS_irr b, by simp⟩
  | x :: r, b => by
    rw [List.foldl_cons]
    obtain ⟨b', hb'⟩ : ∃ z, (if ltS x b then x else b) = z := ⟨_, rfl⟩
    rw [hb']
    obtain ⟨h1, h2, h3⟩ := pick_fold r b'
    obtain ⟨z, hz⟩ : ∃ z, r.foldl (fun b x => if ltS x b then x else b) b' = z := ⟨_, rfl⟩
    rw [hz] at h1 h2 h3 ⊢
    have key : ltS b z = false ∧ ltS x z = false := by
      cases hx : ltS x b
      · rw [hx] at hb'
        have hb' : b = b' := hb'
        subst hb'
        refine ⟨h2, ?_⟩
        cases hk : ltS x z
        · rfl
        · exfalso
          by_cases e : b = z
          · rw [e] at hx; rw [hx] at hk; cases hk
          · have := ltS_tr hk (ltS_tri h2 e)
            rw [hx] at this; cases this
      · rw [hx] at hb'
        have hb' : x = b' := hb'
        subst hb'
        refine ⟨?_, h2⟩
        cases hk : ltS b z
        · rfl
        · have := ltS_tr hx hk
          rw [h2] at this; cases this
    refine ⟨?_, key.1, ?_⟩
    · rcases h1 with h1 | h1
      · cases hx : ltS x b
        · rw [hx] at hb'; left; rw [h1]; exact hb'.symm
        · rw [hx] at hb'; right; rw [h1, ← hb']; exact List.mem_cons_self ..
      · exact .inr (List.mem_cons_of_mem _ h1)
    · intro t ht
      rcases List.mem_cons.1 ht with rfl | ht
      · exact key.2
      · exact h3 t ht
theorem pick_mem {R : List (List UInt8)} (h : R ≠ []) : pickM R ∈ R ∧ ∀ t, t ∈ R → ltS t (pickM R) = false := by
  cases R with
  | nil => exact absurd rfl h
  | cons s r =>
    obtain ⟨h1, h2, h3⟩ := pick_fold r s
    refine ⟨?_, ?_⟩
    · rcases h1 with h1 | h1
      · exact List.mem_cons.2 (.inl h1)
      · exact List.mem_cons_of_mem _ h1
    · intro t ht
      rcases List.mem_cons.1 ht with rfl | ht
      · exact h2
      · exact h3 t ht
theorem pick_is {R : List (List UInt8)} {s : List UInt8} (hs : s ∈ R) (hm : ∀ t, t ∈ R → ltS t s = false) : pickM R = s := by
  have hne : R ≠ [] := by rintro rfl; cases hs
  obtain ⟨h1, h2⟩ := pick_mem hne
  by_cases e : pickM R = s
  · exact e
  · have := ltS_tri (hm _ h1) e
    rw [h2 s hs] at this; cases this
/-- the best text of a list, with a comma behind each item (the number: at least its length) -/
def bestF : Nat → List Nat → List UInt8
  | 0, _ => []
  | k + 1, N => pickM ((itemsL N).map fun x => x.1 ++ 44 :: bestF k (N.drop x.2))
def bestC (N : List Nat) : List UInt8 := bestF N.length N
theorem bestF_nil (k : Nat) : bestF k [] = [] := by cases k <;> rfl
theorem bestF_more : ∀ (k m : Nat) (N : List Nat), N.length ≤ k → N.length ≤ m → bestF k N = bestF m N
  | 0, m, N, h, _ => by
    have : N = [] := List.length_eq_zero_iff.1 (by omega)
    subst this; rw [bestF_nil, bestF_nil]
  | k + 1, 0, N, _, h => by
    have : N = [] := List.length_eq_zero_iff.1 (by omega)
    subst this; rw [bestF_nil, bestF_nil]
  | k + 1, m + 1, N, h, h' => by
    rw [bestF, bestF]
    congr 1
    apply List.map_congr_left
    intro x hx
    have := items_many hx
    rw [bestF_more k m (N.drop x.2) (by rw [List.length_drop]; omega) (by rw [List.length_drop]; omega)]
/-- the candidates -/
def candL (N : List Nat) : List (List UInt8) := (itemsL N).map fun x => x.1 ++ 44 :: bestC (N.drop x.2)
theorem bestC_nil : bestC [] = [] := rfl
theorem bestC_eq {N : List Nat} (h : N ≠ []) : bestC N = pickM (candL N) := by
  obtain ⟨k, hk⟩ : ∃ k, N.length = k + 1 := ⟨N.length - 1, by have := List.length_pos_iff.2 h; omega⟩
  unfold bestC candL
  rw [hk, bestF]
  congr 1
  apply List.map_congr_left
  intro x hx
  have := items_many hx
  unfold bestC
  rw [bestF_more k _ (N.drop x.2) (by rw [List.length_drop]; omega) (Nat.le_refl _)]
theorem items_some {N : List Nat} (h : N ≠ []) : itemsL N ≠ [] := by
  cases N with
  | nil => exact absurd rfl h
  | cons a r => unfold itemsL; simp
theorem cand_ne {N : List Nat} (h : N ≠ []) : candL N ≠ [] := by
  unfold candL; simpa using items_some h
/-- it is a text of the list -/
theorem best_tc : ∀ (k : Nat) (N : List Nat), N.length ≤ k → Tc N (bestC N)
  | 0, N, h => by
    have : N = [] := List.length_eq_zero_iff.1 (by omega)
    subst this; exact .nil
  | k + 1, N, h => by
    by_cases hN : N = []
    · subst hN; exact .nil
    · rw [bestC_eq hN]
      have := (pick_mem (cand_ne hN)).1
      unfold candL at this
      obtain ⟨x, hx, e⟩ := List.mem_map.1 this
      rw [show candL N = (itemsL N).map fun x => x.1 ++ 44 :: bestC (N.drop x.2) from rfl, ← e]
      have hm := items_many hx
      exact .cons hx (best_tc k _ (by rw [List.length_drop]; omega))
/-- two texts that differ before their first comma -/
theorem lt_comma : ∀ (x y u v : List UInt8), (44 : UInt8) ∉ x → (44 : UInt8) ∉ y → x ≠ y → ((x ++ 44 :: u < y ++ 44 :: v) ↔ (x ++ [44] < y ++ [44]))
  | [], [], _, _, _, _, h => absurd rfl h
  | [], c :: y, u, v, _, hy, _ => by
    have hc : (44 : UInt8) ≠ c := fun e => hy (by rw [e]; exact List.mem_cons_self ..)
    simp only [List.nil_append, List.cons_append, List.cons_lt_cons_iff]
    simp [hc]
  | c :: x, [], u, v, hx, _, _ => by
    have hc : c ≠ (44 : UInt8) := fun e => hx (by rw [e]; exact List.mem_cons_self ..)
    simp only [List.nil_append, List.cons_append, List.cons_lt_cons_iff]
    simp [hc]
  | c :: x, d :: y, u, v, hx, hy, h => by
    simp only [List.cons_append, List.cons_lt_cons_iff]
    by_cases e : c = d
    · subst e
      have ih := lt_comma x y u v (fun k => hx (List.mem_cons_of_mem _ k)) (fun k => hy (List.mem_cons_of_mem _ k)) (fun k => h (by rw [k]))
      rw [ih]
    · simp [e]
theorem lt_same (x : List UInt8) (a b : List UInt8) : (x ++ a < x ++ b) ↔ a < b := by
  induction x with
  | nil => exact Iff.rfl
  | cons c x ih => simp only [List.cons_append, List.cons_lt_cons_iff]; simp [ih]
theorem ltS_pre (x : List UInt8) (a b : List UInt8) : ltS (x ++ a) (x ++ b) = ltS a b := by
  rw [Bool.eq_iff_iff, ltS_yes, ltS_yes, lt_same]
  simp only [List.length_append]
  constructor
  · rintro (h | ⟨h, k⟩)
    · left; omega
    · right; exact ⟨by omega, k⟩
  · rintro (h | ⟨h, k⟩)
    · left; omega
    · right; exact ⟨by omega, k⟩
/-- and none is before it -/
theorem best_min : ∀ (k : Nat) (N : List Nat) (t : List UInt8), N.length ≤ k → Tc N t → ltS t (bestC N) = false
  | _, _, _, _, .nil => ltS_irr _
  | 0, N, _, h, .cons (x := x) hx _ => by
    have := items_many hx; omega
  | k + 1, N, _, h, .cons (x := x) (u := u) hx hu => by
    have hm := items_many hx
    have hN : N ≠ [] := by rintro rfl; cases hx
    have ih := best_min k (N.drop x.2) u (by rw [List.length_drop]; omega) hu
    have hc : x.1 ++ 44 :: bestC (N.drop x.2) ∈ candL N := List.mem_map.2 ⟨x, hx, rfl⟩
    have h2 := (pick_mem (cand_ne hN)).2 _ hc
    rw [← bestC_eq hN] at h2
    have h3 : ltS (x.1 ++ 44 :: u) (x.1 ++ 44 :: bestC (N.drop x.2)) = false := by
      rw [ltS_pre, show (44 :: u) = [44] ++ u from rfl, show (44 :: bestC (N.drop x.2)) = [44] ++ bestC (N.drop x.2) from rfl, ltS_pre]
      exact ih
    cases hk : ltS (x.1 ++ 44 :: u) (bestC N)
    · rfl
    · exfalso
      by_cases e : x.1 ++ 44 :: u = x.1 ++ 44 :: bestC (N.drop x.2)
      · rw [e, h2] at hk; cases hk
      · have := ltS_tr (ltS_tri h3 e) hk
        rw [h2] at this; cases this
theorem best_text (N : List Nat) : Tc N (bestC N) := best_tc _ N (Nat.le_refl _)
theorem best_least {N : List Nat} {t : List UInt8} (h : Tc N t) : ltS t (bestC N) = false := best_min _ N t (Nat.le_refl _) h
/-- what the program picks: of the items that attain the least length the first one -/
theorem pick_item {N : List Nat} {x : Itm} (hx : x ∈ itemsL N) (hl : x.1.length + 1 + (bestC (N.drop x.2)).length = (bestC N).length)
    (hm : ∀ y, y ∈ itemsL N → y.1.length + 1 + (bestC (N.drop y.2)).length = (bestC N).length → ¬ (y.1 ++ [44] < x.1 ++ [44])) : x.1 ++ 44 :: bestC (N.drop x.2) = bestC N := by
  have hN : N ≠ [] := by rintro rfl; cases hx
  have hlen : ∀ y : Itm, (y.1 ++ 44 :: bestC (N.drop y.2)).length = y.1.length + 1 + (bestC (N.drop y.2)).length := fun y => by rw [List.length_append, List.length_cons]; omega
  symm
  rw [bestC_eq hN]
  refine pick_is (List.mem_map.2 ⟨x, hx, rfl⟩) ?_
  intro t ht
  obtain ⟨y, hy, rfl⟩ := List.mem_map.1 ht
  cases hk : ltS (y.1 ++ 44 :: bestC (N.drop y.2)) (x.1 ++ 44 :: bestC (N.drop x.2))
  · rfl
  · exfalso
    have hb := best_least (Tc.cons hy (best_text (N.drop y.2)))
    have hle : (bestC N).length ≤ y.1.length + 1 + (bestC (N.drop y.2)).length := by
      rcases Nat.lt_or_ge (y.1.length + 1 + (bestC (N.drop y.2)).length) (bestC N).length with h | h
      · rw [ltS_yes.2 (.inl (by rw [hlen]; exact h))] at hb; cases hb
      · exact h
    rcases ltS_yes.1 hk with h | ⟨h, h'⟩
    · rw [hlen, hlen] at h; omega
    · rw [hlen, hlen] at h
      by_cases e : x.1 = y.1
      · have := items_inj hx hy e
        subst this
        exact lt_irr _ h'
      · exact hm y hy (by omega) ((lt_comma _ _ _ _ (items_comma hy) (items_comma hx) (fun k => e k.symm)).1 h')
/-- without the comma at the end -/
theorem lt_last {a b : List UInt8} (h : a.length = b.length) : (a ++ [44] < b ++ [44]) ↔ a < b := by
  induction a generalizing b with
  | nil =>
    cases b with
    | nil => simp
    | cons d b => simp at h
  | cons c a ih =>
    cases b with
    | nil => simp at h
    | cons d b =>
      simp only [List.cons_append, List.cons_lt_cons_iff]
      rw [ih (by simpa using h)]
theorem ltS_last (a b : List UInt8) : ltS (a ++ [44]) (b ++ [44]) = ltS a b := by
  rw [Bool.eq_iff_iff, ltS_yes, ltS_yes]
  simp only [List.length_append, List.length_singleton]
  constructor
  · rintro (h | ⟨h, k⟩)
    · left; omega
    · right; exact ⟨by omega, (lt_last (by omega)).1 k⟩
  · rintro (h | ⟨h, k⟩)
    · left; omega
    · right; exact ⟨by omega, (lt_last (by omega)).2 k⟩
theorem tc_end : ∀ {N : List Nat} {t : List UInt8}, Tc N t → N ≠ [] → ∃ s, t = s ++ [44]
  | _, _, .nil, h => absurd rfl h
  | N, _, .cons (x := x) (u := u) hx hu, _ => by
    by_cases h : N.drop x.2 = []
    · rw [h] at hu
      cases hu with
      | nil => exact ⟨x.1, rfl⟩
      | cons h' _ => cases h'
    · obtain ⟨s, rfl⟩ := tc_end hu h
      exact ⟨x.1 ++ 44 :: s, by simp⟩
/-- the text itself -/
def bestS (N : List Nat) : List UInt8 := (bestC N).dropLast
theorem bestS_nil : bestS [] = [] := rfl
theorem bestC_S {N : List Nat} (h : N ≠ []) : bestC N = bestS N ++ [44] := by
  obtain ⟨s, hs⟩ := tc_end (best_text N) h
  unfold bestS
  rw [hs, List.dropLast_concat]
end Go.Proofs.YthmknaoelmeniaaGreatDoor
