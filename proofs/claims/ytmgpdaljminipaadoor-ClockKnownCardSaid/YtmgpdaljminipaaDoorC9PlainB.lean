/- Clocks: names, the checks of plans, counts, what is left of a plan. No program. -/
import Derived.Test.YtmgpdaljminipaaDoorC9Plain
import Derived.Test.YtmgpdaljminipaaDoorPlainC
namespace Go.Proofs.YtmgpdaljminipaaDoor

/-- a byte of a string -/
def byt (s : ByteArray) (i : Nat) : Nat := (s.data.toList.getD i 0).toNat
theorem byt_lt (s : ByteArray) (i : Nat) : byt s i < 256 := by unfold byt; exact (s.data.toList.getD i 0).toNat_lt
theorem byt_get {s : ByteArray} {i : Nat} (h : i < s.size) : s[i].toNat = byt s i := by
  unfold byt
  have h' : i < s.data.toList.length := by simpa using h
  rw [List.getD_eq_getElem?_getD, List.getElem?_eq_getElem h']
  rfl
def letB (c : Nat) : Bool := (decide (97 ≤ c) && decide (c ≤ 122)) || (decide (65 ≤ c) && decide (c ≤ 90))
def digB (c : Nat) : Bool := decide (48 ≤ c) && decide (c ≤ 57)
/-- may a byte stand there in a name? -/
def nmC (i c : Nat) : Bool := letB c || (decide (i ≠ 0) && (decide (c = 95) || digB c))
/-- is that a name? -/
def nmB (s : ByteArray) : Bool := decide (1 ≤ s.size) && decide (s.size ≤ 16) && (List.range s.size).all (fun i => nmC i (byt s i))
theorem nmB_no_size {s : ByteArray} (h : s.size < 1 ∨ 16 < s.size) : nmB s = false := by
  unfold nmB
  rcases h with h | h
  · rw [show decide (1 ≤ s.size) = false from decide_eq_false (by omega)]; rfl
  · rw [show decide (s.size ≤ 16) = false from decide_eq_false (by omega), Bool.and_false]; rfl
theorem nmB_no {s : ByteArray} {i : Nat} (hi : i < s.size) (h : nmC i (byt s i) = false) : nmB s = false := by
  unfold nmB
  rw [show (List.range s.size).all (fun i => nmC i (byt s i)) = false from ?_, Bool.and_false]
  rw [Bool.eq_false_iff]
  intro hh
  have := List.all_eq_true.1 hh i (List.mem_range.2 hi)
  rw [h] at this; cases this
theorem nmB_yes {s : ByteArray} (h0 : 1 ≤ s.size) (h1 : s.size ≤ 16) (h : ∀ i, i < s.size → nmC i (byt s i) = true) : nmB s = true := by
  unfold nmB
  rw [show (List.range s.size).all (fun i => nmC i (byt s i)) = true from List.all_eq_true.2 fun i hi => h i (List.mem_range.1 hi)]
  simp; omega
theorem nmB_size {s : ByteArray} (h : nmB s = true) : 1 ≤ s.size ∧ s.size ≤ 16 := by
  unfold nmB at h
  simp only [Bool.and_eq_true, decide_eq_true_eq] at h
  exact h.1

/-- is a string less than another one? -/
def nlt (a b : ByteArray) : Bool := decide (a.data.toList < b.data.toList)
theorem nlt_irr (a : ByteArray) : nlt a a = false := by
  unfold nlt
  exact decide_eq_false (List.lt_irrefl a.data.toList)
theorem nlt_tr {a b c : ByteArray} (h : nlt a b = true) (k : nlt b c = true) : nlt a c = true := by
  unfold nlt at *
  simp only [decide_eq_true_eq] at *
  exact List.lt_trans h k
theorem ba_ext {a b : ByteArray} (h : a.data.toList = b.data.toList) : a = b := ByteArray.ext (Array.ext' h)
theorem nlt_tri {a b : ByteArray} (h : a ≠ b) (k : nlt a b = false) : nlt b a = true := by
  unfold nlt at *
  simp only [decide_eq_true_eq, decide_eq_false_iff_not] at *
  rw [List.not_lt] at k
  rcases List.le_iff_lt_or_eq.1 k with g | g
  · exact g
  · exact absurd (ba_ext g.symm) h

/-- an alarm: name, time, period -/
abbrev Alm := ByteArray × Int × Int
def tmB (t : Int) : Bool := decide (0 ≤ t) && decide (t ≤ 1000000000000)
theorem tmB_yes {t : Int} : tmB t = true ↔ 0 ≤ t ∧ t ≤ 1000000000000 := by unfold tmB; simp
theorem tmB_no {t : Int} : tmB t = false ↔ ¬ (0 ≤ t ∧ t ≤ 1000000000000) := by rw [← tmB_yes]; simp
/-- the error of an alarm by itself -/
def alE (x : Alm) : Int := if nmB x.1 = false then 6 else if tmB x.2.1 = true ∧ tmB x.2.2 = true then 0 else 7
theorem alE_zero {x : Alm} (h : alE x = 0) : nmB x.1 = true ∧ AlOk x.2 := by
  unfold alE at h
  by_cases h1 : nmB x.1 = false
  · rw [if_pos h1] at h; cases h
  · rw [if_neg h1] at h
    by_cases h2 : tmB x.2.1 = true ∧ tmB x.2.2 = true
    · have a := tmB_yes.1 h2.1
      have b := tmB_yes.1 h2.2
      exact ⟨by simpa using h1, a.1, a.2, b.1, b.2⟩
    · rw [if_neg h2] at h; cases h
theorem alE_of {x : Alm} (h : nmB x.1 = true) (k : AlOk x.2) : alE x = 0 := by
  unfold alE
  rw [if_neg (by simp [h]), if_pos ⟨tmB_yes.2 ⟨k.a0, k.a1⟩, tmB_yes.2 ⟨k.e0, k.e1⟩⟩]
theorem alE_ways (x : Alm) : alE x = 0 ∨ alE x = 6 ∨ alE x = 7 := by
  unfold alE
  split
  · simp
  · split <;> simp
/-- the error at a place of a plan -/
def erA (R : Nat → Alm) (i : Nat) : Int := if alE (R i) ≠ 0 then alE (R i) else if 0 < i ∧ (R i).1 = (R (i - 1)).1 then 8 else if 0 < i ∧ nlt (R i).1 (R (i - 1)).1 = true then 6 else 0
def cBad (R : Nat → Alm) (i : Nat) : Bool := decide (erA R i ≠ 0)
def cI (n : Nat) (R : Nat → Alm) : Int := if 50 < n then 0 else if nxt (cBad R) 0 n < n then ((nxt (cBad R) 0 n : Nat) : Int) else 0
def cE (n : Nat) (R : Nat → Alm) : Int := if 50 < n then 3 else if nxt (cBad R) 0 n < n then erA R (nxt (cBad R) 0 n) else 0
theorem c_long {n : Nat} {R : Nat → Alm} (h : 50 < n) : 0 = cI n R ∧ 3 = cE n R := by unfold cI cE; rw [if_pos h, if_pos h]; exact ⟨rfl, rfl⟩
theorem c_bad {n i : Nat} {R : Nat → Alm} (h : ¬ 50 < n) (hi : i < n) (hb : erA R i ≠ 0) (hp : ∀ j, j < i → erA R j = 0) : (i : Int) = cI n R ∧ erA R i = cE n R := by
  have e : nxt (cBad R) 0 n = i := nxt_eq (Nat.zero_le _) (Nat.zero_le _) (by omega) (fun j _ hj => by unfold cBad; simp [hp j hj]) (fun _ => by unfold cBad; simp [hb])
  unfold cI cE; rw [if_neg h, if_neg h, e, if_pos hi, if_pos hi]; exact ⟨rfl, rfl⟩
theorem c_good {n : Nat} {R : Nat → Alm} (h : ¬ 50 < n) (hp : ∀ j, j < n → erA R j = 0) : 0 = cI n R ∧ 0 = cE n R := by
  have e : nxt (cBad R) 0 n = n := nxt_eq (Nat.zero_le _) (Nat.zero_le _) (Nat.le_refl _) (fun j _ hj => by unfold cBad; simp [hp j hj]) (fun h => by omega)
  unfold cI cE; rw [if_neg h, if_neg h, e, if_neg (Nat.lt_irrefl n), if_neg (Nat.lt_irrefl n)]; exact ⟨rfl, rfl⟩
theorem erA_zero {R : Nat → Alm} {i : Nat} (h : erA R i = 0) : alE (R i) = 0 ∧ (0 < i → nlt (R (i - 1)).1 (R i).1 = true) := by
  unfold erA at h
  by_cases h1 : alE (R i) = 0
  · rw [if_neg (by simpa using h1)] at h
    refine ⟨h1, fun hi => ?_⟩
    by_cases h2 : (R i).1 = (R (i - 1)).1
    · rw [if_pos ⟨hi, h2⟩] at h; cases h
    · rw [if_neg (fun hh => h2 hh.2)] at h
      by_cases h3 : nlt (R i).1 (R (i - 1)).1 = true
      · rw [if_pos ⟨hi, h3⟩] at h; cases h
      · exact nlt_tri h2 (by simpa using h3)
  · rw [if_pos h1] at h; exact absurd h h1
theorem erA_of {R : Nat → Alm} {i : Nat} (h : alE (R i) = 0) (k : 0 < i → nlt (R (i - 1)).1 (R i).1 = true) : erA R i = 0 := by
  unfold erA
  rw [if_neg (by simpa using h), if_neg, if_neg]
  · rintro ⟨h1, h2⟩
    have := nlt_tr (k h1) h2
    rw [nlt_irr] at this; cases this
  · rintro ⟨h1, h2⟩
    have := k h1
    rw [h2, nlt_irr] at this; cases this
/-- a valid plan -/
structure PlOk (n : Nat) (R : Nat → Alm) : Prop where
  n50 : n ≤ 50
  ok : ∀ i, i < n → AlOk (R i).2
  nm : ∀ i, i < n → nmB (R i).1 = true
  up : ∀ i j, i < j → j < n → nlt (R i).1 (R j).1 = true
theorem cE_zero {n : Nat} {R : Nat → Alm} (h : cE n R = 0) : PlOk n R := by
  unfold cE at h
  by_cases h1 : 50 < n
  · rw [if_pos h1] at h; cases h
  · rw [if_neg h1] at h
    obtain ⟨_, s2, s3, s4⟩ := nxt_spec (p := cBad R) (a := 0) (n := n) (Nat.zero_le _)
    by_cases h2 : nxt (cBad R) 0 n < n
    · rw [if_pos h2] at h
      have hb := s4 h2
      rw [cBad, h] at hb
      simp at hb
    · have hz : ∀ j, j < n → erA R j = 0 := fun j hj => by
        have := s3 j (Nat.zero_le _) (by omega)
        unfold cBad at this
        simpa using this
      refine ⟨by omega, fun i hi => (alE_zero (erA_zero (hz i hi)).1).2, fun i hi => (alE_zero (erA_zero (hz i hi)).1).1, ?_⟩
      intro i j hij
      induction j with
      | zero => omega
      | succ j ih =>
        intro hj
        have hs := (erA_zero (hz (j + 1) hj)).2 (by omega)
        rw [Nat.add_sub_cancel] at hs
        by_cases e : i = j
        · subst e; exact hs
        · exact nlt_tr (ih (by omega) (by omega)) hs
theorem PlOk.zero {n : Nat} {R : Nat → Alm} (h : PlOk n R) : cE n R = 0 :=
  (c_good (by have := h.n50; omega) fun j hj => erA_of (alE_of (h.nm j hj) (h.ok j hj)) fun h0 => h.up _ _ (by omega) hj).2.symm
/-- the sum of the rings -/
def sumA (R : Nat → Alm) (u : Int) : Nat → Int
  | 0 => 0
  | m + 1 => sumA R u m + cntA (R m).2 u
theorem cntA_ge {a : Int × Int} (h : AlOk a) {u : Int} (h1 : u ≤ MT) : 0 ≤ cntA a u ∧ cntA a u ≤ 1000000000001 := by
  have a0 := h.a0
  have e0 := h.e0
  unfold cntA
  split
  · omega
  · split
    · omega
    · have hE : 0 < a.2 := by omega
      have h2 : 0 ≤ (u - a.1) / a.2 := Int.ediv_nonneg (by omega) (by omega)
      have h3 : (u - a.1) / a.2 ≤ u - a.1 := Int.ediv_le_self _ (by omega)
      unfold MT at h1
      omega
theorem sumA_ge {R : Nat → Alm} {u : Int} (h1 : u ≤ MT) : ∀ {m : Nat}, (∀ i, i < m → AlOk (R i).2) → 0 ≤ sumA R u m ∧ sumA R u m ≤ 1000000000001 * (m : Int)
  | 0, _ => by simp [sumA]
  | m + 1, h => by
    have := sumA_ge h1 (m := m) fun i hi => h i (by omega)
    have := cntA_ge (h m (by omega)) h1
    simp only [sumA]
    omega
theorem sumA_sumC {R : Nat → Alm} {u : Int} {c : Nat → Nat} : ∀ {m : Nat}, (∀ i, i < m → (c i : Int) = cntA (R i).2 u) → (sumC c m : Int) = sumA R u m
  | 0, _ => rfl
  | m + 1, h => by
    have := sumA_sumC (m := m) fun i hi => h i (by omega)
    have := h m (by omega)
    simp only [sumA, sumC]
    omega
/-- the error of a plan and a time; how many rings there are -/
def ctE (n : Nat) (R : Nat → Alm) (u : Int) : Int := if cE n R ≠ 0 then cE n R else if tmB u = true then 0 else 7
def ctV (n : Nat) (R : Nat → Alm) (u : Int) : Int := if ctE n R u = 0 then sumA R u n else 0
theorem ctE_zero {n : Nat} {R : Nat → Alm} {u : Int} (h : ctE n R u = 0) : cE n R = 0 ∧ 0 ≤ u ∧ u ≤ 1000000000000 := by
  unfold ctE at h
  by_cases h0 : cE n R = 0
  · rw [if_neg (by simpa using h0)] at h
    by_cases h1 : tmB u = true
    · exact ⟨h0, tmB_yes.1 h1⟩
    · rw [if_neg h1] at h; cases h
  · rw [if_pos h0] at h; exact absurd h h0
theorem ctE_of {n : Nat} {R : Nat → Alm} {u : Int} (h : cE n R = 0) (h0 : 0 ≤ u) (h1 : u ≤ 1000000000000) : ctE n R u = 0 := by
  unfold ctE
  rw [if_neg (by simpa using h), if_pos (tmB_yes.2 ⟨h0, h1⟩)]
/-- the error of a run -/
def rnE (n : Nat) (R : Nat → Alm) (u : Int) : Int := if ctE n R u ≠ 0 then ctE n R u else if 1000 < sumA R u n then 3 else 0
theorem rnE_zero {n : Nat} {R : Nat → Alm} {u : Int} (h : rnE n R u = 0) : ctE n R u = 0 ∧ sumA R u n ≤ 1000 := by
  unfold rnE at h
  by_cases h0 : ctE n R u = 0
  · rw [if_neg (by simpa using h0)] at h
    by_cases h1 : 1000 < sumA R u n
    · rw [if_pos h1] at h; cases h
    · exact ⟨h0, by omega⟩
  · rw [if_pos h0] at h; exact absurd h h0
theorem rnE_of {n : Nat} {R : Nat → Alm} {u : Int} (h : ctE n R u = 0) (h1 : sumA R u n ≤ 1000) : rnE n R u = 0 := by
  unfold rnE
  rw [if_neg (by simpa using h), if_neg (by omega)]
/-- when an alarm rings next behind a time; -1: it does not -/
def nxA (a : Int × Int) (u : Int) : Int := if a.1 ≤ u then (if a.2 = 0 then -1 else if a.1 + ((u - a.1) / a.2 + 1) * a.2 ≤ MT then a.1 + ((u - a.1) / a.2 + 1) * a.2 else -1) else a.1
/-- the alarms that are left -/
def rstA (R : Nat → Alm) (u : Int) : Nat → List Alm
  | 0 => []
  | m + 1 => if 0 ≤ nxA (R m).2 u then rstA R u m ++ [((R m).1, nxA (R m).2 u, (R m).2.2)] else rstA R u m
theorem rstA_len (R : Nat → Alm) (u : Int) : ∀ m, (rstA R u m).length ≤ m
  | 0 => Nat.le_refl _
  | m + 1 => by
    have := rstA_len R u m
    simp only [rstA]
    split
    · simp; exact this
    · omega
/-- what is left is when it rings next -/
theorem nxA_pos {a : Int × Int} (h : AlOk a) {u : Int} {c : Nat} (hc : (c : Int) = cntA a u) : nxA a u = if pos a c < 0 then -1 else pos a c := by
  have a0 := h.a0
  have a1 := h.a1
  have e0 := h.e0
  unfold cntA at hc
  by_cases h1 : u < a.1
  · rw [if_pos h1] at hc
    obtain rfl : c = 0 := by omega
    rw [pos_zero h]
    unfold nxA
    rw [if_neg (show ¬ a.1 ≤ u by omega), if_neg (show ¬ a.1 < 0 by omega)]
  · rw [if_neg h1] at hc
    by_cases h2 : a.2 = 0
    · rw [if_pos h2] at hc
      have hp : pos a c = -1 := by unfold pos; rw [if_pos h2, if_neg (by omega)]
      rw [hp]
      unfold nxA
      rw [if_pos (show a.1 ≤ u by omega), if_pos h2]; rfl
    · rw [if_neg h2] at hc
      have hp : pos a c = if a.1 + (c : Int) * a.2 ≤ MT then a.1 + (c : Int) * a.2 else -1 := by unfold pos; rw [if_neg h2]
      rw [hp]
      unfold nxA
      rw [if_pos (show a.1 ≤ u by omega), if_neg h2, ← hc]
      by_cases h3 : a.1 + (c : Int) * a.2 ≤ MT
      · rw [if_pos h3]
        have := Int.mul_nonneg (show (0 : Int) ≤ (c : Int) by omega) e0
        rw [if_neg (show ¬ a.1 + (c : Int) * a.2 < 0 by omega)]
      · rw [if_neg h3]; rfl
end Go.Proofs.YtmgpdaljminipaaDoor
