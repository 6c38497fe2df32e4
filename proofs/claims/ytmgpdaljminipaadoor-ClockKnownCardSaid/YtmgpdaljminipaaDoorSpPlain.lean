/- Clocks: spans of time, written and read. No program. -/
import Derived.Test.YtmgpdaljminipaaDoorWInt
namespace Go.Proofs.YtmgpdaljminipaaDoor

/-- the units, from 0 on: letter, seconds, how many the next greater one has -/
def ltr (k : Nat) : UInt8 := if k = 0 then 100 else if k = 1 then 104 else if k = 2 then 109 else 115
def sec (k : Nat) : Nat := if k = 0 then 86400 else if k = 1 then 3600 else if k = 2 then 60 else 1
def mny (k : Nat) : Nat := if k = 0 then 0 else if k = 1 then 24 else 60
/-- the units from 4 - j on -/
def spF : Nat → Nat → List UInt8
  | 0, _ => []
  | j + 1, t => (if 0 < t / sec (3 - j) then Lib.decDigits (t / sec (3 - j)) ++ [ltr (3 - j)] else []) ++ spF j (t % sec (3 - j))
theorem spF_zero (t : Nat) : spF 0 t = [] := rfl
theorem spF_succ (j t : Nat) : spF (j + 1) t = (if 0 < t / sec (3 - j) then Lib.decDigits (t / sec (3 - j)) ++ [ltr (3 - j)] else []) ++ spF j (t % sec (3 - j)) := by rw [spF]
def spanL (t : Nat) : List UInt8 := if t = 0 then [48, 115] else spF 4 t
theorem sec_pos (k : Nat) : 1 ≤ sec k := by unfold sec; split <;> (try split) <;> (try split) <;> decide
theorem spF_small {j t : Nat} (h : t < sec (3 - j)) : spF (j + 1) t = spF j t := by
  rw [spF_succ, Nat.div_eq_of_lt h, if_neg (by omega), Nat.mod_eq_of_lt h, List.nil_append]
theorem spF_step {j t : Nat} (h : 0 < t / sec (3 - j)) : spF (j + 1) t = Lib.decDigits (t / sec (3 - j)) ++ ltr (3 - j) :: spF j (t % sec (3 - j)) := by
  rw [spF_succ, if_pos h, List.append_assoc]; rfl
theorem spF_of0 : ∀ j, spF j 0 = []
  | 0 => rfl
  | j + 1 => by rw [spF_small (sec_pos _), spF_of0 j]
theorem spF_nil {t : Nat} : ∀ j, spF (j + 1) t = [] → t = 0
  | 0, h => by
    by_cases h0 : 0 < t / sec (3 - 0)
    · rw [spF_step h0] at h; simp at h
    · have : sec (3 - 0) = 1 := rfl
      rw [this, Nat.div_one] at h0; omega
  | j + 1, h => by
    by_cases h0 : 0 < t / sec (3 - (j + 1))
    · rw [spF_step h0] at h; simp at h
    · have hlt : t < sec (3 - (j + 1)) := by
        rcases Nat.lt_or_ge t (sec (3 - (j + 1))) with h' | h'
        · exact h'
        · exact absurd (Nat.div_pos h' (sec_pos _)) h0
      rw [spF_small hlt] at h
      exact spF_nil j h

/-- digits that do not begin with 0 -/
def segB (l : List UInt8) : Bool := l.all dgC && (decide (l ≠ []) && decide (l.head? ≠ some 48))
theorem segB_yes {l : List UInt8} : segB l = true ↔ l.all dgC = true ∧ l ≠ [] ∧ l.head? ≠ some 48 := by
  unfold segB; simp only [Bool.and_eq_true, decide_eq_true_eq]
theorem segB_nat {l : List UInt8} (h : segB l = true) : natB l = true := by
  obtain ⟨h1, h2, h3⟩ := segB_yes.1 h
  exact natB_of h1 h2 (.inr h3)
/-- the number of a letter's unit, from 1 on; 0: there is none -/
def lix (c : UInt8) : Nat := if c.toNat = 100 then 1 else if c.toNat = 104 then 2 else if c.toNat = 109 then 3 else if c.toNat = 115 then 4 else 0
theorem lix_ltr {k : Nat} (h : k < 4) : lix (ltr k) = k + 1 := by
  match k, h with
  | 0, _ => rfl
  | 1, _ => rfl
  | 2, _ => rfl
  | 3, _ => rfl
theorem lix_le (c : UInt8) : lix c ≤ 4 := by unfold lix; split <;> (try split) <;> (try split) <;> (try split) <;> decide
theorem ltr_lix {c : UInt8} {k : Nat} (h : lix c = k + 1) : c = ltr k := by
  have e : ∀ d : UInt8, c.toNat = d.toNat → c = d := fun d h => UInt8.toNat_inj.1 h
  unfold lix at h
  split at h
  · obtain rfl : k = 0 := by omega
    exact e _ (by assumption)
  · split at h
    · obtain rfl : k = 1 := by omega
      exact e _ (by assumption)
    · split at h
      · obtain rfl : k = 2 := by omega
        exact e _ (by assumption)
      · split at h
        · obtain rfl : k = 3 := by omega
          exact e _ (by assumption)
        · omega
theorem ltr_dg {k : Nat} (h : k < 4) : dgC (ltr k) = false := by
  match k, h with
  | 0, _ => rfl
  | 1, _ => rfl
  | 2, _ => rfl
  | 3, _ => rfl
/-- may the digits d stand ahead of the letter c, behind the unit u? -/
def badS (u : Nat) (d : List UInt8) (c : UInt8) : Bool := decide (lix c ≤ u) || (!segB d || (decide (1 < lix c) && decide (mny (lix c - 1) ≤ valN 0 d)))
theorem badS_le {u : Nat} {d : List UInt8} {c : UInt8} (h : lix c ≤ u) : badS u d c = true := by unfold badS; rw [decide_eq_true h]; rfl
theorem badS_seg {u : Nat} {d : List UInt8} {c : UInt8} (h : segB d = false) : badS u d c = true := by unfold badS; rw [h]; simp
/-- what is read one part after the other: d: digits that were read last -/
def pR (u t : Nat) (b : Bool) (d : List UInt8) : List UInt8 → Nat × Nat
  | [] => if d ≠ [] ∨ u = 0 then (0, 6) else if b = true ∨ 1000000000000 < t then (0, 7) else (t, 0)
  | c :: r =>
    if dgC c then pR u t b (d ++ [c]) r
    else if badS u d c then (0, 6)
    else pR (lix c) (if (b || decide (1000000000000 / sec (lix c - 1) < valN 0 d)) then t else t + valN 0 d * sec (lix c - 1)) (b || decide (1000000000000 / sec (lix c - 1) < valN 0 d)) [] r
theorem pR_nil (u t : Nat) (b : Bool) (d : List UInt8) : pR u t b d [] = if d ≠ [] ∨ u = 0 then (0, 6) else if b = true ∨ 1000000000000 < t then (0, 7) else (t, 0) := by rw [pR]
theorem pR_dig {u t : Nat} {b : Bool} {d r : List UInt8} {c : UInt8} (h : dgC c = true) : pR u t b d (c :: r) = pR u t b (d ++ [c]) r := by rw [pR, if_pos h]
theorem pR_bad {u t : Nat} {b : Bool} {d r : List UInt8} {c : UInt8} (h : dgC c = false) (k : badS u d c = true) : pR u t b d (c :: r) = (0, 6) := by rw [pR, if_neg (by simp [h]), if_pos k]
theorem pR_go {u t : Nat} {b : Bool} {d r : List UInt8} {c : UInt8} (h : dgC c = false) (k : badS u d c = false) : pR u t b d (c :: r) = pR (lix c) (if (b || decide (1000000000000 / sec (lix c - 1) < valN 0 d)) then t else t + valN 0 d * sec (lix c - 1)) (b || decide (1000000000000 / sec (lix c - 1) < valN 0 d)) [] r := by
  rw [pR, if_neg (by simp [h]), if_neg (by simp [k])]
theorem pR_digs {u t : Nat} {b : Bool} {r : List UInt8} : ∀ (a d : List UInt8), a.all dgC = true → pR u t b d (a ++ r) = pR u t b (d ++ a) r
  | [], d, _ => by rw [List.nil_append, List.append_nil]
  | x :: a, d, h => by
    simp only [List.all_cons, Bool.and_eq_true] at h
    rw [List.cons_append, pR_dig h.1, pR_digs a _ h.2, List.append_assoc]; rfl
/-- a letter of an earlier unit: wrong -/
theorem pR_early {k : Nat} (hk : k < 4) : ∀ (r : List UInt8) (u t : Nat) (b : Bool) (d : List UInt8), k < u → ltr k ∈ r → pR u t b d r = (0, 6)
  | [], _, _, _, _, _, h => by cases h
  | c :: r, u, t, b, d, hu, h => by
    rcases List.mem_cons.1 h with rfl | h
    · exact pR_bad (ltr_dg hk) (badS_le (by rw [lix_ltr hk]; omega))
    · cases hd : dgC c
      · cases hb : badS u d c
        · have hl : ¬ lix c ≤ u := fun e => by rw [badS_le e] at hb; cases hb
          rw [pR_go hd hb]
          exact pR_early hk r _ _ _ _ (by omega) h
        · exact pR_bad hd hb
      · rw [pR_dig hd]
        exact pR_early hk r _ _ _ _ hu h
/-- no letter of a later unit: wrong -/
theorem pR_none {u t : Nat} {b : Bool} : ∀ (r d : List UInt8), (∀ k, u ≤ k → k < 4 → ltr k ∉ r) → (r ≠ [] ∨ d ≠ []) → pR u t b d r = (0, 6)
  | [], d, _, h => by
    rw [pR_nil, if_pos (.inl (h.resolve_left (by simp)))]
  | c :: r, d, hn, _ => by
    cases hd : dgC c
    · refine pR_bad hd (badS_le ?_)
      rcases Nat.lt_or_ge u (lix c) with h | h
      · exfalso
        have h4 := lix_le c
        exact hn (lix c - 1) (by omega) (by omega) (by rw [← ltr_lix (k := lix c - 1) (c := c) (by omega)]; exact List.mem_cons_self ..)
      · exact h
    · rw [pR_dig hd]
      exact pR_none r _ (fun k h1 h2 h3 => hn k h1 h2 (List.mem_cons_of_mem _ h3)) (.inr (by simp))
/-- of a number too great nothing comes -/
theorem pR_big : ∀ (r : List UInt8) (u t : Nat) (d : List UInt8), (pR u t true d r).2 ≠ 0
  | [], u, t, d => by rw [pR_nil]; split <;> simp
  | c :: r, u, t, d => by
    cases hd : dgC c
    · cases hb : badS u d c
      · rw [pR_go hd hb]; exact pR_big r _ _ _
      · rw [pR_bad hd hb]; simp
    · rw [pR_dig hd]; exact pR_big r _ _ _

/-- what is read unit by unit -/
def qP (e : Bool) : Nat → List UInt8 → Nat → Bool → Nat × Nat
  | 0, r, t, b => if r ≠ [] ∨ e = true then (0, 6) else if b = true ∨ 1000000000000 < t then (0, 7) else (t, 0)
  | j + 1, r, t, b =>
    if ltr (3 - j) ∈ r then
      if segB (r.takeWhile (· != ltr (3 - j))) = false ∨ (3 - j ≠ 0 ∧ mny (3 - j) ≤ valN 0 (r.takeWhile (· != ltr (3 - j)))) then (0, 6)
      else if 1000000000000 / sec (3 - j) < valN 0 (r.takeWhile (· != ltr (3 - j))) then qP e j (r.dropWhile (· != ltr (3 - j))).tail t true
      else qP e j (r.dropWhile (· != ltr (3 - j))).tail (t + valN 0 (r.takeWhile (· != ltr (3 - j))) * sec (3 - j)) b
    else qP e j r t b
theorem cut_at {c : UInt8} : ∀ {r : List UInt8}, c ∈ r → r = r.takeWhile (· != c) ++ c :: (r.dropWhile (· != c)).tail
  | [], h => by cases h
  | x :: r, h => by
    by_cases e : x = c
    · subst e; simp [List.takeWhile, List.dropWhile]
    · have hm : c ∈ r := by
        rcases List.mem_cons.1 h with h | h
        · exact absurd h.symm e
        · exact h
      have hx : (x != c) = true := by simpa using e
      rw [List.takeWhile_cons_of_pos (p := (· != c)) hx, List.dropWhile_cons_of_pos (p := (· != c)) hx, List.cons_append, ← cut_at hm]
theorem cut_not {c : UInt8} {r : List UInt8} : c ∉ r.takeWhile (· != c) := by
  intro h
  have := List.all_takeWhile (p := (· != c)) (l := r)
  have := List.all_eq_true.1 this c h
  simp at this
theorem not_digs : ∀ {a : List UInt8}, a.all dgC = false → ∃ a1 x a2, a = a1 ++ x :: a2 ∧ a1.all dgC = true ∧ dgC x = false
  | [], h => by cases h
  | x :: a, h => by
    cases hd : dgC x
    · exact ⟨[], x, a, rfl, rfl, hd⟩
    · have h' : a.all dgC = false := by
        rw [List.all_cons, hd, Bool.true_and] at h; exact h
      obtain ⟨a1, y, a2, rfl, h1, h2⟩ := not_digs h'
      exact ⟨x :: a1, y, a2, rfl, by rw [List.all_cons, hd, h1]; rfl, h2⟩
theorem q_is_p {e : Bool} : ∀ (j : Nat) (r : List UInt8) (t t' : Nat) (b : Bool) (u : Nat), j ≤ 4 → u ≤ 4 - j → (∀ k, u ≤ k → k < 4 - j → ltr k ∉ r) → (b = false → t = t') → e = (decide (u = 0) && decide (r = [])) → qP e j r t b = pR u t' b [] r
  | 0, r, t, t', b, u, _, hu, hn, ht, he => by
    rw [qP]
    by_cases hr : r = []
    · subst hr
      rw [pR_nil]
      by_cases h0 : u = 0
      · subst h0; rw [if_pos (.inr (by rw [he]; rfl)), if_pos (.inr rfl)]
      · have he' : e = false := by rw [he, decide_eq_false h0]; rfl
        rw [if_neg (by simp [he']), if_neg (c := ([] : List UInt8) ≠ [] ∨ u = 0) (by simp [h0])]
        cases b
        · rw [ht rfl]
        · rw [if_pos (.inl rfl), if_pos (.inl rfl)]
    · rw [if_pos (.inl hr), pR_none r [] (fun k h1 h2 => hn k h1 (by omega)) (.inl hr)]
  | j + 1, r, t, t', b, u, hj, hu, hn, ht, he => by
    obtain ⟨k, hk⟩ : ∃ k, 3 - j = k := ⟨_, rfl⟩
    have hk4 : k < 4 := by omega
    have hkj : 4 - j = k + 1 := by omega
    have hkj' : 4 - (j + 1) = k := by omega
    rw [hkj'] at hu hn
    rw [qP, hk]
    by_cases hm : ltr k ∈ r
    · rw [if_pos hm]
      have hcut := cut_at hm
      obtain ⟨a, ha⟩ : ∃ a, r.takeWhile (· != ltr k) = a := ⟨_, rfl⟩
      obtain ⟨r', hr'⟩ : ∃ r', (r.dropWhile (· != ltr k)).tail = r' := ⟨_, rfl⟩
      have hna : ltr k ∉ a := by rw [← ha]; exact cut_not
      rw [ha, hr'] at hcut
      rw [ha, hr']
      clear ha hr'
      have he' : e = false := by rw [he, hcut]; simp
      by_cases hd : a.all dgC = true
      · rw [hcut, pR_digs a [] hd, List.nil_append]
        have hx : lix (ltr k) - 1 = k := by rw [lix_ltr hk4]; omega
        by_cases hb : segB a = false ∨ (k ≠ 0 ∧ mny k ≤ valN 0 a)
        · rw [if_pos hb, pR_bad (ltr_dg hk4)]
          unfold badS
          rw [hx, lix_ltr hk4]
          rcases hb with hb | ⟨h1, h2⟩
          · rw [hb]; simp
          · rw [decide_eq_true h2, decide_eq_true (show 1 < k + 1 by omega)]; simp
        · rw [if_neg hb, pR_go (ltr_dg hk4)]
          · rw [hx, lix_ltr hk4]
            by_cases hg : 1000000000000 / sec k < valN 0 a
            · rw [if_pos hg, decide_eq_true hg, Bool.or_true]
              exact q_is_p j r' t _ true (k + 1) (by omega) (by omega) (fun i h1 h2 => by omega) (fun h => by cases h) (by rw [he']; simp)
            · rw [if_neg hg, decide_eq_false hg, Bool.or_false]
              refine q_is_p j r' _ _ b (k + 1) (by omega) (by omega) (fun i h1 h2 => by omega) (fun h => ?_) (by rw [he']; simp)
              subst h
              rw [if_neg (by simp), ht rfl]
          · unfold badS
            rw [hx, lix_ltr hk4, decide_eq_false (show ¬ k + 1 ≤ u by omega)]
            have h1 : segB a = true := by
              cases h : segB a
              · exact absurd (.inl h) hb
              · rfl
            rw [h1]
            by_cases h0 : k = 0
            · subst h0; rfl
            · have : ¬ mny k ≤ valN 0 a := fun h => hb (.inr ⟨h0, h⟩)
              rw [decide_eq_false this]; simp
      · have hd : a.all dgC = false := by simpa using hd
        have hs : segB a = false := by unfold segB; rw [hd]; rfl
        rw [if_pos (.inl hs)]
        obtain ⟨a1, x, a2, rfl, h1, h2⟩ := not_digs hd
        rw [hcut, List.append_assoc, pR_digs a1 [] h1, List.nil_append, List.cons_append]
        cases hb : badS u a1 x
        · rw [pR_go h2 hb]
          have hl : ¬ lix x ≤ u := fun e => by rw [badS_le e] at hb; cases hb
          have hl4 := lix_le x
          have hxl : x = ltr (lix x - 1) := ltr_lix (by omega)
          have hk1 : k < lix x - 1 := by
            rcases Nat.lt_trichotomy (lix x - 1) k with h | h | h
            · exfalso
              refine hn (lix x - 1) (by omega) h ?_
              rw [← hxl, hcut]
              simp
            · exfalso
              rw [h] at hxl
              exact hna (by rw [← hxl]; simp)
            · exact h
          exact (pR_early hk4 _ _ _ _ _ (by omega) (by simp)).symm
        · rw [pR_bad h2 hb]
    · rw [if_neg hm]
      refine q_is_p j r t t' b u (by omega) (by omega) (fun i h1 h2 => ?_) ht he
      rcases Nat.lt_or_ge i k with h | h
      · exact hn i h1 h
      · obtain rfl : i = k := by omega
        exact hm

/-- ParseSpan -/
def psR (s : List UInt8) : Nat × Nat := if s = [48, 115] then (0, 0) else pR 0 0 false [] s
theorem q_start (s : List UInt8) : qP (decide (s = [])) 4 s 0 false = pR 0 0 false [] s :=
  q_is_p 4 s 0 0 false 0 (Nat.le_refl _) (Nat.zero_le _) (fun k _ h => by omega) (fun _ => rfl) (by simp)
theorem sec_prev {k : Nat} (h0 : k ≠ 0) (h : k < 4) : sec (k - 1) = mny k * sec k := by
  match k, h0, h with
  | 1, _, _ => rfl
  | 2, _, _ => rfl
  | 3, _, _ => rfl
theorem dec_seg {n : Nat} (h : 1 ≤ n) : segB (Lib.decDigits n) = true := segB_yes.2 ⟨dec_dig n, dec_ne n, dec_head n h⟩
/-- what is written is read -/
theorem p_of_span : ∀ (j t u acc : Nat), j ≤ 4 → u ≤ 4 - j → (j ≠ 4 → t < sec (3 - j)) → acc + t ≤ 1000000000000 → (t = 0 → u ≠ 0) → pR u acc false [] (spF j t) = (acc + t, 0)
  | 0, t, u, acc, _, hu, hb, hm, h0 => by
    have : t < 1 := hb (by decide)
    obtain rfl : t = 0 := by omega
    rw [spF_zero, pR_nil, if_neg (by simp [h0 rfl]), if_neg (by simp; omega), Nat.add_zero]
  | j + 1, t, u, acc, hj, hu, hb, hm, h0 => by
    obtain ⟨k, hk⟩ : ∃ k, 3 - j = k := ⟨_, rfl⟩
    have hk4 : k < 4 := by omega
    have hs := sec_pos k
    by_cases hq : 0 < t / sec k
    · have hstep := spF_step (j := j) (t := t) (by rw [hk]; exact hq)
      rw [hk] at hstep
      have hx : lix (ltr k) - 1 = k := by rw [lix_ltr hk4]; omega
      have hdm := Nat.div_add_mod t (sec k)
      have hmod := Nat.mod_lt t hs
      have hle : t / sec k ≤ 1000000000000 / sec k := Nat.div_le_div_right (by omega)
      rw [hstep, pR_digs _ [] (dec_dig _), List.nil_append, pR_go (ltr_dg hk4)]
      · rw [hx, lix_ltr hk4, dec_val, decide_eq_false (by omega), Bool.or_false, if_neg (by simp)]
        rw [p_of_span j (t % sec k) (k + 1) (acc + t / sec k * sec k) (by omega) (by omega) (fun h => by rw [hk]; exact hmod) (by rw [Nat.mul_comm]; omega) (fun _ => by omega)]
        congr 1
        rw [Nat.mul_comm (t / sec k)]; omega
      · unfold badS
        rw [hx, lix_ltr hk4, dec_seg hq, dec_val, decide_eq_false (show ¬ k + 1 ≤ u by omega)]
        by_cases hk0 : k = 0
        · subst hk0; rfl
        · have h1 := hb (by omega)
          rw [show 3 - (j + 1) = k - 1 by omega, sec_prev hk0 hk4] at h1
          have : ¬ mny k ≤ t / sec k := by
            have := Nat.div_lt_of_lt_mul (by rw [Nat.mul_comm]; exact h1)
            omega
          rw [decide_eq_false this]; simp
    · have hlt : t < sec k := by
        rcases Nat.lt_or_ge t (sec k) with h' | h'
        · exact h'
        · exact absurd (Nat.div_pos h' hs) hq
      rw [spF_small (by rw [hk]; exact hlt)]
      exact p_of_span j t u acc (by omega) (by omega) (fun _ => by rw [hk]; exact hlt) hm h0
theorem spF_pass {m : Nat} : ∀ (i j : Nat), i ≤ j → j ≤ 4 → (∀ k, 4 - j ≤ k → k < 4 - i → m < sec k) → spF j m = spF i m
  | i, 0, h, _, _ => by obtain rfl : i = 0 := by omega
                        rfl
  | i, j + 1, h, h4, hs => by
    by_cases e : i = j + 1
    · rw [e]
    · rw [spF_small (hs (3 - j) (by omega) (by omega))]
      exact spF_pass i j (by omega) (by omega) (fun k h1 h2 => hs k (by omega) h2)
theorem sec_mono {i k : Nat} (h : i ≤ k) : sec k ≤ sec i := by
  unfold sec
  repeat' split
  all_goals omega
theorem digs_cut (r : List UInt8) : ∃ a r', r = a ++ r' ∧ a.all dgC = true ∧ (∀ c r'', r' = c :: r'' → dgC c = false) := by
  induction r with
  | nil => exact ⟨[], [], rfl, rfl, fun c r'' h => by cases h⟩
  | cons x r ih =>
    obtain ⟨a, r', rfl, h1, h2⟩ := ih
    cases hd : dgC x
    · exact ⟨[], x :: (a ++ r'), rfl, rfl, fun c r'' h => by cases h; exact hd⟩
    · exact ⟨x :: a, r', rfl, by rw [List.all_cons, hd, h1]; rfl, h2⟩
/-- what is read is written -/
theorem span_of_p : ∀ (N : Nat) (r : List UInt8) (u acc n : Nat), r.length ≤ N → u ≤ 4 → pR u acc false [] r = (n, 0) → ∃ m, n = acc + m ∧ spF (4 - u) m = r ∧ (u ≠ 0 → m < sec (u - 1)) ∧ n ≤ 1000000000000
  | N, r, u, acc, n, hN, hu, h => by
    obtain ⟨a, r', rfl, hd, hc⟩ := digs_cut r
    rw [pR_digs a [] hd, List.nil_append] at h
    cases r' with
    | nil =>
      rw [pR_nil] at h
      by_cases h1 : a ≠ [] ∨ u = 0
      · rw [if_pos h1] at h; cases h
      · rw [if_neg h1] at h
        by_cases h2 : false = true ∨ 1000000000000 < acc
        · rw [if_pos h2] at h; cases h
        · rw [if_neg h2] at h
          obtain rfl : acc = n := by cases h; rfl
          have ha : a = [] := by
            by_cases e : a = []
            · exact e
            · exact absurd (.inl e) h1
          subst ha
          have : ¬ 1000000000000 < acc := fun e => h2 (.inr e)
          exact ⟨0, rfl, spF_of0 _, fun _ => sec_pos _, by omega⟩
    | cons c r'' =>
      have hcd := hc c r'' rfl
      cases hb : badS u a c
      · rw [pR_go hcd hb, Bool.false_or] at h
        unfold badS at hb
        simp only [Bool.or_eq_false_iff, decide_eq_false_iff_not, Bool.not_eq_false', Bool.and_eq_false_iff] at hb
        obtain ⟨h1, h2, h3⟩ := hb
        have h4 := lix_le c
        obtain ⟨k, hk⟩ : ∃ k, lix c = k + 1 := ⟨lix c - 1, by omega⟩
        have hck := ltr_lix hk
        rw [hk] at h h1 h3 h4
        rw [Nat.add_sub_cancel] at h h3
        by_cases hg : 1000000000000 / sec k < valN 0 a
        · rw [decide_eq_true hg] at h
          exact absurd (congrArg Prod.snd h) (pR_big _ _ _ _)
        · rw [decide_eq_false hg, if_neg (by simp)] at h
          match N, hN with
          | 0, hN => simp at hN
          | N + 1, hN =>
            simp only [List.length_append, List.length_cons] at hN
            obtain ⟨m, e1, e2, e3, e4⟩ := span_of_p N r'' (k + 1) _ n (by omega) (by omega) h
            have e3 := e3 (by omega)
            rw [Nat.add_sub_cancel] at e3
            have hs := sec_pos k
            have hq : (valN 0 a * sec k + m) / sec k = valN 0 a := by
              rw [Nat.mul_comm, Nat.mul_add_div hs, Nat.div_eq_of_lt e3, Nat.add_zero]
            have hr : (valN 0 a * sec k + m) % sec k = m := by
              rw [Nat.mul_comm, Nat.mul_add_mod, Nat.mod_eq_of_lt e3]
            obtain ⟨g1, g2, g3⟩ := segB_yes.1 h2
            have hpos := val_pos g1 g2 g3
            have hlow : k ≠ 0 → valN 0 a * sec k + m < sec (k - 1) := by
              intro hk0
              rw [sec_prev hk0 (by omega)]
              have h5 : valN 0 a + 1 ≤ mny k := by
                rcases h3 with h3 | h3
                · omega
                · omega
              have h6 := Nat.mul_le_mul_right (sec k) h5
              rw [Nat.add_mul, Nat.one_mul] at h6
              omega
            refine ⟨valN 0 a * sec k + m, by rw [e1]; omega, ?_, ?_, e4⟩
            · rw [spF_pass (3 - k + 1) (4 - u) (by omega) (by omega) (fun i g4 g5 => Nat.lt_of_lt_of_le (hlow (by omega)) (sec_mono (by omega)))]
              rw [spF_step (by rw [show 3 - (3 - k) = k by omega, hq]; exact hpos), show 3 - (3 - k) = k by omega, hq, hr, dec_of _ _ rfl (segB_nat h2), ← hck]
              rw [show 4 - (k + 1) = 3 - k by omega] at e2
              rw [e2]
            · intro hu0
              exact Nat.lt_of_lt_of_le (hlow (by omega)) (sec_mono (by omega))
      · rw [pR_bad hcd hb] at h
        cases h
theorem ps_span {t : Nat} (h : t ≤ 1000000000000) : psR (spanL t) = (t, 0) := by
  unfold spanL
  by_cases h0 : t = 0
  · rw [if_pos h0, h0]; rfl
  · rw [if_neg h0]
    have h1 := p_of_span 4 t 0 0 (Nat.le_refl _) (Nat.zero_le _) (fun h => absurd rfl h) (by omega) (fun e => absurd e h0)
    rw [Nat.zero_add] at h1
    unfold psR
    rw [if_neg, h1]
    intro e
    rw [e] at h1
    have h2 : pR 0 0 false [] [48, 115] = (0, 6) := by decide +kernel
    rw [h2] at h1
    cases h1
theorem span_ps {s : List UInt8} {n : Nat} (h : psR s = (n, 0)) : spanL n = s ∧ n ≤ 1000000000000 := by
  unfold psR at h
  by_cases h0 : s = [48, 115]
  · rw [if_pos h0] at h
    obtain rfl : 0 = n := by cases h; rfl
    exact ⟨by rw [h0]; rfl, by omega⟩
  · rw [if_neg h0] at h
    obtain ⟨m, e1, e2, _, e4⟩ := span_of_p _ s 0 0 n (Nat.le_refl _) (Nat.zero_le _) h
    rw [Nat.zero_add] at e1
    subst e1
    refine ⟨?_, e4⟩
    unfold spanL
    by_cases hz : n = 0
    · exfalso
      subst hz
      rw [spF_of0] at e2
      subst e2
      rw [pR_nil] at h
      cases h
    · rw [if_neg hz]; exact e2
end Go.Proofs.YtmgpdaljminipaaDoor
