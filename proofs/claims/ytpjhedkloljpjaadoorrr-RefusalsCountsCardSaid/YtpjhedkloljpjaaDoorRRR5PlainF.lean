/- Refusals: the rules that Reduce keeps, as a list. No program. -/
import Derived.Test.YtpjhedkloljpjaaDoorRRR5PlainD
namespace Go.Proofs.YtpjhedkloljpjaaDoorRR

/-- the numbers of the rules that are kept -/
def kpt (n : Nat) (S : Nat → Bool) : List Nat := (List.range n).filter S
/-- the rules at them -/
def kptR (n : Nat) (R : Nat → Rl) (S : Nat → Bool) (j : Nat) : Rl := R ((kpt n S).getD j 0)
theorem getD_eq {α : Type} {l : List α} {j : Nat} {d : α} (h : j < l.length) : l.getD j d = l[j] := by simp [List.getD, h]
theorem kpt_mem {n i : Nat} {S : Nat → Bool} : i ∈ kpt n S ↔ i < n ∧ S i = true := by unfold kpt; rw [List.mem_filter, List.mem_range]
theorem kpt_at {n j : Nat} {S : Nat → Bool} (h : j < (kpt n S).length) : (kpt n S).getD j 0 < n ∧ S ((kpt n S).getD j 0) = true := by
  rw [getD_eq h]; exact kpt_mem.1 (List.getElem_mem h)
theorem kpt_of {n i : Nat} {S : Nat → Bool} (h : i < n) (hS : S i = true) : ∃ j, j < (kpt n S).length ∧ (kpt n S).getD j 0 = i := by
  obtain ⟨j, hj, e⟩ := List.getElem_of_mem (kpt_mem.2 ⟨h, hS⟩)
  exact ⟨j, hj, by rw [getD_eq hj]; exact e⟩
theorem kpt_inj {n i j : Nat} {S : Nat → Bool} (hi : i < (kpt n S).length) (hj : j < (kpt n S).length) (h : (kpt n S).getD i 0 = (kpt n S).getD j 0) : i = j := by
  have hn : (kpt n S).Pairwise (· ≠ ·) := List.Pairwise.filter _ List.nodup_range
  rw [getD_eq hi, getD_eq hj] at h
  rcases Nat.lt_trichotomy i j with hlt | e | hlt
  · exact absurd h (List.pairwise_iff_getElem.1 hn i j hi hj hlt)
  · exact e
  · exact absurd h.symm (List.pairwise_iff_getElem.1 hn j i hj hi hlt)
theorem kpt_len {n : Nat} {S : Nat → Bool} : (kpt n S).length ≤ n := by
  have := List.length_filter_le S (List.range n)
  rw [List.length_range] at this
  exact this
theorem rfP_kpt {n : Nat} {R : Nat → Rl} {S : Nat → Bool} (k c : Int) : rfP (kpt n S).length (kptR n R S) k c = rfS n R S k c := by
  rw [Bool.eq_iff_iff, rfP_iff, rfS_iff]
  constructor
  · rintro ⟨j, hj, h⟩
    obtain ⟨h1, h2⟩ := kpt_at hj
    exact ⟨_, h1, h2, h⟩
  · rintro ⟨i, hi, hS, h⟩
    obtain ⟨j, hj, e⟩ := kpt_of hi hS
    exact ⟨j, hj, by unfold kptR; rw [e]; exact h⟩
/-- a plan without one rule -/
def wout (Q : Nat → Rl) (i j : Nat) : Rl := if j < i then Q j else Q (j + 1)
theorem rfP_wout {m : Nat} {Q : Nat → Rl} {i : Nat} (hi : i < m) (k c : Int) : rfP (m - 1) (wout Q i) k c = true ↔ ∃ j, j < m ∧ j ≠ i ∧ rfz (Q j) k c = true := by
  rw [rfP_iff]
  unfold wout
  constructor
  · rintro ⟨j, hj, h⟩
    by_cases hlt : j < i
    · rw [if_pos hlt] at h; exact ⟨j, by omega, by omega, h⟩
    · rw [if_neg hlt] at h; exact ⟨j + 1, by omega, by omega, h⟩
  · rintro ⟨j, hj, hne, h⟩
    by_cases hlt : j < i
    · exact ⟨j, by omega, by rw [if_pos hlt]; exact h⟩
    · refine ⟨j - 1, by omega, ?_⟩
      rw [if_neg (by omega), show j - 1 + 1 = j by omega]; exact h
/-- no rule that is kept can be removed -/
theorem kpt_need {n : Nat} {R : Nat → Rl} {i : Nat} (hi : i < (kpt n (redS n R n)).length) (hok : ∀ j, j < n → RlOk (R j)) :
    ∃ k c : Int, 0 ≤ k ∧ k ≤ 6 ∧ 1 ≤ c ∧ c ≤ (HZ : Int) ∧ rfP ((kpt n (redS n R n)).length - 1) (wout (kptR n R (redS n R n)) i) k c = false ∧ rfP n R k c = true := by
  obtain ⟨h1, h2⟩ := kpt_at hi
  obtain ⟨c, c1, c2, hr, ho⟩ := redS_need (Nat.le_refl n) (by omega) h1 h2
  obtain ⟨x, hx⟩ : ∃ x, x = (kpt n (redS n R n)).getD i 0 := ⟨_, rfl⟩
  rw [← hx] at h1 h2 hr ho
  have := hok x h1
  refine ⟨(R x).1, c, this.k0, this.k1, c1, c2, ?_, rfP_iff.2 ⟨x, h1, hr⟩⟩
  rw [Bool.eq_false_iff]
  intro hw
  obtain ⟨j, hj, hne, h⟩ := (rfP_wout hi _ _).1 hw
  obtain ⟨g1, g2⟩ := kpt_at hj
  have : oth n R (redS n R n) x c = true := oth_iff.2 ⟨_, g1, fun e => hne (kpt_inj hj hi (by rw [← hx]; exact e)), g2, h⟩
  rw [ho] at this
  cases this
/-- the rules in another order -/
def rotR (n k : Nat) (R : Nat → Rl) (j : Nat) : Rl := if j < n - k then R (j + k) else R (j - (n - k))
theorem rfP_rot {n t : Nat} {R : Nat → Rl} (ht : t ≤ n) (k c : Int) : rfP n (rotR n t R) k c = rfP n R k c := by
  rw [Bool.eq_iff_iff, rfP_iff, rfP_iff]
  unfold rotR
  constructor
  · rintro ⟨j, hj, h⟩
    by_cases hlt : j < n - t
    · rw [if_pos hlt] at h; exact ⟨_, by omega, h⟩
    · rw [if_neg hlt] at h; exact ⟨_, by omega, h⟩
  · rintro ⟨j, hj, h⟩
    by_cases hlt : j < t
    · refine ⟨j + (n - t), by omega, ?_⟩
      rw [if_neg (by omega), show j + (n - t) - (n - t) = j by omega]; exact h
    · refine ⟨j - t, by omega, ?_⟩
      rw [if_pos (by omega), show j - t + t = j by omega]; exact h
/-- the two plans that Same compares, up to the horizon -/
def smP (n : Nat) (R : Nat → Rl) (m : Nat) (Q : Nat → Rl) : Prop := ∀ k : Int, 0 ≤ k → k ≤ 6 → ∀ c : Int, 1 ≤ c → c ≤ (HZ : Int) → rfP n R k c = rfP m Q k c
theorem smP_kpt {n : Nat} {R : Nat → Rl} : smP n R (kpt n (redS n R n)).length (kptR n R (redS n R n)) := fun k _ _ c c1 c2 => by
  rw [rfP_kpt, redS_same (Nat.le_refl n) k c c1 c2]
theorem smP_rot {n t : Nat} {R : Nat → Rl} (ht : t ≤ n) : smP n R n (rotR n t R) := fun k _ _ c _ _ => (rfP_rot ht k c).symm
theorem not_smP {n : Nat} {R : Nat → Rl} {i : Nat} (hi : i < (kpt n (redS n R n)).length) (hok : ∀ j, j < n → RlOk (R j)) :
    ¬ smP n R ((kpt n (redS n R n)).length - 1) (wout (kptR n R (redS n R n)) i) := by
  intro h
  obtain ⟨k, c, k0, k1, c1, c2, h1, h2⟩ := kpt_need hi hok
  have := h k k0 k1 c c1 c2
  rw [h1, h2] at this
  cases this
/-- while the rules up to i are all kept: the i-th that is kept is the i-th -/
theorem range_split {n i : Nat} (hi : i < n) : List.range n = List.range i ++ i :: (List.range (n - 1 - i)).map (fun j => i + 1 + j) := by
  apply List.ext_getElem?
  intro j
  rcases Nat.lt_trichotomy j i with h | h | h
  · rw [List.getElem?_append_left (by simpa using h)]
    simp [List.getElem?_range, h, show j < n by omega]
  · subst h
    rw [List.getElem?_append_right (by simp)]
    simp [hi]
  · rw [List.getElem?_append_right (by simp; omega)]
    obtain ⟨d, rfl⟩ : ∃ d, j = i + 1 + d := ⟨j - i - 1, by omega⟩
    rw [List.length_range, show i + 1 + d - i = d + 1 by omega, List.getElem?_cons_succ, List.getElem?_map]
    by_cases hd : d < n - 1 - i
    · rw [List.getElem?_range hd, List.getElem?_range (show i + 1 + d < n by omega)]; rfl
    · rw [List.getElem?_eq_none (by simp; omega), List.getElem?_eq_none (by simp; omega)]; rfl
theorem kpt_split {n i : Nat} {S : Nat → Bool} (hi : i < n) (h : ∀ j, j ≤ i → S j = true) :
    kpt n S = List.range i ++ i :: ((List.range (n - 1 - i)).map (fun j => i + 1 + j)).filter S ∧
    kpt n (fun j => S j && decide (j ≠ i)) = List.range i ++ ((List.range (n - 1 - i)).map (fun j => i + 1 + j)).filter S := by
  unfold kpt
  rw [range_split hi]
  constructor
  · rw [List.filter_append, List.filter_cons_of_pos (h i (Nat.le_refl _))]
    congr 1
    exact List.filter_eq_self.2 fun j hj => h j (by have := List.mem_range.1 hj; omega)
  · rw [List.filter_append, List.filter_cons_of_neg (by simp)]
    congr 1
    · exact List.filter_eq_self.2 fun j hj => by have := List.mem_range.1 hj; simp [h j (by omega)]; omega
    · refine List.filter_congr fun j hj => ?_
      obtain ⟨d, _, rfl⟩ := List.mem_map.1 hj
      simp; omega
theorem kpt_len_out {n i : Nat} {S : Nat → Bool} (hi : i < n) (h : ∀ j, j ≤ i → S j = true) : i < (kpt n S).length ∧ (kpt n (fun j => S j && decide (j ≠ i))).length = (kpt n S).length - 1 := by
  obtain ⟨e1, e2⟩ := kpt_split hi h
  rw [e1, e2]
  simp only [List.length_append, List.length_cons, List.length_range]
  omega
theorem kptR_out {n i : Nat} {R : Nat → Rl} {S : Nat → Bool} (hi : i < n) (h : ∀ j, j ≤ i → S j = true) (j : Nat) : kptR n R (fun j => S j && decide (j ≠ i)) j = wout (kptR n R S) i j := by
  obtain ⟨e1, e2⟩ := kpt_split hi h
  unfold wout kptR
  rw [e1, e2]
  by_cases hj : j < i
  · rw [if_pos hj]
    simp only [List.getD, List.getElem?_append_left (show j < (List.range i).length by simpa using hj)]
  · rw [if_neg hj]
    simp only [List.getD, List.getElem?_append_right (show (List.range i).length ≤ j by simpa using hj), List.getElem?_append_right (show (List.range i).length ≤ j + 1 by simp; omega)]
    rw [List.length_range, show j + 1 - i = (j - i) + 1 by omega, List.getElem?_cons_succ]
theorem kptR_at {n i : Nat} {R : Nat → Rl} {S : Nat → Bool} (hi : i < n) (h : ∀ j, j ≤ i → S j = true) {j : Nat} (hj : j ≤ i) : kptR n R S j = R j := by
  obtain ⟨e1, _⟩ := kpt_split (n := n) (i := j) (S := S) (by omega) (fun d hd => h d (Nat.le_trans hd hj))
  unfold kptR
  rw [e1]
  simp [List.getD]
theorem kpt_all {n : Nat} {S : Nat → Bool} (h : ∀ j, j < n → S j = true) : kpt n S = List.range n := List.filter_eq_self.2 fun j hj => h j (List.mem_range.1 hj)
/-- what the program has kept when m rules have been looked at, from the last one on -/
noncomputable def kptT (n : Nat) (R : Nat → Rl) (m : Nat) : List Nat := ((List.range m).map (fun j => n - 1 - j)).filter (redS n R n)
theorem kptT_rev {n : Nat} {R : Nat → Rl} : (kptT n R n).reverse = kpt n (redS n R n) := by
  unfold kptT kpt
  rw [← List.filter_reverse]
  congr 1
  apply List.ext_getElem
  · simp
  · intro i h1 h2
    simp at h1 h2 ⊢
    omega
end Go.Proofs.YtpjhedkloljpjaaDoorRR
