/- Plain: what fits, looked for bit by bit, is what fits in the runs. No program. -/
import Derived.Test.YtikdgnfcckenmaaDoorPlainU
namespace Go.Proofs.YtikdgnfcckenmaaDoor

/-- so many clear bits from one on, all below n -/
def frP (p : Nat → Bool) (n i m : Nat) : Prop := i + m ≤ n ∧ ∀ j, i ≤ j → j < i + m → p j = true
theorem frP_run {p : Nat → Bool} {n i m : Nat} (hm : 1 ≤ m) (h : frP p n i m) : ∃ s ∈ runsL p n, s.1 ≤ i ∧ i + m ≤ s.2 := runsL_cover (by omega) h.1 h.2
theorem frP_of {p : Nat → Bool} {n i m : Nat} {s : Nat × Nat} (hs : s ∈ runsL p n) (h1 : s.1 ≤ i) (h2 : i + m ≤ s.2) : frP p n i m := by
  obtain ⟨_, a2, a3⟩ := runsL_mem hs
  exact ⟨by omega, fun j hj hk => a3 j (by omega) (by omega)⟩
/-- Fit: the first that is free, from fr on -/
theorem fit_some {p : Nat → Bool} {n m fr i : Nat} (hm : 1 ≤ m) (h1 : fr ≤ i) (h : frP p n i m) (hno : ∀ j, fr ≤ j → j < i → ¬ frP p n j m) : ∃ r, fitR (gMax fr) m (runsL p n) = some r ∧ gMax fr r = i := by
  obtain ⟨s, hs, s1, s2⟩ := frP_run hm h
  have hfit : gMax fr s + m ≤ s.2 := by unfold gMax; omega
  obtain ⟨r, hr⟩ := fitR_any hs hfit
  refine ⟨r, hr, ?_⟩
  obtain ⟨hrm, hrf⟩ := fitR_mem hr
  have hr0 := runsL_mem hrm
  have hge : i ≤ gMax fr r := by
    rcases Nat.lt_or_ge (gMax fr r) i with hlt | hge
    · exact absurd (frP_of hrm (by unfold gMax; omega) hrf) (hno _ (by unfold gMax; omega) hlt)
    · exact hge
  have hle : gMax fr r ≤ i := by
    rcases find_low hr hs (by simpa using hfit) with rfl | h3
    · unfold gMax; omega
    · omega
  omega
theorem fit_none {p : Nat → Bool} {n m fr : Nat} (hno : ∀ j, fr ≤ j → j < n → ¬ frP p n j m) (hm : 1 ≤ m) : fitR (gMax fr) m (runsL p n) = none := by
  cases e : fitR (gMax fr) m (runsL p n) with
  | none => rfl
  | some r =>
    obtain ⟨hrm, hrf⟩ := fitR_mem e
    have hr0 := runsL_mem hrm
    exact absurd (frP_of hrm (by unfold gMax; omega) hrf) (hno (gMax fr r) (by unfold gMax; omega) (by omega))
theorem gAl_ge {S : Nat} (hS : 1 ≤ S) (r : Nat × Nat) : r.1 ≤ gAl S r := by
  unfold gAl
  have h1 := Nat.div_add_mod (r.1 + S - 1) S
  have h2 := Nat.mod_lt (r.1 + S - 1) hS
  have h3 := Nat.mul_comm S ((r.1 + S - 1) / S)
  omega
theorem gAl_le {S k : Nat} (hS : 1 ≤ S) {r : Nat × Nat} (h : r.1 ≤ k * S) : gAl S r ≤ k * S := by
  unfold gAl
  refine Nat.mul_le_mul_right S ?_
  have : (r.1 + S - 1) / S < k + 1 := by
    rw [Nat.div_lt_iff_lt_mul hS, Nat.succ_mul]; omega
  omega
/-- Block: the first multiple that is free -/
theorem block_some {p : Nat → Bool} {n S k : Nat} (hS : 1 ≤ S) (h : frP p n (k * S) S) (hno : ∀ j, j < k → ¬ frP p n (j * S) S) : ∃ r, fitR (gAl S) S (runsL p n) = some r ∧ gAl S r = k * S := by
  obtain ⟨s, hs, s1, s2⟩ := frP_run hS h
  have hle0 := gAl_le hS s1
  have hfit : gAl S s + S ≤ s.2 := by omega
  obtain ⟨r, hr⟩ := fitR_any hs hfit
  refine ⟨r, hr, ?_⟩
  obtain ⟨hrm, hrf⟩ := fitR_mem hr
  have hr0 := runsL_mem hrm
  have hge : k * S ≤ gAl S r := by
    rcases Nat.lt_or_ge (gAl S r) (k * S) with hlt | hge
    · have hq : gAl S r = (r.1 + S - 1) / S * S := rfl
      have hj : (r.1 + S - 1) / S < k := Nat.lt_of_mul_lt_mul_right (by rw [← hq]; exact hlt)
      exact absurd (by rw [← hq]; exact frP_of hrm (gAl_ge hS r) hrf) (hno _ hj)
    · exact hge
  have hle : gAl S r ≤ k * S := by
    rcases find_low hr hs (by simpa using hfit) with rfl | h3
    · exact hle0
    · omega
  omega
theorem block_none {p : Nat → Bool} {n S k : Nat} (hS : 1 ≤ S) (hk : n ≤ k * S) (hno : ∀ j, j < k → ¬ frP p n (j * S) S) : fitR (gAl S) S (runsL p n) = none := by
  cases e : fitR (gAl S) S (runsL p n) with
  | none => rfl
  | some r =>
    obtain ⟨hrm, hrf⟩ := fitR_mem e
    have hr0 := runsL_mem hrm
    have hq : gAl S r = (r.1 + S - 1) / S * S := rfl
    have hj : (r.1 + S - 1) / S < k := Nat.lt_of_mul_lt_mul_right (a := S) (by rw [← hq]; omega)
    exact absurd (by rw [← hq]; exact frP_of hrm (gAl_ge hS r) hrf) (hno _ hj)
/-- Best: the index of the shortest so far; below 0: there is none -/
def BestAt (size : Nat) (L : List (Nat × Nat)) (k : Nat) (b : Int) : Prop :=
  (b = -1 ∧ bestF size (L.take k) = (0, 4097)) ∨ (∃ i : Nat, b = i ∧ i < k ∧ bestF size (L.take k) = L.getD i (0, 0) ∧ (L.getD i (0, 0)).2 ≤ 4096)
theorem bestF_take {size k : Nat} {L : List (Nat × Nat)} (hk : k < L.length) : bestF size (L.take (k + 1)) = if size ≤ (L.getD k (0, 0)).2 - (L.getD k (0, 0)).1 ∧ (L.getD k (0, 0)).2 - (L.getD k (0, 0)).1 < (bestF size (L.take k)).2 - (bestF size (L.take k)).1 then L.getD k (0, 0) else bestF size (L.take k) := by
  have e : L.take (k + 1) = L.take k ++ [L.getD k (0, 0)] := by
    rw [List.take_succ_eq_append_getElem hk]
    simp [List.getD_eq_getElem?_getD, hk]
  rw [e, bestF_snoc]
theorem BestAt.start (size : Nat) (L : List (Nat × Nat)) : BestAt size L 0 (-1) := .inl ⟨rfl, rfl⟩
theorem BestAt.no {size k : Nat} {L : List (Nat × Nat)} {b : Int} (h : BestAt size L k b) (hk : k < L.length) (hs : ¬ size ≤ (L.getD k (0, 0)).2 - (L.getD k (0, 0)).1) : BestAt size L (k + 1) b := by
  have e := bestF_take (size := size) hk
  rw [if_neg (fun h => hs h.1)] at e
  rcases h with ⟨h1, h2⟩ | ⟨i, h1, h2, h3, h4⟩
  · exact .inl ⟨h1, e.trans h2⟩
  · exact .inr ⟨i, h1, by omega, e.trans h3, h4⟩
theorem BestAt.first {size k : Nat} {L : List (Nat × Nat)} (h : BestAt size L k (-1)) (hk : k < L.length) (hs : size ≤ (L.getD k (0, 0)).2 - (L.getD k (0, 0)).1) (hb : (L.getD k (0, 0)).2 ≤ 4096) : BestAt size L (k + 1) k := by
  rcases h with ⟨_, h2⟩ | ⟨i, h1, _⟩
  · have e := bestF_take (size := size) hk
    rw [h2, if_pos ⟨hs, by show _ < 4097 - 0; omega⟩] at e
    exact .inr ⟨k, rfl, by omega, e, hb⟩
  · omega
theorem BestAt.better {size k i : Nat} {L : List (Nat × Nat)} (h : BestAt size L k i) (hk : k < L.length) (hs : size ≤ (L.getD k (0, 0)).2 - (L.getD k (0, 0)).1) (hb : (L.getD k (0, 0)).2 ≤ 4096)
    (hlt : (L.getD k (0, 0)).2 - (L.getD k (0, 0)).1 < (L.getD i (0, 0)).2 - (L.getD i (0, 0)).1) : BestAt size L (k + 1) k := by
  rcases h with ⟨h1, _⟩ | ⟨j, h1, h2, h3, h4⟩
  · omega
  · obtain rfl : i = j := by omega
    have e := bestF_take (size := size) hk
    rw [h3, if_pos ⟨hs, hlt⟩] at e
    exact .inr ⟨k, rfl, by omega, e, hb⟩
theorem BestAt.worse {size k i : Nat} {L : List (Nat × Nat)} (h : BestAt size L k i) (hk : k < L.length)
    (hlt : ¬ (L.getD k (0, 0)).2 - (L.getD k (0, 0)).1 < (L.getD i (0, 0)).2 - (L.getD i (0, 0)).1) : BestAt size L (k + 1) i := by
  rcases h with ⟨h1, _⟩ | ⟨j, h1, h2, h3, h4⟩
  · omega
  · obtain rfl : i = j := by omega
    have e := bestF_take (size := size) hk
    rw [h3, if_neg (fun h => hlt h.2)] at e
    exact .inr ⟨i, rfl, by omega, e, h4⟩
end Go.Proofs.YtikdgnfcckenmaaDoor
