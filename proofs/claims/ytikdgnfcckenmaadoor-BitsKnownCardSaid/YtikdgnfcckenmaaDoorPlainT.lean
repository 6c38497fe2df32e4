/- Plain facts: what the runs of a set hold. No program. -/
import Derived.Test.YtikdgnfcckenmaaDoorPlainR
namespace Go.Proofs.YtikdgnfcckenmaaDoor

theorem runsG_mem (p : Nat → Bool) (n : Nat) : ∀ m a, a ≤ n → ∀ r ∈ runsG p n m a, a ≤ r.1 ∧ r.1 < r.2 ∧ r.2 ≤ n ∧ ∀ i, r.1 ≤ i → i < r.2 → p i = true
  | 0, _, _, _, h => by simp [runsG] at h
  | m + 1, a, ha, r, h => by
    obtain ⟨h1, h2, h3, h4⟩ := nxt_spec (p := p) ha
    simp only [runsG] at h
    split at h
    · rename_i hf
      have g := nxt_not_gt hf (h4 hf)
      obtain ⟨g1, g2, g3, g4⟩ := nxt_spec (p := fun i => !p i) (a := nxt p a n) (n := n) h2
      rcases List.mem_cons.1 h with rfl | h
      · exact ⟨h1, g, g2, fun i hi hj => by have := g3 i hi hj; simpa using this⟩
      · obtain ⟨k1, k2⟩ := runsG_mem p n m _ g2 r h
        exact ⟨by omega, k2⟩
    · simp at h
theorem runsG_cover (p : Nat → Bool) (n : Nat) : ∀ m a x y, a ≤ n → n - a < m → a ≤ x → x < y → y ≤ n → (∀ i, x ≤ i → i < y → p i = true) → ∃ r ∈ runsG p n m a, r.1 ≤ x ∧ y ≤ r.2
  | 0, _, _, _, _, h, _, _, _, _ => by omega
  | m + 1, a, x, y, ha, hm, hx, hxy, hy, hp => by
    obtain ⟨h1, h2, h3, h4⟩ := nxt_spec (p := p) ha
    have hfx : nxt p a n ≤ x := by
      rcases Nat.lt_or_ge x (nxt p a n) with h | h
      · have := h3 x hx h
        rw [hp x (Nat.le_refl _) hxy] at this
        cases this
      · exact h
    have hf : nxt p a n < n := by omega
    have g := nxt_not_gt hf (h4 hf)
    obtain ⟨g1, g2, g3, g4⟩ := nxt_spec (p := fun i => !p i) (a := nxt p a n) (n := n) h2
    simp only [runsG]
    rw [if_pos hf]
    rcases Nat.lt_or_ge x (nxt (fun i => !p i) (nxt p a n) n) with hl | hl
    · refine ⟨_, List.mem_cons_self, hfx, ?_⟩
      rcases Nat.lt_or_ge (nxt (fun i => !p i) (nxt p a n) n) y with h | h
      · have := g4 (by omega)
        simp [hp _ (Nat.le_of_lt hl) h] at this
      · exact h
    · obtain ⟨r, hr, h5⟩ := runsG_cover p n m _ x y g2 (by omega) hl hxy hy hp
      exact ⟨r, List.mem_cons_of_mem _ hr, h5⟩
theorem runsG_asc (p : Nat → Bool) (n : Nat) : ∀ m a, a ≤ n → (runsG p n m a).Pairwise (fun r s => r.2 ≤ s.1)
  | 0, _, _ => by simp [runsG]
  | m + 1, a, ha => by
    obtain ⟨h1, h2, h3, h4⟩ := nxt_spec (p := p) ha
    simp only [runsG]
    split
    · obtain ⟨g1, g2, g3, g4⟩ := nxt_spec (p := fun i => !p i) (a := nxt p a n) (n := n) h2
      exact List.pairwise_cons.2 ⟨fun s hs => (runsG_mem p n m _ g2 s hs).1, runsG_asc p n m _ g2⟩
    · exact List.Pairwise.nil
theorem runsL_mem {p : Nat → Bool} {n : Nat} {r : Nat × Nat} (h : r ∈ runsL p n) : r.1 < r.2 ∧ r.2 ≤ n ∧ ∀ i, r.1 ≤ i → i < r.2 → p i = true := (runsG_mem p n _ _ (Nat.zero_le _) r h).2
theorem runsL_cover {p : Nat → Bool} {n x y : Nat} (hxy : x < y) (hy : y ≤ n) (hp : ∀ i, x ≤ i → i < y → p i = true) : ∃ r ∈ runsL p n, r.1 ≤ x ∧ y ≤ r.2 :=
  runsG_cover p n _ 0 x y (Nat.zero_le _) (by omega) (Nat.zero_le _) hxy hy hp
theorem runsL_asc (p : Nat → Bool) (n : Nat) : (runsL p n).Pairwise (fun r s => r.2 ≤ s.1) := runsG_asc p n _ _ (Nat.zero_le _)

/-- the first that fits lies lowest -/
theorem find_low {p : Nat → Bool} {n : Nat} {t : Nat × Nat → Bool} {r s : Nat × Nat} (h : (runsL p n).find? t = some r) (hs : s ∈ runsL p n) (ht : t s = true) : r = s ∨ r.2 ≤ s.1 := by
  obtain ⟨hr, as, bs, he, hno⟩ := List.find?_eq_some_iff_append.1 h
  rw [he] at hs
  rcases List.mem_append.1 hs with h1 | h1
  · have := hno s h1
    simp [ht] at this
  · rcases List.mem_cons.1 h1 with rfl | h2
    · exact .inl rfl
    · have ha := runsL_asc p n
      rw [he] at ha
      exact .inr ((List.pairwise_cons.1 (List.pairwise_append.1 ha).2.1).1 s h2)
end Go.Proofs.YtikdgnfcckenmaaDoor
