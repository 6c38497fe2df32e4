/- The plain law of BitsSearch. No program. -/
import Derived.Test.YtikdgnfcckenmaaDoorBitsV
import Derived.Test.YtikdgnfcckenmaaDoorPlainT
namespace Go.Proofs.YtikdgnfcckenmaaDoor

theorem bestF_go (size : Nat) : ∀ (ys : List (Nat × Nat)) (b : Nat × Nat), (List.foldl (fun b r => if size ≤ r.2 - r.1 ∧ r.2 - r.1 < b.2 - b.1 then r else b) b ys = b ∧ ∀ r ∈ ys, ¬ (size ≤ r.2 - r.1 ∧ r.2 - r.1 < b.2 - b.1)) ∨
    (List.foldl (fun b r => if size ≤ r.2 - r.1 ∧ r.2 - r.1 < b.2 - b.1 then r else b) b ys ∈ ys ∧ size ≤ (List.foldl (fun b r => if size ≤ r.2 - r.1 ∧ r.2 - r.1 < b.2 - b.1 then r else b) b ys).2 - (List.foldl (fun b r => if size ≤ r.2 - r.1 ∧ r.2 - r.1 < b.2 - b.1 then r else b) b ys).1)
  | [], b => .inl ⟨rfl, by simp⟩
  | y :: ys, b => by
    simp only [List.foldl_cons]
    by_cases h : size ≤ y.2 - y.1 ∧ y.2 - y.1 < b.2 - b.1
    · rw [if_pos h]
      rcases bestF_go size ys y with ⟨h1, _⟩ | ⟨h1, h2⟩
      · rw [h1]; exact .inr ⟨List.mem_cons_self, h.1⟩
      · exact .inr ⟨List.mem_cons_of_mem _ h1, h2⟩
    · rw [if_neg h]
      rcases bestF_go size ys b with ⟨h1, h2⟩ | ⟨h1, h2⟩
      · exact .inl ⟨h1, fun r hr => by
          rcases List.mem_cons.1 hr with rfl | hr
          · exact h
          · exact h2 r hr⟩
      · exact .inr ⟨List.mem_cons_of_mem _ h1, h2⟩
theorem bestF_spec {size n : Nat} (p : Nat → Bool) (hn : n ≤ 4096) : (bestF size (runsL p n) = (0, 4097) ∧ ∀ r ∈ runsL p n, ¬ size ≤ r.2 - r.1) ∨ (bestF size (runsL p n) ∈ runsL p n ∧ size ≤ (bestF size (runsL p n)).2 - (bestF size (runsL p n)).1) := by
  rcases bestF_go size (runsL p n) (0, 4097) with ⟨h1, h2⟩ | h
  · exact .inl ⟨h1, fun r hr hs => h2 r hr ⟨hs, by have := (runsL_mem hr).2.1; simp; omega⟩⟩
  · exact .inr h

theorem gMax0 (r : Nat × Nat) : gMax 0 r = r.1 := by simp [gMax]
theorem fitR_mem {g : Nat × Nat → Nat} {m : Nat} {rs : List (Nat × Nat)} {r : Nat × Nat} (h : fitR g m rs = some r) : r ∈ rs ∧ g r + m ≤ r.2 := by
  refine ⟨List.mem_of_find?_eq_some h, ?_⟩
  have := List.find?_some h
  simpa using this
theorem fitR_any {g : Nat × Nat → Nat} {m : Nat} {rs : List (Nat × Nat)} {s : Nat × Nat} (hs : s ∈ rs) (h : g s + m ≤ s.2) : ∃ r, fitR g m rs = some r := by
  cases e : fitR g m rs with
  | some r => exact ⟨r, rfl⟩
  | none =>
    have := List.find?_eq_none.1 e s hs
    simp at this
    omega
theorem fitR_low {p : Nat → Bool} {n : Nat} {g : Nat × Nat → Nat} {m : Nat} {r s : Nat × Nat} (h : fitR g m (runsL p n) = some r) (hs : s ∈ runsL p n) (h2 : g s + m ≤ s.2) : r.1 ≤ s.1 := by
  rcases find_low h hs (by simpa using h2) with rfl | h3
  · exact Nat.le_refl _
  · have := (runsL_mem (fitR_mem h).1).1
    omega
theorem clear_cnt {ws : List Nat} {n x y : Nat} {r : Nat × Nat} (h : r ∈ runsL (look ws false) n) (h1 : r.1 ≤ x) (h2 : y ≤ r.2) : cnt (bat ws) x y = 0 :=
  cnt_none _ fun i hi hx => by
    have := (runsL_mem h).2.2 i (by omega) (by omega)
    simpa [look] using this

/-- nothing fits: Best finds nothing -/
theorem search_none {n m : Nat} {ws : List Nat} (hn : n ≤ 4096) (h : fitR (gMax 0) m (runsL (look ws false) n) = none) : bestF m (runsL (look ws false) n) = (0, 4097) := by
  rcases bestF_spec (size := m) (look ws false) hn with h1 | ⟨h1, h2⟩
  · exact h1.1
  · obtain ⟨r, hr⟩ := fitR_any (g := gMax 0) (m := m) h1 (by rw [gMax0]; have := (runsL_mem h1).1; omega)
    rw [hr] at h; cases h
/-- something fits -/
theorem search_some {n m : Nat} {ws : List Nat} {r : Nat × Nat} (hn : n ≤ 4096) (h : fitR (gMax 0) m (runsL (look ws false) n) = some r) :
    ∃ c, bestF m (runsL (look ws false) n) = c ∧ (r.1 + m ≤ r.2 ∧ r.2 ≤ n) ∧ (c.1 + m ≤ c.2 ∧ c.2 ≤ n) ∧ r.1 ≤ c.1 ∧ cnt (bat ws) r.1 (r.1 + m) = 0 ∧ cnt (bat ws) c.1 (c.1 + m) = 0 := by
  obtain ⟨hr, hf⟩ := fitR_mem h
  rw [gMax0] at hf
  refine ⟨_, rfl, ⟨hf, (runsL_mem hr).2.1⟩, ?_⟩
  rcases bestF_spec (size := m) (look ws false) hn with ⟨_, h1⟩ | ⟨h1, h2⟩
  · exact absurd (show m ≤ r.2 - r.1 by omega) (h1 r hr)
  · have hc := runsL_mem h1
    exact ⟨⟨by omega, hc.2.1⟩, fitR_low h h1 (by rw [gMax0]; omega), clear_cnt hr (Nat.le_refl _) hf, clear_cnt h1 (Nat.le_refl _) (by omega)⟩
/-- each earlier beginning meets a set bit -/
theorem search_hit {n m x : Nat} {ws : List Nat} {r : Nat × Nat} (hm : 1 ≤ m) (h : fitR (gMax 0) m (runsL (look ws false) n) = some r) (hx : x < r.1) : nxt (look ws true) x n < x + m := by
  obtain ⟨hr, hf⟩ := fitR_mem h
  rw [gMax0] at hf
  have hrn := (runsL_mem hr).2.1
  obtain ⟨h1, h2, h3, h4⟩ := nxt_spec (p := look ws true) (a := x) (n := n) (by omega)
  rcases Nat.lt_or_ge (nxt (look ws true) x n) (x + m) with hl | hl
  · exact hl
  · obtain ⟨s, hs, k1, k2⟩ := runsL_cover (p := look ws false) (n := n) (x := x) (y := x + m) (by omega) (by omega) (fun i hi hj => by
      have := h3 i hi (by omega)
      unfold look at this ⊢
      cases hb : bat ws i <;> simp [hb] at this ⊢)
    have := fitR_low h hs (by rw [gMax0]; omega)
    omega
/-- the block -/
theorem search_block {n S : Nat} {ws : List Nat} {r : Nat × Nat} (hS : 1 ≤ S) (h : fitR (gAl S) S (runsL (look ws false) n) = some r) :
    gAl S r + S ≤ n ∧ gAl S r % S = 0 ∧ cnt (bat ws) (gAl S r) (gAl S r + S) = 0 ∧ ∃ f, fitR (gMax 0) S (runsL (look ws false) n) = some f ∧ f.1 ≤ gAl S r := by
  obtain ⟨hr, hf⟩ := fitR_mem h
  have hm := runsL_mem hr
  have hge : r.1 ≤ gAl S r := by
    unfold gAl
    have h1 := Nat.div_add_mod (r.1 + S - 1) S
    have h2 := Nat.mod_lt (r.1 + S - 1) hS
    have h3 := Nat.mul_comm S ((r.1 + S - 1) / S)
    omega
  obtain ⟨f, hf2⟩ := fitR_any (g := gMax 0) (m := S) hr (by rw [gMax0]; omega)
  exact ⟨by omega, by unfold gAl; exact Nat.mul_mod_left _ _, clear_cnt hr hge hf, f, hf2, Nat.le_trans (fitR_low hf2 hr (by rw [gMax0]; omega)) hge⟩
end Go.Proofs.YtikdgnfcckenmaaDoor
