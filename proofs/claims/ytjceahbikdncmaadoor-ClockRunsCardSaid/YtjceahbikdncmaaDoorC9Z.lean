/- Clocks: the plan of the reference's Run, ring by ring. No program. -/
import Derived.Test.YtjceahbikdncmaaDoorC9Y
namespace Go.Proofs.YtjceahbikdncmaaDoor
open Go.RowKit Go.Sort Go.Joins Go.Shelf

/-- an alarm with the time of its next ring -/
def atF (R : Nat → Al) (f : Nat → Int) (k : Nat) : Al := ((R k).1, f k, (R k).2.2)
/-- the alarms that will still ring -/
def curL (R : Nat → Al) (f : Nat → Int) (s m : Nat) : List Al := (List.range' s m).filterMap (fun k => if 0 ≤ f k then some (atF R f k) else none)
section
variable {R : Nat → Al} {f : Nat → Int}
theorem cur_cons_yes {s m : Nat} (h : 0 ≤ f s) : curL R f s (m + 1) = atF R f s :: curL R f (s + 1) m := by
  unfold curL
  rw [List.range'_succ, List.filterMap_cons, if_pos h]
theorem cur_cons_no {s m : Nat} (h : ¬ 0 ≤ f s) : curL R f s (m + 1) = curL R f (s + 1) m := by
  unfold curL
  rw [List.range'_succ, List.filterMap_cons, if_neg h]
theorem cur_append (s m k : Nat) : curL R f s (m + k) = curL R f s m ++ curL R f (s + m) k := by
  unfold curL
  rw [← List.filterMap_append, List.range'_append_1]
theorem cur_yes {n b : Nat} (hb : b < n) (h : 0 ≤ f b) : curL R f 0 n = curL R f 0 b ++ atF R f b :: curL R f (b + 1) (n - (b + 1)) := by
  have e : n = b + (n - (b + 1) + 1) := by omega
  conv => lhs; rw [e]
  rw [cur_append, Nat.zero_add, cur_cons_yes h]
theorem cur_no {n b : Nat} (hb : b < n) (h : ¬ 0 ≤ f b) : curL R f 0 n = curL R f 0 b ++ curL R f (b + 1) (n - (b + 1)) := by
  have e : n = b + (n - (b + 1) + 1) := by omega
  conv => lhs; rw [e]
  rw [cur_append, Nat.zero_add, cur_cons_no h]
theorem cur_mem {s m : Nat} {y : Al} : y ∈ curL R f s m ↔ ∃ k, s ≤ k ∧ k < s + m ∧ 0 ≤ f k ∧ y = atF R f k := by
  unfold curL
  rw [List.mem_filterMap]
  constructor
  · rintro ⟨k, hk, h⟩
    rw [List.mem_range'_1] at hk
    by_cases h0 : 0 ≤ f k
    · rw [if_pos h0] at h; cases h; exact ⟨k, hk.1, hk.2, h0, rfl⟩
    · rw [if_neg h0] at h; cases h
  · rintro ⟨k, h1, h2, h3, rfl⟩
    exact ⟨k, List.mem_range'_1.2 ⟨h1, h2⟩, if_pos h3⟩
theorem fm_congr {α β : Type} {p q : α → Option β} : ∀ {l : List α}, (∀ x ∈ l, p x = q x) → l.filterMap p = l.filterMap q
  | [], _ => rfl
  | x :: l, h => by
    rw [List.filterMap_cons, List.filterMap_cons, h x List.mem_cons_self, fm_congr fun y hy => h y (List.mem_cons_of_mem _ hy)]
theorem cur_congr {g : Nat → Int} {s m : Nat} (h : ∀ k, s ≤ k → k < s + m → f k = g k) : curL R f s m = curL R g s m := by
  unfold curL
  refine fm_congr fun k hk => ?_
  rw [List.mem_range'_1] at hk
  have e := h k hk.1 hk.2
  unfold atF
  rw [e]
theorem cur_len {s m : Nat} : (curL R f s m).length ≤ m := by
  unfold curL
  exact Nat.le_trans (List.length_filterMap_le _ _) (by simp)
theorem getD_mid (A B : List Al) (x : Al) : (A ++ x :: B).getD A.length al0 = x := by simp [List.getD]
/-- a ring of one alarm -/
theorem cur_step {g : Nat → Int} {n b : Nat} (hb : b < n) (h : 0 ≤ f b) (hg : ∀ k, k ≠ b → g k = f k)
    (hgb : g b = if (R b).2.2 = 0 ∨ 1000000000000 < f b + (R b).2.2 then -1 else f b + (R b).2.2) (hE : 0 ≤ (R b).2.2) :
    rungL (curL R f 0 n) (curL R f 0 b).length = curL R g 0 n := by
  have c1 : curL R g 0 b = curL R f 0 b := cur_congr fun k _ hk => hg k (by omega)
  have c2 : curL R g (b + 1) (n - (b + 1)) = curL R f (b + 1) (n - (b + 1)) := cur_congr fun k hk _ => hg k (by omega)
  rw [cur_yes hb h]
  unfold rungL
  rw [getD_mid]
  have e1 : (atF R f b).2.2 = (R b).2.2 := rfl
  have e2 : (atF R f b).2.1 = f b := rfl
  have e3 : (atF R f b).1 = (R b).1 := rfl
  rw [e1, e2, e3]
  by_cases hc : (R b).2.2 = 0 ∨ 1000000000000 < f b + (R b).2.2
  · rw [if_pos hc] at hgb ⊢
    rw [List.eraseIdx_append_of_length_le (Nat.le_refl _), Nat.sub_self, cur_no hb (by omega : ¬ 0 ≤ g b), c1, c2]
    rfl
  · rw [if_neg hc] at hgb ⊢
    rw [List.set_append_right _ _ (Nat.le_refl _), Nat.sub_self, cur_yes hb (by omega : 0 ≤ g b), c1, c2]
    unfold atF
    rw [hgb]
    rfl
theorem bst_uniq {A : Nat → Int} {n b : Nat} (hb : b < n) (h0 : 0 ≤ A b) (hm : ∀ i, i < n → 0 ≤ A i → A b < A i ∨ (A b = A i ∧ b ≤ i)) : bst A n = b := by
  rcases bst_spec A n with ⟨_, h⟩ | ⟨b', e, hb', h0', hm'⟩
  · have := h b hb; omega
  · have h1 := hm b' hb' h0'
    have h2 := hm' b hb h0
    rw [e]
    omega
/-- the alarm that rings first, in what is left -/
theorem cur_bst {n b : Nat} (hb : b < n) (h0 : 0 ≤ f b) (hm : ∀ i, i < n → 0 ≤ f i → f b < f i ∨ (f b = f i ∧ b ≤ i)) :
    bst (tmsA (fun j => (curL R f 0 n).getD j al0)) (curL R f 0 n).length = ((curL R f 0 b).length : Nat) ∧ (curL R f 0 b).length < (curL R f 0 n).length ∧ (curL R f 0 n).getD (curL R f 0 b).length al0 = atF R f b := by
  have hs := cur_yes (R := R) hb h0
  have hx : (curL R f 0 n).getD (curL R f 0 b).length al0 = atF R f b := by rw [hs]; exact getD_mid _ _ _
  have hl : (curL R f 0 b).length < (curL R f 0 n).length := by rw [hs]; simp
  refine ⟨bst_uniq hl ?_ ?_, hl, hx⟩
  · show 0 ≤ ((curL R f 0 n).getD (curL R f 0 b).length al0).2.1
    rw [hx]; exact h0
  · intro j hj _
    show ((curL R f 0 n).getD (curL R f 0 b).length al0).2.1 < ((curL R f 0 n).getD j al0).2.1 ∨ (((curL R f 0 n).getD (curL R f 0 b).length al0).2.1 = ((curL R f 0 n).getD j al0).2.1 ∧ _)
    rw [hx]
    have e : (curL R f 0 n).getD j al0 = (curL R f 0 n)[j] := by simp [List.getD, hj]
    rw [e]
    by_cases hjb : j < (curL R f 0 b).length
    · left
      have hmem : (curL R f 0 n)[j] ∈ curL R f 0 b := by
        have : (curL R f 0 n)[j]? = (curL R f 0 b)[j]? := by rw [hs, List.getElem?_append_left hjb]
        rw [List.getElem?_eq_getElem hj, List.getElem?_eq_getElem hjb] at this
        rw [Option.some.inj this]
        exact List.getElem_mem hjb
      obtain ⟨k, _, hk, hk0, hy⟩ := cur_mem.1 hmem
      rw [hy]
      have := hm k (by omega) hk0
      show f b < f k
      omega
    · obtain ⟨k, _, hk, hk0, hy⟩ := cur_mem.1 (List.getElem_mem hj)
      rw [hy]
      have := hm k (by omega) hk0
      show f b < f k ∨ (f b = f k ∧ _)
      omega
theorem cur_none {n : Nat} (h : ∀ i, i < n → f i < 0) : curL R f 0 n = [] := by
  rw [List.eq_nil_iff_forall_not_mem]
  intro y hy
  obtain ⟨k, _, hk, hk0, _⟩ := cur_mem.1 hy
  have := h k (by omega)
  omega
/-- what is left in the end -/
theorem cur_rst {u : Int} : ∀ {n : Nat}, (∀ i, i < n → nxA (R i).2 u = if f i < 0 then -1 else f i) → rstA R u n = curL R f 0 n
  | 0, _ => rfl
  | m + 1, h => by
    have ih := cur_rst (u := u) (n := m) fun i hi => h i (by omega)
    have hm := h m (by omega)
    rw [cur_append 0 m 1, Nat.zero_add, ← ih]
    simp only [rstA]
    by_cases h0 : 0 ≤ f m
    · have hv : nxA (R m).2 u = f m := by rw [hm, if_neg (by omega)]
      rw [cur_cons_yes h0, hv, if_pos h0]; rfl
    · have hv : nxA (R m).2 u = -1 := by rw [hm, if_pos (by omega)]
      rw [cur_cons_no h0, hv, if_neg (by omega)]; simp [curL]
/-- what there is in the beginning -/
theorem cur_all {n : Nat} (h : ∀ i, i < n → 0 ≤ f i ∧ f i = (R i).2.1) : ∀ {m : Nat}, m ≤ n → (curL R f 0 m).length = m ∧ ∀ j, j < m → (curL R f 0 m).getD j al0 = R j
  | 0, _ => ⟨rfl, fun j hj => by omega⟩
  | m + 1, hm => by
    obtain ⟨h1, h2⟩ := cur_all h (m := m) (by omega)
    obtain ⟨f0, f1⟩ := h m (by omega)
    have e : curL R f 0 (m + 1) = curL R f 0 m ++ [atF R f m] := by
      rw [cur_append 0 m 1, Nat.zero_add, cur_cons_yes f0]; simp [curL]
    rw [e]
    refine ⟨by simp [h1], fun j hj => ?_⟩
    by_cases hjm : j = m
    · subst hjm
      have := getD_mid (curL R f 0 j) [] (atF R f j)
      rw [h1] at this
      rw [this]
      unfold atF
      rw [f1]
    · rw [← h2 j (by omega)]
      simp only [List.getD]
      rw [List.getElem?_append_left (by omega)]
end
end Go.Proofs.YtjceahbikdncmaaDoor
