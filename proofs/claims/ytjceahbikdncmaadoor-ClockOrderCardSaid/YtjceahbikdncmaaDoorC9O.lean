/- Clocks: the rings of a run in order, and those of one alarm, one by one. No program. -/
import Derived.Test.YtjceahbikdncmaaDoorC9N
namespace Go.Proofs.YtjceahbikdncmaaDoor
open Go.RowKit Go.Sort Go.Joins Go.Shelf
abbrev rz : Int × Nat := (0, 0)
/-- the ring at a place -/
def rgA (R : Nat → Al) (L : List (Int × Nat)) (j : Nat) : Rn := rgN R (L.getD j rz)
theorem rgA_map (R : Nat → Al) (L : List (Int × Nat)) {j : Nat} (hj : j < L.length) : (L.map (rgN R)).getD j rn0 = rgA R L j := by
  unfold rgA
  simp [List.getD, hj]
/-- how many of the first rings are those of an alarm -/
def cnk (L : List (Int × Nat)) (k i : Nat) : Nat := ((L.take i).filter (fun x => decide (x.2 = k))).length
theorem cnk_zero (L : List (Int × Nat)) (k : Nat) : cnk L k 0 = 0 := by simp [cnk]
theorem take_one {L : List (Int × Nat)} {i : Nat} (hi : i < L.length) : L.take (i + 1) = L.take i ++ [L.getD i rz] := by
  rw [List.take_succ_eq_append_getElem hi]
  simp [List.getD, hi]
theorem cnk_hit {L : List (Int × Nat)} {k i : Nat} (hi : i < L.length) (h : (L.getD i rz).2 = k) : cnk L k (i + 1) = cnk L k i + 1 := by
  unfold cnk
  rw [take_one hi, List.filter_append, List.length_append]
  have : List.filter (fun x : Int × Nat => decide (x.2 = k)) [L.getD i rz] = [L.getD i rz] := by rw [List.filter_cons_of_pos (by simpa using h)]; rfl
  rw [this]; rfl
theorem cnk_miss {L : List (Int × Nat)} {k i : Nat} (hi : i < L.length) (h : (L.getD i rz).2 ≠ k) : cnk L k (i + 1) = cnk L k i := by
  unfold cnk
  rw [take_one hi, List.filter_append, List.length_append]
  have : List.filter (fun x : Int × Nat => decide (x.2 = k)) [L.getD i rz] = [] := by rw [List.filter_cons_of_neg (by simpa using h)]; rfl
  rw [this]; rfl
theorem cnk_le (L : List (Int × Nat)) (k i : Nat) : cnk L k i ≤ i := by
  unfold cnk
  exact Nat.le_trans (List.length_filter_le _ _) (by simp; omega)
section
variable {n : Nat} {R : Nat → Al} {u : Int} {L : List (Int × Nat)}
theorem getD_mem {i : Nat} (hi : i < L.length) : L.getD i rz ∈ L := by
  have e : L.getD i rz = L[i] := by simp [List.getD, hi]
  rw [e]; exact List.getElem_mem hi
theorem cnk_all (hP : PlOk n R) (hu : u ≤ MT) (hL : RunOk n R u L) {k : Nat} (hk : k < n) : (cnk L k L.length : Int) = cntA (R k).2 u := by
  unfold cnk
  rw [List.take_length, run_one hP hu hL hk]
  have := cntA_ge (hP.ok k hk) hu
  simp; omega
theorem cnk_at (hP : PlOk n R) (hu : u ≤ MT) (hL : RunOk n R u L) {i : Nat} (hi : i < L.length) {k : Nat} (hk : k < n) (h : (L.getD i rz).2 = k) : (L.getD i rz).1 = (R k).2.1 + (cnk L k i : Int) * (R k).2.2 := by
  have hf := run_one hP hu hL hk
  have hs : L.filter (fun x => decide (x.2 = k)) = (L.take i).filter (fun x => decide (x.2 = k)) ++ L.getD i rz :: (L.drop (i + 1)).filter (fun x => decide (x.2 = k)) := by
    conv => lhs; rw [← List.take_append_drop i L, List.filter_append, List.drop_eq_getElem_cons hi]
    have e : L.getD i rz = L[i] := by simp [List.getD, hi]
    rw [e] at h ⊢
    rw [List.filter_cons_of_pos (by simpa using h)]
  rw [hs] at hf
  have hg : ((L.take i).filter (fun x => decide (x.2 = k)) ++ L.getD i rz :: (L.drop (i + 1)).filter (fun x => decide (x.2 = k)))[cnk L k i]? = some (L.getD i rz) := by
    have hc : cnk L k i = ((L.take i).filter (fun x => decide (x.2 = k))).length := rfl
    rw [hc, List.getElem?_append_right (Nat.le_refl _)]
    simp
  rw [hf, List.getElem?_map] at hg
  obtain ⟨j, hj, he⟩ := Option.map_eq_some_iff.1 hg
  have hjc : cnk L k i = j := by
    rw [List.getElem?_range] at hj
    · simpa using hj
    · by_cases hlt : cnk L k i < (cntA (R k).2 u).toNat
      · exact hlt
      · rw [List.getElem?_eq_none (by simp; omega)] at hj; cases hj
  obtain ⟨_, _, _, x3, _⟩ := (hL.mem _).1 (getD_mem hi)
  rw [← he] at x3
  have := pos_nonneg (hP.ok k hk) x3
  rw [hjc, ← he]
  exact this.1
theorem name_eq (hP : PlOk n R) {i k : Nat} (hi : i < n) (hk : k < n) : decide ((R i).1 = (R k).1) = decide (i = k) := by
  by_cases h : i = k
  · subst h; simp
  · rw [decide_eq_false h, decide_eq_false]
    intro e
    rcases Nat.lt_or_gt_of_ne h with h1 | h1
    · have := hP.up _ _ h1 hk
      rw [e, nlt_irr] at this; cases this
    · have := hP.up _ _ h1 hi
      rw [e, nlt_irr] at this; cases this
theorem nlt_asym {a b : ByteArray} (h : nlt a b = true) : nlt b a = false := by
  cases hb : nlt b a with
  | false => rfl
  | true => have := nlt_tr h hb; rw [nlt_irr] at this; cases this
/-- two rings that follow each other -/
theorem ord_at (hP : PlOk n R) (hL : RunOk n R u L) {i : Nat} (h1 : 1 ≤ i) (hi : i < L.length) :
    (rgA R L (i - 1)).2 < (rgA R L i).2 ∨ ((rgA R L i).2 = (rgA R L (i - 1)).2 ∧ Op.bytesLess (rgA R L (i - 1)).1.toList (rgA R L i).1.toList = true ∧ Op.bytesLess (rgA R L i).1.toList (rgA R L (i - 1)).1.toList = false ∧ ((rgA R L i).1.toList == (rgA R L (i - 1)).1.toList) = false) := by
  have hs := List.pairwise_iff_getElem.1 hL.sorted (i - 1) i (by omega) hi (by omega)
  have e1 : L.getD i rz = L[i] := by simp [List.getD, hi]
  have e2 : L.getD (i - 1) rz = L[i - 1] := by simp [List.getD, show i - 1 < L.length by omega]
  rw [← e1, ← e2] at hs
  rw [str_lt, str_lt, str_eq]
  obtain ⟨m1, _⟩ := (hL.mem _).1 (getD_mem hi)
  rcases hs with h | ⟨h, h'⟩
  · exact .inl h
  · have hn := hP.up _ _ h' m1
    refine .inr ⟨h.symm, hn, nlt_asym hn, ?_⟩
    rw [decide_eq_false]
    intro e
    have e' : (R (L.getD i rz).2).1 = (R (L.getD (i - 1) rz).2).1 := e
    rw [e', nlt_irr] at hn
    cases hn
end
end Go.Proofs.YtjceahbikdncmaaDoor
