/- Rows of bools of the call's own, without bits. -/
import Derived.Test.YtgbdhmdaefbglaaDoorGen
import Derived.Deep.OwnRows
import Derived.Laws.OwnMore
namespace Go.Proofs.YtgbdhmdaefbglaaDoor
open Go.RowKit Go.Sort Go.Joins

theorem info_b : (Tryd.prog.info? 4).map (fun i => (i.zero, i.size, i.bytes)) = some (some (.bool false), 1, 1) := by kernel_rfl
/-- the first n answers, as values -/
def bl (p : Nat → Bool) (n : Nat) : List Value := (List.range n).map fun i => Value.bool (p i)
theorem bl_length (p : Nat → Bool) (n : Nat) : (bl p n).length = n := by simp [bl]
theorem bl_get (p : Nat → Bool) (n k : Nat) (h : k < n) : (bl p n)[k]? = some (.bool (p k)) := by simp [bl, h]
theorem bl_congr {p q : Nat → Bool} {n : Nat} (h : ∀ i, i < n → p i = q i) : bl p n = bl q n := by
  unfold bl
  exact List.map_congr_left fun i hi => by rw [h i (by simpa using hi)]
theorem bl_set (p : Nat → Bool) (n k : Nat) (v : Bool) : (bl p n).set k (.bool v) = bl (fun i => if i = k then v else p i) n := by
  apply List.ext_getElem?
  intro i
  rw [List.getElem?_set]
  by_cases hi : i < n
  · rw [bl_get _ _ _ hi, bl_get _ _ _ hi, bl_length]
    by_cases hk : k = i
    · subst hk; rw [if_pos rfl, if_pos hi, if_pos rfl]
    · rw [if_neg hk, if_neg (fun h => hk h.symm)]
  · have e : ∀ q, (bl q n)[i]? = none := fun q => List.getElem?_eq_none (by rw [bl_length]; omega)
    rw [e, e, bl_length]
    by_cases hk : k = i
    · subst hk; rw [if_pos rfl, if_neg hi]
    · rw [if_neg hk]
/-- an owned row of bools reads so -/
theorem own_bl {w : World} {base n : Nat} {e : TypeId} {g cap : Nat} {p : Nat → Bool} (h : w.ownsRow base e 1 (.slice (some ⟨g, 0, none⟩) n cap) n (bl p n)) (k : Nat) (hk : k < n) : w.cell? ⟨g, k, none⟩ = some (.bool (p k)) := by
  have := h.cellAt k (by omega)
  rw [bl_get _ _ _ hk] at this
  exact this
theorem bl_false (n : Nat) : (List.replicate n (Value.bool false)) = bl (fun _ => false) n := by
  apply List.ext_getElem?
  intro i
  by_cases h : i < n
  · rw [bl_get _ _ _ h, List.getElem?_replicate, if_pos h]
  · rw [List.getElem?_eq_none (by simpa using h), List.getElem?_eq_none (by rw [bl_length]; omega)]
theorem zeros_bl (w : World) (len : Nat) (h : len ≤ 10000000) : (w.alloc (.cells (madeCells #[.bool false] len) 4)).ownsRow w.heap.size 4 1 (.slice (some ⟨w.heap.size, 0, none⟩) len len) len (bl (fun _ => false) len) := by
  have h1 := World.ownsRow_lit (base := w.heap.size) (e := 4) (size := 1) w (madeCells #[.bool false] len) len (Nat.le_refl _) (by unfold maxLen; omega) (by simp [madeCells])
  rw [toList_madeCells_one, bl_false] at h1
  exact h1
/-- a store into a row of bools -/
theorem bl_stored {wr : World} {base g cap n k : Nat} {e : TypeId} {p r : Nat → Bool} {v : Bool} (ho : wr.ownsRow base e 1 (.slice (some ⟨g, 0, none⟩) n cap) n (bl p n)) (h : ∀ i, i < n → r i = if i = k then v else p i) :
    (wr.setCell ⟨g, k, none⟩ (.bool v)).ownsRow base e 1 (.slice (some ⟨g, 0, none⟩) n cap) n (bl r n) := by
  have hs := (ho.stored k (.bool v)).1
  rw [bl_set] at hs
  rw [bl_congr h]
  exact hs
end Go.Proofs.YtgbdhmdaefbglaaDoor
