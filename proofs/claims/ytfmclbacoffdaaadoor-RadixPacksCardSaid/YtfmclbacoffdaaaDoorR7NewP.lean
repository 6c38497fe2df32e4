/- The radix map: the cells of new nodes. -/
import Derived.Test.YtfmclbacoffdaaaDoorR7Ops
namespace Go.Proofs.YtfmclbacoffdaaaDoor
open Go.RowKit Go.Sort Go.Joins
theorem ndCells_replicate (x : Nd) : ∀ n k, k < n * 26 → (ndCells (List.replicate n x))[k]? = (ndc x)[k % 26]?
  | 0, k, h => by omega
  | n + 1, k, h => by
    have ih := fun k => ndCells_replicate x n k
    unfold ndCells at ih ⊢
    rw [List.replicate_succ, List.flatMap_cons]
    by_cases hk : k < 26
    · rw [List.getElem?_append_left (by rw [ndc_length]; exact hk), Nat.mod_eq_of_lt hk]
    · rw [List.getElem?_append_right (by rw [ndc_length]; omega), ndc_length, ih (k - 26) (by omega), show (k - 26) % 26 = k % 26 by omega]
theorem made_nodes (n : Nat) (x : Nd) : (madeCells (ndc x).toArray (n * 26)).toList = ndCells (List.replicate n x) := by
  apply List.ext_getElem?
  intro k
  by_cases hk : k < n * 26
  · rw [ndCells_replicate _ _ _ hk]
    have h3 : k % 26 < 26 := Nat.mod_lt _ (by decide)
    have hz : (ndc x).toArray.size = 26 := by rw [List.size_toArray, ndc_length]
    simp only [madeCells, Array.toList_map, Array.toList_range, List.getElem?_map, List.getElem?_range hk, Option.map_some]
    rw [hz, getElem!_pos (ndc x).toArray (k % 26) (by rw [hz]; exact h3), List.getElem?_eq_getElem (by rw [ndc_length]; exact h3)]
    rfl
  · rw [List.getElem?_eq_none (by simp [madeCells]; omega), List.getElem?_eq_none (by rw [ndCells_length, List.length_replicate]; omega)]
end Go.Proofs.YtfmclbacoffdaaaDoor
