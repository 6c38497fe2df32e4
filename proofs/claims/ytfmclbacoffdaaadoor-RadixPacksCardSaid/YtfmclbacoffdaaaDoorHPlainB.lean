/- Handles: new slots. -/
import Derived.Test.YtfmclbacoffdaaaDoorHPlain
namespace Go.Proofs.YtfmclbacoffdaaaDoor
open Go.RowKit Go.Sort Go.Joins

theorem slotCells_replicate (s : Slt) : ∀ (n k : Nat), k < n * 3 → (slotCells (List.replicate n s))[k]? = (sc s)[k % 3]?
  | 0, k, h => by omega
  | n + 1, k, h => by
    rw [List.replicate_succ]
    simp only [slotCells]
    by_cases hk : k < 3
    · rw [List.getElem?_append_left (by simp [sc]; omega), Nat.mod_eq_of_lt hk]
    · rw [List.getElem?_append_right (by simp [sc]; omega), show k - (sc s).length = k - 3 by simp [sc], slotCells_replicate s n (k - 3) (by omega), show (k - 3) % 3 = k % 3 by omega]
theorem made_slots (n : Nat) (z : Value) : (madeCells #[.int .i64 0, .bool false, z] (n * 3)).toList = slotCells (List.replicate n (0, false, z)) := by
  apply List.ext_getElem?
  intro k
  by_cases hk : k < n * 3
  · rw [slotCells_replicate _ _ _ hk]
    have h3 : k % 3 < 3 := Nat.mod_lt _ (by decide)
    simp only [madeCells, Array.toList_map, Array.toList_range, List.getElem?_map, List.getElem?_range hk, Option.map_some]
    obtain ⟨j, hj⟩ : ∃ j, j = k % 3 := ⟨_, rfl⟩
    have e : k % (#[Value.int .i64 0, .bool false, z] : Array Value).size = j := by rw [hj]; rfl
    rw [e, ← hj]
    rw [← hj] at h3
    match j, h3 with
    | 0, _ => rfl
    | 1, _ => rfl
    | 2, _ => rfl
  · rw [List.getElem?_eq_none (by simp [madeCells]; omega), List.getElem?_eq_none (by rw [slotCells_length, List.length_replicate]; omega)]
end Go.Proofs.YtfmclbacoffdaaaDoor
