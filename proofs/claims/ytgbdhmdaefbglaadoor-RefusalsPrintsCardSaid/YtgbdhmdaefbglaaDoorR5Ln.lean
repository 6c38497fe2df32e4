/- Refusals: the names of the reference. -/
import Derived.Test.YtgbdhmdaefbglaaDoorR5La
namespace Go.Proofs.YtgbdhmdaefbglaaDoor
open Go.RowKit Go.Sort Go.Joins Go.Shelf
attribute [local go_sem] cell_grow frozen_grow size_grow Oper.semAt_some

abbrev nmRow : Array Value := #[.string ⟨#[114, 101, 115, 101, 114, 118, 101]⟩, .string ⟨#[114, 101, 108, 101, 97, 115, 101]⟩, .string ⟨#[99, 111, 109, 109, 105, 116]⟩, .string ⟨#[100, 101, 99, 111, 109, 109, 105, 116]⟩, .string ⟨#[112, 114, 111, 116, 101, 99, 116]⟩, .string ⟨#[106, 111, 105, 110]⟩, .string ⟨#[115, 112, 108, 105, 116]⟩]
theorem rnames_ok (w : World) : Calls Tryd.prog 22 #[] w fun e w' => ∃ b, e = .returned (.slice (some ⟨b, 0, none⟩) 7 7) ∧ w'.heap[b]? = some (.cells nmRow 9 (0, 0)) ∧ Below w.heap.size w w' := by
  go_enter Tryd.func22, Tryd.ntmps22
  go_wp2_with fail
  go_ret
  exact ⟨_, rfl, heap_alloc_new w _, below_box0 w _⟩
theorem nm_cell {W : World} {b : Nat} (h : W.heap[b]? = some (.cells nmRow 9 (0, 0))) {k : Nat} (hk : k < 7) : W.cell? ⟨b, k, none⟩ = some (.string ⟨(kname k).toArray⟩) := by
  rw [cell_of_block h]
  match k, hk with
  | 0, _ => rfl
  | 1, _ => rfl
  | 2, _ => rfl
  | 3, _ => rfl
  | 4, _ => rfl
  | 5, _ => rfl
  | 6, _ => rfl
end Go.Proofs.YtgbdhmdaefbglaaDoor
