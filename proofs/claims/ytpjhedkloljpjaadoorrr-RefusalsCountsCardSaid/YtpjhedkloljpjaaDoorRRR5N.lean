/- Refusals: comparing rules, plans and states; copies of plans; wide. -/
import Derived.Test.YtpjhedkloljpjaaDoorRRR5M
import Derived.Laws.StructEq
import Derived.ChangeKeysEq
namespace Go.Proofs.YtpjhedkloljpjaaDoorRR
open Go.RowKit Go.Sort Go.Joins Go.Shelf
attribute [local go_sem] cell_grow frozen_grow size_grow
attribute [local go_sem ↓] Go.wp_at_zero Go.wp_at_succ

theorem neq_rule (x y : Rl) (w : World) : Sem.run Tryd.prog (binOp .neq 57 (rV x) (rV y)) w = .ok (.bool (!decide (x = y))) w := by
  have u3 := Tryd.underlying3
  have hS : Tryd.prog.underlying 57 = some (.struct (Tryd.prog.fieldsOf 57)) := by kernel_rfl
  have hp : Tryd.prog.stoodInHeld 57 = false := by kernel_rfl
  rw [run_neq_struct, show (10000 : Nat) = 9999 + 1 from rfl, run_equalIn_agg w 9999 57 _ _ hS hp]
  simp only [Program.fieldsOf, Tryd.underlying57]
  obtain ⟨a, b, c, d⟩ := x
  obtain ⟨a', b', c', d'⟩ := y
  go_simp
  by_cases h1 : a = a' <;> by_cases h2 : b = b' <;> by_cases h3 : c = c' <;> by_cases h4 : d = d' <;> simp [h1, h2, h3, h4]
/-- are seven numbers the same? -/
def eq7B (C D : Nat → Int) : Bool := decide (C 0 = D 0) && (decide (C 1 = D 1) && (decide (C 2 = D 2) && (decide (C 3 = D 3) && (decide (C 4 = D 4) && (decide (C 5 = D 5) && decide (C 6 = D 6))))))
theorem eq7B_of {C D : Nat → Int} (h : ∀ k, k < 7 → C k = D k) : eq7B C D = true := by
  unfold eq7B
  simp [h 0 (by decide), h 1 (by decide), h 2 (by decide), h 3 (by decide), h 4 (by decide), h 5 (by decide), h 6 (by decide)]
theorem items7 (C D : Nat → Int) (w : World) : Sem.run Tryd.prog (Op.equalIn 10000 36 (cV C) (cV D)) w = .ok (eq7B C D) w := by
  have u3 := Tryd.underlying3
  rw [show (10000 : Nat) = 9999 + 1 from rfl]
  obtain ⟨i, hi⟩ : ∃ i, Tryd.prog.info? 3 = some i := by
    cases h : Tryd.prog.info? 3 with
    | none => exact absurd h (by decide +kernel)
    | some i => exact ⟨i, rfl⟩
  have hz : Tryd.prog.cellsOf 3 = 1 := by kernel_rfl
  rw [run_equalIn_array w 9999 _ _ Tryd.underlying36 hi, hz, show List.range 7 = [0, 1, 2, 3, 4, 5, 6] from rfl]
  simp only [Op.eqItems]
  go_simp
  unfold eq7B
  by_cases h0 : C 0 = D 0 <;> by_cases h1 : C 1 = D 1 <;> by_cases h2 : C 2 = D 2 <;> by_cases h3 : C 3 = D 3 <;> by_cases h4 : C 4 = D 4 <;> by_cases h5 : C 5 = D 5 <;> by_cases h6 : C 6 = D 6 <;> simp [h0, h1, h2, h3, h4, h5, h6]
theorem eql7 (C D : Nat → Int) (w : World) : Sem.run Tryd.prog (binOp .eql 36 (cV C) (cV D)) w = .ok (.bool (eq7B C D)) w := by
  rw [run_eql_struct, items7]; rfl
theorem neq7 (C D : Nat → Int) (w : World) : Sem.run Tryd.prog (binOp .neq 36 (cV C) (cV D)) w = .ok (.bool (!eq7B C D)) w := by
  rw [run_neq_struct, items7]; rfl
end Go.Proofs.YtpjhedkloljpjaaDoorRR
