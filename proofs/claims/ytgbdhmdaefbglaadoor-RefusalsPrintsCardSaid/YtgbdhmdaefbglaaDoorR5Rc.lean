/- Refusals: rules as cells of a row. -/
import Derived.Test.YtgbdhmdaefbglaaDoorR5Mem
import Derived.Laws.OwnMore
namespace Go.Proofs.YtgbdhmdaefbglaaDoor
open Go.RowKit Go.Sort Go.Joins
attribute [local go_sem] cell_grow frozen_grow size_grow

/-- rules as cells -/
def rlc (L : List Rl) : List Value := L.flatMap fun x => [.int .i64 x.1, .int .i64 x.2.1, .int .i64 x.2.2.1, .int .i64 x.2.2.2]
theorem rlc_snoc (L : List Rl) (x : Rl) : rlc (L ++ [x]) = rlc L ++ [.int .i64 x.1, .int .i64 x.2.1, .int .i64 x.2.2.1, .int .i64 x.2.2.2] := by simp [rlc]
theorem rlc_length (L : List Rl) : (rlc L).length = L.length * 4 := by
  induction L with
  | nil => rfl
  | cons x L ih =>
    have e : rlc (x :: L) = [.int .i64 x.1, .int .i64 x.2.1, .int .i64 x.2.2.1, .int .i64 x.2.2.2] ++ rlc L := rfl
    rw [e, List.length_append, ih]; simp; omega
theorem rlc_get (L : List Rl) (k : Nat) (h : k < L.length) : (rlc L)[k * 4]? = some (.int .i64 (L.getD k rl0).1) ∧ (rlc L)[k * 4 + 1]? = some (.int .i64 (L.getD k rl0).2.1) ∧ (rlc L)[k * 4 + 2]? = some (.int .i64 (L.getD k rl0).2.2.1) ∧ (rlc L)[k * 4 + 3]? = some (.int .i64 (L.getD k rl0).2.2.2) := by
  induction L generalizing k with
  | nil => simp at h
  | cons x L ih =>
    cases k with
    | zero => simp [rlc]
    | succ k =>
      have := ih k (by simpa using h)
      simp only [rlc, List.flatMap_cons] at this ⊢
      rw [List.getElem?_append_right (by simp; omega), List.getElem?_append_right (by simp; omega), List.getElem?_append_right (by simp; omega), List.getElem?_append_right (by simp; omega)]
      simpa [show (k + 1) * 4 - 4 = k * 4 by omega, show (k + 1) * 4 + 1 - 4 = k * 4 + 1 by omega, show (k + 1) * 4 + 2 - 4 = k * 4 + 2 by omega, show (k + 1) * 4 + 3 - 4 = k * 4 + 3 by omega] using this
theorem rlc_one (L : List Rl) : ∀ u ∈ rlc L, u.oneCell' = true := by
  intro u hu
  obtain ⟨x, _, hx⟩ := List.mem_flatMap.1 hu
  simp at hx
  rcases hx with rfl | rfl | rfl | rfl <;> rfl
theorem info_rule : (Tryd.prog.info? 45).map (fun i => (i.zero, i.size, i.bytes)) = some (some (.agg #[.int .i64 0, .int .i64 0, .int .i64 0, .int .i64 0]), 4, 32) := by kernel_rfl
theorem SlR.of_own {w : World} {base len cap : Nat} {e : TypeId} {a : Option Addr} {L : List Rl} (h : w.ownsRow base e 4 (.slice a len cap) L.length (rlc L)) : SlR w a L.length (fun j => L.getD j rl0) := by
  by_cases h0 : L.length = 0
  · exact .inl h0
  · obtain ⟨g, cap', hv⟩ := ownsRow_form h (by omega)
    cases hv
    refine .inr ⟨g, 0, rfl, fun j hj => ?_⟩
    obtain ⟨e0, e1, e2, e3⟩ := rlc_get L j hj
    have c0 := h.cellAt (j * 4) (by omega)
    have c1 := h.cellAt (j * 4 + 1) (by omega)
    have c2 := h.cellAt (j * 4 + 2) (by omega)
    have c3 := h.cellAt (j * 4 + 3) (by omega)
    rw [e0] at c0
    rw [e1] at c1
    rw [e2] at c2
    rw [e3] at c3
    rw [Nat.zero_add]
    exact ⟨c0, c1, c2, c3⟩
theorem SlR.congr {w : World} {a : Option Addr} {n : Nat} {R Q : Nat → Rl} (h : SlR w a n R) (hr : ∀ j, j < n → R j = Q j) : SlR w a n Q := by
  rcases h with h | ⟨b, o, ha, hc⟩
  · exact .inl h
  · exact .inr ⟨b, o, ha, fun j hj => by rw [← hr j hj]; exact hc j hj⟩
theorem getD_map {R : Nat → Rl} {n j : Nat} (hj : j < n) : ((List.range n).map R).getD j rl0 = R j := by simp [List.getD, hj]
end Go.Proofs.YtgbdhmdaefbglaaDoor
