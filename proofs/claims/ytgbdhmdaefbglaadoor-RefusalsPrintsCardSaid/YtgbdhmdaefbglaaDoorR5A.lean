/- Refusals: the checks of a rule, the next call of a rule, does it refuse: program and reference. -/
import Derived.Test.YtgbdhmdaefbglaaDoorR5Mem
import Derived.Test.YtgbdhmdaefbglaaDoorR5PlainE
namespace Go.Proofs.YtgbdhmdaefbglaaDoor
open Go.RowKit Go.Sort Go.Joins
attribute [local go_sem] cell_grow frozen_grow size_grow

theorem rfin_ok (n a b : Int) (w : World) :
    Calls Tryd.prog 51 #[.int .i64 n, .int .i64 a, .int .i64 b] w fun e w' => e = .returned (.bool (decide (a ≤ n) && decide (n ≤ b))) ∧ w = w' := by
  by_cases h1 : a ≤ n
  all_goals
    first
      | have d1 : decide (a ≤ n) = true := by simpa using h1
      | have d1 : decide (a ≤ n) = false := by simpa using h1
    clear h1
    go_enter Tryd.func51, Tryd.ntmps51
    go_wp2
    go_ret
    exact ⟨ret_bool (by rw [d1]; rfl), rfl⟩

set_option maxRecDepth 100000 in
set_option maxHeartbeats 3200000 in
theorem check1_ok (x : Rl) (w : World) :
    Calls Tryd.prog 34 #[rV x] w fun e w' => e = .returned (.int .i64 (rlE x)) ∧ Below w.heap.size w w' := by
  refine rl_cases (C := fun r => Calls Tryd.prog 34 #[rV x] w fun e w' => e = .returned (.int .i64 r) ∧ Below w.heap.size w w') x ?_
  obtain ⟨k, f, e, t⟩ := x
  intro r hr hc
  clear hr
  dsimp only at hc
  have HB := Lib.hid (below_box0 w (.cells #[.int .i64 k, .int .i64 f, .int .i64 e, .int .i64 t] 45))
  rcases hc with ⟨d1, rfl⟩ | ⟨d1, d2, rfl⟩ | ⟨d1, d2, ⟨d3, rfl⟩ | ⟨d3, d4, rfl⟩ | ⟨d3, d4, ⟨d5, rfl⟩ | ⟨d5, d6, rfl⟩ | ⟨d5, d6, ⟨d7, rfl⟩ | ⟨d7, d8, rfl⟩ | ⟨d7, d8, ⟨d9, rfl⟩ | ⟨d9, d10, rfl⟩ | ⟨d9, d10, rfl⟩⟩⟩⟩⟩
  all_goals
    go_enter Tryd.func34, Tryd.ntmps34
    go_wp2
    go_ret
    exact ⟨rfl, HB.out⟩

set_option maxRecDepth 100000 in
set_option maxHeartbeats 3200000 in
theorem rule_ok (x : Rl) (w : World) :
    Calls Tryd.prog 37 #[rV x] w fun e w' => e = .returned (.int .i64 (rlE x)) ∧ Below w.heap.size w w' := by
  refine rl_cases (C := fun r => Calls Tryd.prog 37 #[rV x] w fun e w' => e = .returned (.int .i64 r) ∧ Below w.heap.size w w') x ?_
  obtain ⟨k, f, e, t⟩ := x
  intro r hr hc
  clear hr
  dsimp only at hc
  have HB := Lib.hid (below_box0 w (.cells #[.int .i64 k, .int .i64 f, .int .i64 e, .int .i64 t] 45))
  have HI := Lib.hid rfin_ok
  rcases hc with ⟨d1, rfl⟩ | ⟨d1, d2, rfl⟩ | ⟨d1, d2, ⟨d3, rfl⟩ | ⟨d3, d4, rfl⟩ | ⟨d3, d4, ⟨d5, rfl⟩ | ⟨d5, d6, rfl⟩ | ⟨d5, d6, ⟨d7, rfl⟩ | ⟨d7, d8, rfl⟩ | ⟨d7, d8, ⟨d9, rfl⟩ | ⟨d9, d10, rfl⟩ | ⟨d9, d10, rfl⟩⟩⟩⟩⟩
  all_goals
    first
      | have b1 : (decide (0 ≤ k) && decide (k ≤ 6)) = true := by simp at d1 d2 ⊢; omega
      | have b1 : (decide (0 ≤ k) && decide (k ≤ 6)) = false := by simp at d1 d2 ⊢; omega
      | have b1 : (decide (0 ≤ k) && decide (k ≤ 6)) = false := by simp at d1 ⊢; omega
    first
      | have b2 : (decide (1 ≤ f) && decide (f ≤ 10000)) = true := by simp at d3 d4 ⊢; omega
      | have b2 : (decide (1 ≤ f) && decide (f ≤ 10000)) = false := by simp at d3 d4 ⊢; omega
      | have b2 : (decide (1 ≤ f) && decide (f ≤ 10000)) = false := by simp at d3 ⊢; omega
      | skip
    first
      | have b3 : (decide (0 ≤ e) && decide (e ≤ 12)) = true := by simp at d5 d6 ⊢; omega
      | have b3 : (decide (0 ≤ e) && decide (e ≤ 12)) = false := by simp at d5 d6 ⊢; omega
      | have b3 : (decide (0 ≤ e) && decide (e ≤ 12)) = false := by simp at d5 ⊢; omega
      | skip
    first
      | have b4 : (decide (0 ≤ t) && decide (t ≤ 1000)) = true := by simp at d7 d8 ⊢; omega
      | have b4 : (decide (0 ≤ t) && decide (t ≤ 1000)) = false := by simp at d7 d8 ⊢; omega
      | have b4 : (decide (0 ≤ t) && decide (t ≤ 1000)) = false := by simp at d7 ⊢; omega
      | skip
    go_enter Tryd.func37, Tryd.ntmps37
    repeat (go_wp2_with fail; refine (HI.out _ _ _ _).mono ?_; rintro e w1 ⟨rfl, rfl⟩)
    go_wp2
    go_ret
    exact ⟨rfl, HB.out⟩

set_option maxRecDepth 100000 in
set_option maxHeartbeats 3200000 in
theorem next_ok (x : Rl) (hx : RlOk x) (n : Int) (w : World) (h0 : 0 ≤ n) (h1 : n ≤ 1000000) :
    Calls Tryd.prog 31 #[rV x, .int .i64 n] w fun e w' => e = .returned (.int .i64 (nxc x n)) ∧ Below w.heap.size w w' := by
  refine nx_cases (C := fun r => Calls Tryd.prog 31 #[rV x, .int .i64 n] w fun e w' => e = .returned (.int .i64 r) ∧ Below w.heap.size w w') x hx n h1 ?_
  have f0 := hx.f0
  have f1 := hx.f1
  clear hx
  obtain ⟨k, f, e, t⟩ := x
  intro r hc
  dsimp only at hc f0 f1
  have HB := Lib.hid (below_box0 w (.cells #[.int .i64 k, .int .i64 f, .int .i64 e, .int .i64 t] 45))
  rcases hc with ⟨d1, rfl⟩ | ⟨d1, d2, rfl⟩ | ⟨q, d1, d2, d3, d4, d5, d6, d7, d8, d9, d10, ⟨d11, d12, rfl⟩ | ⟨d11, d12, rfl⟩ | ⟨d11, rfl⟩⟩
  all_goals
    go_enter Tryd.func31, Tryd.ntmps31
    go_wp2
    go_ret
    exact ⟨rfl, HB.out⟩

end Go.Proofs.YtgbdhmdaefbglaaDoor
