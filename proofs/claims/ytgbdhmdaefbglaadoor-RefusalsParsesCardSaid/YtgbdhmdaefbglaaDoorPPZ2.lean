/- Refusals: the ways in which the code's branches answer. No program. | Refusals: the checks of a rule, the next call of a rule, does it refuse: program and reference. | Refusals: the checks of a plan, what is asked of a number: program and reference; far. | Refusals: is a call refused: program and reference. | Refusals: Refused and After: program and reference. | Refusals: the calls of a rule one by one; marks and hits; the last refused call. No program. | Refusals: After: program and reference; Hits of the reference. | Rows of bools of the call's own, without bits. -/
import Derived.Test.YtgbdhmdaefbglaaDoorPPZ1
import Derived.Deep.RegionHeld3
import Derived.Deep.DrawnRows
import Derived.Shelf.Abstract
import Derived.Deep.OwnRows
import Derived.Laws.OwnMore
namespace Go.Proofs.YtgbdhmdaefbglaaDoor

/-- the ways in which a rule is answered -/
theorem rl_cases {C : Int → Prop} (x : Rl)
    (h : ∀ r : Int, r = rlE x → ((decide (x.1 < 0) = true ∧ r = 2) ∨ (decide (x.1 < 0) = false ∧ decide (7 ≤ x.1) = true ∧ r = 2) ∨
      (decide (x.1 < 0) = false ∧ decide (7 ≤ x.1) = false ∧
        ((decide (x.2.1 < 1) = true ∧ r = 7) ∨ (decide (x.2.1 < 1) = false ∧ decide (10000 < x.2.1) = true ∧ r = 7) ∨
        (decide (x.2.1 < 1) = false ∧ decide (10000 < x.2.1) = false ∧
          ((decide (x.2.2.1 < 0) = true ∧ r = 7) ∨ (decide (x.2.2.1 < 0) = false ∧ decide (12 < x.2.2.1) = true ∧ r = 7) ∨
          (decide (x.2.2.1 < 0) = false ∧ decide (12 < x.2.2.1) = false ∧
            ((decide (x.2.2.2 < 0) = true ∧ r = 7) ∨ (decide (x.2.2.2 < 0) = false ∧ decide (1000 < x.2.2.2) = true ∧ r = 7) ∨
            (decide (x.2.2.2 < 0) = false ∧ decide (1000 < x.2.2.2) = false ∧
              (((x.2.2.1 == 0) = false ∧ r = 0) ∨ ((x.2.2.1 == 0) = true ∧ (x.2.2.2 == 1) = true ∧ r = 0) ∨ ((x.2.2.1 == 0) = true ∧ (x.2.2.2 == 1) = false ∧ r = 6)))))))))) → C r) : C (rlE x) := by
  obtain ⟨k, f, e, t⟩ := x
  dsimp only at h
  refine h _ rfl ?_
  unfold rlE
  dsimp only
  by_cases h1 : k < 0
  · exact .inl ⟨by simpa using h1, if_pos (.inl h1)⟩
  by_cases h2 : 7 ≤ k
  · exact .inr (.inl ⟨by simpa using h1, by simpa using h2, if_pos (.inr h2)⟩)
  rw [if_neg (by omega)]
  refine .inr (.inr ⟨by simpa using h1, by simpa using h2, ?_⟩)
  by_cases h3 : f < 1
  · exact .inl ⟨by simpa using h3, if_pos (by omega)⟩
  by_cases h4 : 10000 < f
  · exact .inr (.inl ⟨by simpa using h3, by simpa using h4, if_pos (by omega)⟩)
  refine .inr (.inr ⟨by simpa using h3, by simpa using h4, ?_⟩)
  by_cases h5 : e < 0
  · exact .inl ⟨by simpa using h5, if_pos (by omega)⟩
  by_cases h6 : 12 < e
  · exact .inr (.inl ⟨by simpa using h5, by simpa using h6, if_pos (by omega)⟩)
  refine .inr (.inr ⟨by simpa using h5, by simpa using h6, ?_⟩)
  by_cases h7 : t < 0
  · exact .inl ⟨by simpa using h7, if_pos (by omega)⟩
  by_cases h8 : 1000 < t
  · exact .inr (.inl ⟨by simpa using h7, by simpa using h8, if_pos (by omega)⟩)
  refine .inr (.inr ⟨by simpa using h7, by simpa using h8, ?_⟩)
  rw [if_neg (by omega)]
  by_cases h9 : e = 0
  · by_cases h10 : t = 1
    · exact .inr (.inl ⟨by simpa using h9, by simpa using h10, if_neg (by omega)⟩)
    · exact .inr (.inr ⟨by simpa using h9, by simpa using h10, if_pos ⟨h9, h10⟩⟩)
  · exact .inl ⟨by simpa using h9, if_neg (by omega)⟩


/-- the quotient of the calls of a rule -/
theorem nx_bounds {x : Rl} (h : RlOk x) {n : Int} (h0 : x.2.1 ≤ n) (h1 : n ≤ 1000000) (he : x.2.2.1 ≠ 0) :
    0 ≤ (n - x.2.1) / x.2.2.1 ∧ (n - x.2.1) / x.2.2.1 ≤ 1000000 ∧ 0 ≤ (n - x.2.1) / x.2.2.1 * x.2.2.1 ∧ (n - x.2.1) / x.2.2.1 * x.2.2.1 ≤ n - x.2.1 := by
  obtain ⟨k, f, e, t⟩ := x
  dsimp only at *
  have := h.e0
  have := h.f0
  dsimp only at *
  have a1 : 0 ≤ (n - f) / e := Int.ediv_nonneg (by omega) (by omega)
  have a2 : (n - f) / e * e ≤ n - f := Int.ediv_mul_le _ he
  have a3 : 0 ≤ (n - f) / e * e := Int.mul_nonneg a1 (by omega)
  have a4 : (n - f) / e * 1 ≤ (n - f) / e * e := Int.mul_le_mul_of_nonneg_left (by omega) a1
  exact ⟨a1, by omega, a3, a2⟩
/-- the ways in which next answers -/
theorem nx_cases {C : Int → Prop} (x : Rl) (hx : RlOk x) (n : Int) (h1 : n ≤ 1000000)
    (h : ∀ r : Int, ((decide (n < x.2.1) = true ∧ r = x.2.1) ∨ (decide (n < x.2.1) = false ∧ (x.2.2.1 == 0) = true ∧ r = 0) ∨
      (∃ q : Int, decide (n < x.2.1) = false ∧ (x.2.2.1 == 0) = false ∧ (n - x.2.1) / x.2.2.1 = q ∧ 1 ≤ x.2.2.1 ∧ x.2.2.1 ≤ 12 ∧ 0 ≤ q ∧ q ≤ 1000000 ∧ 0 ≤ (q + 1) * x.2.2.1 ∧ (q + 1) * x.2.2.1 ≤ 1000012 ∧ x.2.1 ≤ n ∧
        ((decide (0 < x.2.2.2) = true ∧ decide (x.2.2.2 ≤ q + 1) = true ∧ r = 0) ∨ (decide (0 < x.2.2.2) = true ∧ decide (x.2.2.2 ≤ q + 1) = false ∧ r = x.2.1 + (q + 1) * x.2.2.1) ∨ (decide (0 < x.2.2.2) = false ∧ r = x.2.1 + (q + 1) * x.2.2.1)))) → C r) : C (nxc x n) := by
  refine h _ ?_
  unfold nxc
  by_cases g1 : n < x.2.1
  · exact .inl ⟨by simpa using g1, if_pos g1⟩
  rw [if_neg g1]
  by_cases g2 : x.2.2.1 = 0
  · exact .inr (.inl ⟨by simpa using g1, by simpa using g2, if_pos g2⟩)
  rw [if_neg g2]
  obtain ⟨b1, b2, b3, b4⟩ := nx_bounds hx (by omega : x.2.1 ≤ n) h1 g2
  have e0 := hx.e0
  have e1 := hx.e1
  have f0 := hx.f0
  have em : ((n - x.2.1) / x.2.2.1 + 1) * x.2.2.1 = (n - x.2.1) / x.2.2.1 * x.2.2.1 + x.2.2.1 := by rw [Int.add_mul, Int.one_mul]
  refine .inr (.inr ⟨(n - x.2.1) / x.2.2.1, by simpa using g1, by simpa using g2, rfl, by omega, by omega, b1, b2, by omega, by omega, by omega, ?_⟩)
  by_cases g3 : 0 < x.2.2.2
  · by_cases g4 : x.2.2.2 ≤ (n - x.2.1) / x.2.2.1 + 1
    · exact .inl ⟨by simpa using g3, by simpa using g4, if_pos ⟨g3, g4⟩⟩
    · exact .inr (.inl ⟨by simpa using g3, by simpa using g4, if_neg (by omega)⟩)
  · exact .inr (.inr ⟨by simpa using g3, if_neg (by omega)⟩)
/-- the ways in which the reference says whether a rule refuses -/
theorem rf_cases {C : Bool → Prop} (x : Rl) (hx : RlOk x) (k n : Int) (h1 : n ≤ 1000000)
    (h : ∀ r : Bool, (((x.1 == k) = false ∧ r = false) ∨ ((x.1 == k) = true ∧ decide (n < x.2.1) = true ∧ r = false) ∨
      ((x.1 == k) = true ∧ decide (n < x.2.1) = false ∧ (x.2.2.1 == 0) = true ∧ r = (n == x.2.1)) ∨
      (∃ q : Int, (x.1 == k) = true ∧ decide (n < x.2.1) = false ∧ (x.2.2.1 == 0) = false ∧ (n - x.2.1) / x.2.2.1 = q ∧ 1 ≤ x.2.2.1 ∧ x.2.2.1 ≤ 12 ∧ 0 ≤ q ∧ q ≤ 1000000 ∧ 0 ≤ q * x.2.2.1 ∧ q * x.2.2.1 ≤ 1000000 ∧ x.2.1 ≤ n ∧
        (((x.2.1 + q * x.2.2.1 == n) = false ∧ r = false) ∨ ((x.2.1 + q * x.2.2.1 == n) = true ∧ (x.2.2.2 == 0) = true ∧ r = true) ∨ ((x.2.1 + q * x.2.2.1 == n) = true ∧ (x.2.2.2 == 0) = false ∧ r = decide (q < x.2.2.2))))) → C r) : C (rfz x k n) := by
  refine h _ ?_
  unfold rfz
  by_cases gx : x.1 ≠ k
  · exact .inl ⟨by simpa using gx, by simp [gx]⟩
  have g0 : x.1 = k := by omega
  have c0 : (x.1 == k) = true := by simpa using g0
  by_cases g1 : n < x.2.1
  · exact .inr (.inl ⟨c0, by simpa using g1, by rw [show decide (x.2.1 ≤ n) = false by simpa using g1]; simp⟩)
  have g1' : decide (x.2.1 ≤ n) = true := by simp; omega
  rw [decide_eq_true g0, g1']
  simp only [Bool.true_and]
  by_cases g2 : x.2.2.1 = 0
  · refine .inr (.inr (.inl ⟨c0, by simpa using g1, by simpa using g2, ?_⟩))
    rw [if_pos g2]
    by_cases g3 : n = x.2.1
    · simp [g3]
    · simp [g3]
  rw [if_neg g2]
  obtain ⟨b1, b2, b3, b4⟩ := nx_bounds hx (by omega : x.2.1 ≤ n) h1 g2
  have f0 := hx.f0
  have e0 := hx.e0
  have e1 := hx.e1
  refine .inr (.inr (.inr ⟨(n - x.2.1) / x.2.2.1, c0, by simpa using g1, by simpa using g2, rfl, by omega, by omega, b1, b2, b3, by omega, by omega, ?_⟩))
  have key : (n - x.2.1) % x.2.2.1 = n - x.2.1 - (n - x.2.1) / x.2.2.1 * x.2.2.1 := by
    have := Int.mul_ediv_add_emod (n - x.2.1) x.2.2.1
    rw [Int.mul_comm] at this
    omega
  by_cases g3 : x.2.1 + (n - x.2.1) / x.2.2.1 * x.2.2.1 = n
  · have c3 : (x.2.1 + (n - x.2.1) / x.2.2.1 * x.2.2.1 == n) = true := by simpa using g3
    rw [decide_eq_true (show (n - x.2.1) % x.2.2.1 = 0 by omega)]
    by_cases g4 : x.2.2.2 = 0
    · exact .inr (.inl ⟨c3, by simpa using g4, by simp [g4]⟩)
    · exact .inr (.inr ⟨c3, by simpa using g4, by simp [g4]⟩)
  · refine .inl ⟨by simpa using g3, ?_⟩
    rw [decide_eq_false (show ¬ (n - x.2.1) % x.2.2.1 = 0 by omega)]
    rfl
end Go.Proofs.YtgbdhmdaefbglaaDoor

namespace Go.Proofs.YtgbdhmdaefbglaaDoor
open Go.RowKit Go.Sort Go.Joins
attribute [local go_sem] cell_grow frozen_grow size_grow

theorem rfin_ok (n a b : Int) (w : World) :
    Calls Tryd.prog 51 #[.int .i64 n, .int .i64 a, .int .i64 b] w fun e w' => e = .returned (.bool (decide (a ≤ n) && decide (n ≤ b))) ∧ w = w' := by
  by_cases h1 : a ≤ n
  all_goals
    first
      | have d1 : decide (a ≤ n) = true := by simpa using h1
      | have d1 : decide (a ≤ n) = false := by simpa using h1
    clear h1
    go_enter Tryd.func51, Tryd.ntmps51
    go_wp2
    go_ret
    exact ⟨ret_bool (by rw [d1]; rfl), rfl⟩

set_option maxRecDepth 100000 in
set_option maxHeartbeats 3200000 in
theorem check1_ok (x : Rl) (w : World) :
    Calls Tryd.prog 34 #[rV x] w fun e w' => e = .returned (.int .i64 (rlE x)) ∧ Below w.heap.size w w' := by
  refine rl_cases (C := fun r => Calls Tryd.prog 34 #[rV x] w fun e w' => e = .returned (.int .i64 r) ∧ Below w.heap.size w w') x ?_
  obtain ⟨k, f, e, t⟩ := x
  intro r hr hc
  clear hr
  dsimp only at hc
  have HB := Lib.hid (below_box0 w (.cells #[.int .i64 k, .int .i64 f, .int .i64 e, .int .i64 t] 45))
  rcases hc with ⟨d1, rfl⟩ | ⟨d1, d2, rfl⟩ | ⟨d1, d2, ⟨d3, rfl⟩ | ⟨d3, d4, rfl⟩ | ⟨d3, d4, ⟨d5, rfl⟩ | ⟨d5, d6, rfl⟩ | ⟨d5, d6, ⟨d7, rfl⟩ | ⟨d7, d8, rfl⟩ | ⟨d7, d8, ⟨d9, rfl⟩ | ⟨d9, d10, rfl⟩ | ⟨d9, d10, rfl⟩⟩⟩⟩⟩
  all_goals
    go_enter Tryd.func34, Tryd.ntmps34
    go_wp2
    go_ret
    exact ⟨rfl, HB.out⟩

set_option maxRecDepth 100000 in
set_option maxHeartbeats 3200000 in
theorem rule_ok (x : Rl) (w : World) :
    Calls Tryd.prog 37 #[rV x] w fun e w' => e = .returned (.int .i64 (rlE x)) ∧ Below w.heap.size w w' := by
  refine rl_cases (C := fun r => Calls Tryd.prog 37 #[rV x] w fun e w' => e = .returned (.int .i64 r) ∧ Below w.heap.size w w') x ?_
  obtain ⟨k, f, e, t⟩ := x
  intro r hr hc
  clear hr
  dsimp only at hc
  have HB := Lib.hid (below_box0 w (.cells #[.int .i64 k, .int .i64 f, .int .i64 e, .int .i64 t] 45))
  have HI := Lib.hid rfin_ok
  rcases hc with ⟨d1, rfl⟩ | ⟨d1, d2, rfl⟩ | ⟨d1, d2, ⟨d3, rfl⟩ | ⟨d3, d4, rfl⟩ | ⟨d3, d4, ⟨d5, rfl⟩ | ⟨d5, d6, rfl⟩ | ⟨d5, d6, ⟨d7, rfl⟩ | ⟨d7, d8, rfl⟩ | ⟨d7, d8, ⟨d9, rfl⟩ | ⟨d9, d10, rfl⟩ | ⟨d9, d10, rfl⟩⟩⟩⟩⟩
  all_goals
    first
      | have b1 : (decide (0 ≤ k) && decide (k ≤ 6)) = true := by simp at d1 d2 ⊢; omega
      | have b1 : (decide (0 ≤ k) && decide (k ≤ 6)) = false := by simp at d1 d2 ⊢; omega
      | have b1 : (decide (0 ≤ k) && decide (k ≤ 6)) = false := by simp at d1 ⊢; omega
    first
      | have b2 : (decide (1 ≤ f) && decide (f ≤ 10000)) = true := by simp at d3 d4 ⊢; omega
      | have b2 : (decide (1 ≤ f) && decide (f ≤ 10000)) = false := by simp at d3 d4 ⊢; omega
      | have b2 : (decide (1 ≤ f) && decide (f ≤ 10000)) = false := by simp at d3 ⊢; omega
      | skip
    first
      | have b3 : (decide (0 ≤ e) && decide (e ≤ 12)) = true := by simp at d5 d6 ⊢; omega
      | have b3 : (decide (0 ≤ e) && decide (e ≤ 12)) = false := by simp at d5 d6 ⊢; omega
      | have b3 : (decide (0 ≤ e) && decide (e ≤ 12)) = false := by simp at d5 ⊢; omega
      | skip
    first
      | have b4 : (decide (0 ≤ t) && decide (t ≤ 1000)) = true := by simp at d7 d8 ⊢; omega
      | have b4 : (decide (0 ≤ t) && decide (t ≤ 1000)) = false := by simp at d7 d8 ⊢; omega
      | have b4 : (decide (0 ≤ t) && decide (t ≤ 1000)) = false := by simp at d7 ⊢; omega
      | skip
    go_enter Tryd.func37, Tryd.ntmps37
    repeat (go_wp2_with fail; refine (HI.out _ _ _ _).mono ?_; rintro e w1 ⟨rfl, rfl⟩)
    go_wp2
    go_ret
    exact ⟨rfl, HB.out⟩

set_option maxRecDepth 100000 in
set_option maxHeartbeats 3200000 in
theorem next_ok (x : Rl) (hx : RlOk x) (n : Int) (w : World) (h0 : 0 ≤ n) (h1 : n ≤ 1000000) :
    Calls Tryd.prog 31 #[rV x, .int .i64 n] w fun e w' => e = .returned (.int .i64 (nxc x n)) ∧ Below w.heap.size w w' := by
  refine nx_cases (C := fun r => Calls Tryd.prog 31 #[rV x, .int .i64 n] w fun e w' => e = .returned (.int .i64 r) ∧ Below w.heap.size w w') x hx n h1 ?_
  have f0 := hx.f0
  have f1 := hx.f1
  clear hx
  obtain ⟨k, f, e, t⟩ := x
  intro r hc
  dsimp only at hc f0 f1
  have HB := Lib.hid (below_box0 w (.cells #[.int .i64 k, .int .i64 f, .int .i64 e, .int .i64 t] 45))
  rcases hc with ⟨d1, rfl⟩ | ⟨d1, d2, rfl⟩ | ⟨q, d1, d2, d3, d4, d5, d6, d7, d8, d9, d10, ⟨d11, d12, rfl⟩ | ⟨d11, d12, rfl⟩ | ⟨d11, rfl⟩⟩
  all_goals
    go_enter Tryd.func31, Tryd.ntmps31
    go_wp2
    go_ret
    exact ⟨rfl, HB.out⟩

end Go.Proofs.YtgbdhmdaefbglaaDoor

namespace Go.Proofs.YtgbdhmdaefbglaaDoor
open Go.RowKit Go.Sort Go.Joins
attribute [local go_sem] cell_grow frozen_grow size_grow

section
variable {w : World} {a : Option Addr} {n c : Nat} {R : Nat → Rl}
/-- the value of a plan -/
abbrev pV (a : Option Addr) (n c : Nat) : Value := .agg #[.slice a n c]
set_option maxRecDepth 100000 in
set_option maxHeartbeats 1600000 in
theorem rfchk_ok (hS : SlR w a n R) (hn : n ≤ 9223372036854775807) :
    Calls Tryd.prog 16 #[pV a n c] w fun e w' => e = .returned (.tuple #[.int .i64 (pI n R), .int .i64 (pE n R)]) ∧ Below w.heap.size w w' := by
  have HB0 := Lib.hid (below_box0 w (.cells #[.slice a n c] 24))
  by_cases hl : 50 < n
  · have d : decide ((50 : Int) < (n : Int)) = true := by simp; omega
    have HP := Lib.hid (p_long (R := R) hl)
    clear hS hl
    go_enter Tryd.func16, Tryd.ntmps16
    go_wp2
    go_ret2
    exact ⟨ret_two HP.out.1 HP.out.2, HB0.out⟩
  · have d : decide ((50 : Int) < (n : Int)) = false := by simp; omega
    have HL := Lib.hid hl
    have HS := Lib.hid hS
    clear hS hl
    go_enter Tryd.func16, Tryd.ntmps16
    go_wp2
    go_loopw [14] (fun i wr => ∃ k : Nat, i = .int .i64 k ∧ k ≤ n ∧ Hid (Below w.heap.size w wr) ∧ Hid (∀ j, j < k → rlE (R j) = 0)) (fun i _ => n - (intOf i).toNat)
    case atStart => exact ⟨0, rfl, Nat.zero_le _, HB0, Lib.hid (fun j hj => by omega)⟩
    case round =>
      obtain ⟨k, rfl, hk, HB, HA⟩ := hrel
      clear HB0
      by_cases hlt : k < n
      · obtain ⟨b, o, rfl, g0, g1, g2, g3⟩ := (HS.out.below HB.out).at_ hlt
        have hbl := World.block_lt_of_cell? _ _ g0
        dsimp only at hbl
        have HC := Lib.hid (check1_ok (R k))
        obtain ⟨e, he⟩ : ∃ e, rlE (R k) = e := ⟨_, rfl⟩
        rw [he] at HC
        have HE := Lib.hid he
        clear he
        by_cases h0 : e = 0
        · have d0 : (e != 0) = false := by rw [h0]; rfl
          have H0 := Lib.hid h0
          clear h0
          go_wp2_with fail
          refine (HC.out _).mono ?_
          rintro e' w1 ⟨rfl, b1⟩
          have HB1 := Lib.hid (HB.out.trans (((below_box0 _ _).trans (b1.mono (by simp))).mono HB.out.size))
          clear b1
          go_wp2
          go_roundw
          case rel => exact ⟨k + 1, by go_num, by omega, HB1, Lib.hid (fun j hj => by
            by_cases ej : j = k
            · rw [ej, HE.out]; exact H0.out
            · exact HA.out j (by omega))⟩
          case measure => simp [intOf]; omega
        · have d0 : (e != 0) = true := bne0_true h0
          have H0 := Lib.hid h0
          clear h0
          go_wp2_with fail
          refine (HC.out _).mono ?_
          rintro e' w1 ⟨rfl, b1⟩
          have HB1 := Lib.hid (HB.out.trans (((below_box0 _ _).trans (b1.mono (by simp))).mono HB.out.size))
          clear b1
          go_wp2
          go_ret2
          have := p_bad HL.out hlt (by rw [HE.out]; exact H0.out) HA.out
          exact ⟨ret_two this.1 (by rw [← this.2, HE.out]), HB1.out⟩
      · obtain rfl : k = n := by omega
        go_wp2
        go_ret2
        have := p_good HL.out HA.out
        exact ⟨ret_two this.1 this.2, HB.out⟩
set_option maxRecDepth 100000 in
set_option maxHeartbeats 1600000 in
theorem rchk_ok (hS : SlR w a n R) (hn : n ≤ 9223372036854775807) :
    Calls Tryd.prog 21 #[pV a n c] w fun e w' => e = .returned (.tuple #[.int .i64 (pI n R), .int .i64 (pE n R)]) ∧ Below w.heap.size w w' := by
  have HB0 := Lib.hid (below_box0 w (.cells #[.slice a n c] 24))
  by_cases hl : 50 < n
  · have d : decide ((50 : Int) < (n : Int)) = true := by simp; omega
    have HP := Lib.hid (p_long (R := R) hl)
    clear hS hl
    go_enter Tryd.func21, Tryd.ntmps21
    go_wp2
    go_ret2
    exact ⟨ret_two HP.out.1 HP.out.2, HB0.out⟩
  · have d : decide ((50 : Int) < (n : Int)) = false := by simp; omega
    have HL := Lib.hid hl
    have HS := Lib.hid (hS.below HB0.out)
    clear hS hl
    go_enter Tryd.func21, Tryd.ntmps21
    go_wp2
    obtain ⟨W, hW⟩ : ∃ W, w.alloc (.cells #[.slice a n c] 24) = W := ⟨_, rfl⟩
    have c0 : W.cell? ⟨w.heap.size, 0, none⟩ = some (.slice a n c) := by rw [← hW]; simp [go_sem]
    have hWz : W.heap.size = w.heap.size + 1 := by rw [← hW]; simp
    rw [hW] at HB0 HS ⊢
    have HWz := Lib.hid hWz
    clear hW hWz
    go_loopw [4] (fun i wr => ∃ k : Nat, i = .int .i64 k ∧ k ≤ n ∧ Hid (Below W.heap.size W wr) ∧ Hid (∀ j, j < k → rlE (R j) = 0)) (fun i _ => n - (intOf i).toNat)
    case atStart => exact ⟨0, rfl, Nat.zero_le _, Lib.hid (Below.refl _ _), Lib.hid (fun j hj => by omega)⟩
    case round =>
      obtain ⟨k, rfl, hk, HB, HA⟩ := hrel
      have c1 : wr.cell? ⟨w.heap.size, 0, none⟩ = some (.slice a n c) := (HB.out.cell (p := ⟨w.heap.size, 0, none⟩) (by rw [HWz.out]; exact Nat.lt_succ_self _)).trans c0
      clear c0
      have HBw := Lib.hid (HB0.out.trans (HB.out.mono HB0.out.size))
      by_cases hlt : k < n
      · obtain ⟨b, o, rfl, g0, g1, g2, g3⟩ := (HS.out.below HB.out).at_ hlt
        have hbl := World.block_lt_of_cell? _ _ g0
        dsimp only at hbl
        have HC := Lib.hid (rule_ok (R k))
        obtain ⟨e, he⟩ : ∃ e, rlE (R k) = e := ⟨_, rfl⟩
        rw [he] at HC
        have HE := Lib.hid he
        clear he
        by_cases h0 : e = 0
        · have d0 : (e != 0) = false := by rw [h0]; rfl
          have H0 := Lib.hid h0
          clear h0
          go_wp2_with fail
          refine (HC.out _).mono ?_
          rintro e' w1 ⟨rfl, b1⟩
          have HB1 := Lib.hid (HB.out.trans (b1.mono HB.out.size))
          clear b1
          go_wp2
          go_roundw
          case rel => exact ⟨k + 1, by go_num, by omega, HB1, Lib.hid (fun j hj => by
            by_cases ej : j = k
            · rw [ej, HE.out]; exact H0.out
            · exact HA.out j (by omega))⟩
          case measure => simp [intOf]; omega
        · have d0 : (e != 0) = true := bne0_true h0
          have H0 := Lib.hid h0
          clear h0
          go_wp2_with fail
          refine (HC.out _).mono ?_
          rintro e' w1 ⟨rfl, b1⟩
          have HB1 := Lib.hid (HBw.out.trans (b1.mono HBw.out.size))
          clear b1
          go_wp2
          go_ret2
          have := p_bad HL.out hlt (by rw [HE.out]; exact H0.out) HA.out
          exact ⟨ret_two this.1 (by rw [← this.2, HE.out]), HB1.out⟩
      · obtain rfl : k = n := by omega
        go_wp2
        go_ret2
        have := p_good HL.out HA.out
        exact ⟨ret_two this.1 this.2, HBw.out⟩
/-- what is asked of a plan, a kind and a number -/
def askE (n : Nat) (R : Nat → Rl) (k c m : Int) : Int :=
  if pE n R ≠ 0 then pE n R else if k < 0 ∨ 7 ≤ k then 2 else if c < m ∨ 1000000 < c then 7 else 0
theorem askE_zero {n : Nat} {R : Nat → Rl} {k c m : Int} (h : askE n R k c m = 0) : pE n R = 0 ∧ 0 ≤ k ∧ k ≤ 6 ∧ m ≤ c ∧ c ≤ 1000000 := by
  unfold askE at h
  by_cases h0 : pE n R = 0
  · rw [if_neg (by simpa using h0)] at h
    by_cases h1 : k < 0 ∨ 7 ≤ k
    · rw [if_pos h1] at h; cases h
    · rw [if_neg h1] at h
      by_cases h2 : c < m ∨ 1000000 < c
      · rw [if_pos h2] at h; cases h
      · exact ⟨h0, by omega, by omega, by omega, by omega⟩
  · rw [if_pos h0] at h; exact absurd h h0
/-- the ways in which it is answered -/
theorem ask_cases {C : Int → Prop} (n : Nat) (R : Nat → Rl) (k c m : Int)
    (h : ∀ p : Int, pE n R = p → ∀ r : Int, (((p != 0) = true ∧ (p == 0) = false ∧ r = p) ∨ ((p != 0) = false ∧ (p == 0) = true ∧
      ((decide (k < 0) = true ∧ (decide (0 ≤ k) && decide (k ≤ 6)) = false ∧ r = 2) ∨ (decide (k < 0) = false ∧ decide (7 ≤ k) = true ∧ (decide (0 ≤ k) && decide (k ≤ 6)) = false ∧ r = 2) ∨
      (decide (k < 0) = false ∧ decide (7 ≤ k) = false ∧ (decide (0 ≤ k) && decide (k ≤ 6)) = true ∧
        ((decide (c < m) = true ∧ (decide (m ≤ c) && decide (c ≤ 1000000)) = false ∧ r = 7) ∨ (decide (c < m) = false ∧ decide (1000000 < c) = true ∧ (decide (m ≤ c) && decide (c ≤ 1000000)) = false ∧ r = 7) ∨
        (decide (c < m) = false ∧ decide (1000000 < c) = false ∧ (decide (m ≤ c) && decide (c ≤ 1000000)) = true ∧ r = 0)))))) → C r) : C (askE n R k c m) := by
  refine h (pE n R) rfl _ ?_
  unfold askE
  by_cases h0 : pE n R = 0
  · refine .inr ⟨by rw [h0]; rfl, by rw [h0]; rfl, ?_⟩
    rw [if_neg (by simpa using h0)]
    by_cases h1 : k < 0
    · exact .inl ⟨by simpa using h1, by simp; omega, if_pos (.inl h1)⟩
    by_cases h2 : 7 ≤ k
    · exact .inr (.inl ⟨by simpa using h1, by simpa using h2, by simp; omega, if_pos (.inr h2)⟩)
    refine .inr (.inr ⟨by simpa using h1, by simpa using h2, by simp; omega, ?_⟩)
    rw [if_neg (by omega)]
    by_cases h3 : c < m
    · exact .inl ⟨by simpa using h3, by simp; omega, if_pos (.inl h3)⟩
    by_cases h4 : 1000000 < c
    · exact .inr (.inl ⟨by simpa using h3, by simpa using h4, by simp; omega, if_pos (.inr h4)⟩)
    exact .inr (.inr ⟨by simpa using h3, by simpa using h4, by simp; omega, if_neg (by omega)⟩)
  · exact .inl ⟨bne0_true h0, by simpa using h0, if_pos h0⟩
set_option maxRecDepth 100000 in
set_option maxHeartbeats 1600000 in
theorem ask_ok (hS : SlR w a n R) (hn : n ≤ 9223372036854775807) (k x m : Int) :
    Calls Tryd.prog 30 #[pV a n c, .int .i64 k, .int .i64 x, .int .i64 m] w fun e w' => e = .returned (.int .i64 (askE n R k x m)) ∧ Below w.heap.size w w' := by
  refine ask_cases (C := fun r => Calls Tryd.prog 30 #[pV a n c, .int .i64 k, .int .i64 x, .int .i64 m] w fun e w' => e = .returned (.int .i64 r) ∧ Below w.heap.size w w') n R k x m ?_
  intro p hp r hc
  have HB := Lib.hid (below_box0 w (.cells #[.slice a n c] 24))
  have HC := Lib.hid (rfchk_ok (c := c) (hS.below HB.out) hn)
  rw [hp] at HC
  clear hS hp
  rcases hc with ⟨d1, d2, rfl⟩ | ⟨d1, d2, ⟨d3, d4, rfl⟩ | ⟨d3, d4, d5, rfl⟩ | ⟨d3, d4, d5, ⟨d6, d7, rfl⟩ | ⟨d6, d7, d8, rfl⟩ | ⟨d6, d7, d8, rfl⟩⟩⟩
  all_goals
    go_enter Tryd.func30, Tryd.ntmps30
    go_wp2_with fail
    refine HC.out.mono ?_
    rintro e w1 ⟨rfl, b1⟩
    have HB1 := Lib.hid (below_tr HB.out b1)
    clear b1
    go_wp2
    go_ret
    exact ⟨rfl, HB1.out⟩
/-- a plan that is not examined -/
def farB (n : Nat) : Bool := (decide (8 < n) && decide (n ≤ 50)) || decide (60 < n)
theorem farB_no {n : Nat} (h : farB n = false) : n ≤ 8 ∨ (50 < n ∧ n ≤ 60) := by
  unfold farB at h
  simp at h
  omega
set_option maxRecDepth 100000 in
theorem far_ok (a : Option Addr) (n c : Nat) (hn : n ≤ 9223372036854775807) (w : World) :
    Calls Tryd.prog 5 #[pV a n c] w fun e w' => e = .returned (.bool (farB n)) ∧ Below w.heap.size w w' := by
  have HB := Lib.hid (below_box0 w (.cells #[.slice a n c] 24))
  obtain ⟨r, hr⟩ : ∃ r, farB n = r := ⟨_, rfl⟩
  rw [hr]
  unfold farB at hr
  by_cases h1 : 8 < n
  all_goals by_cases h2 : n ≤ 50
  all_goals by_cases h3 : 60 < n
  all_goals try (exfalso; omega)
  all_goals
    first
      | (have d1 : decide ((8 : Int) < (n : Int)) = true := by simp; omega)
      | (have d1 : decide ((8 : Int) < (n : Int)) = false := by simp; omega)
    first
      | (have d2 : decide ((n : Int) ≤ (50 : Int)) = true := by simp; omega)
      | (have d2 : decide ((n : Int) ≤ (50 : Int)) = false := by simp; omega)
    first
      | (have d3 : decide ((60 : Int) < (n : Int)) = true := by simp; omega)
      | (have d3 : decide ((60 : Int) < (n : Int)) = false := by simp; omega)
    simp only [h1, h2, h3, decide_true, decide_false, Bool.true_and, Bool.false_and, Bool.or_true, Bool.or_false, Bool.and_true, Bool.and_false] at hr
    subst hr
    clear h1 h2 h3
    go_enter Tryd.func5, Tryd.ntmps5
    go_wp2
    go_ret
    exact ⟨rfl, HB.out⟩
end
end Go.Proofs.YtgbdhmdaefbglaaDoor

namespace Go.Proofs.YtgbdhmdaefbglaaDoor
open Go.RowKit Go.Sort Go.Joins Go.Shelf
attribute [local go_sem] cell_grow frozen_grow size_grow
attribute [local go_sem ↓] Go.wp_at_zero Go.wp_at_succ

theorem rfP_no {n : Nat} {R : Nat → Rl} {k c : Int} (h : ∀ j, j < n → rfz (R j) k c = false) : rfP n R k c = false := by
  rw [Bool.eq_false_iff]
  intro e
  obtain ⟨i, hi, hr⟩ := rfP_iff.1 e
  rw [h i hi] at hr
  cases hr
theorem rfP_yes {n i : Nat} {R : Nat → Rl} {k c : Int} (hi : i < n) (h : rfz (R i) k c = true) : rfP n R k c = true := rfP_iff.2 ⟨i, hi, h⟩
section
variable {w : World} {a : Option Addr} {n c : Nat} {R : Nat → Rl}
theorem nxc_eqb {x : Rl} (h : RlOk x) {q m : Int} (hk : x.1 = q) (hm : 1 ≤ m) : (nxc x (m - 1) == m) = rfz x q m := by
  rw [Bool.eq_iff_iff, ← hk, ← nxc_rfz h m hm]
  simp
set_option maxRecDepth 100000 in
set_option maxHeartbeats 1600000 in
/-- the closure that asks a rule -/
theorem refcl_ok (x : Rl) (hx : RlOk x) (q m : Int) (B1 B2 : Nat) (w : World) (c1 : w.cell? ⟨B1, 0, none⟩ = some (.int .i64 q)) (c2 : w.cell? ⟨B2, 0, none⟩ = some (.int .i64 m)) (h0 : 1 ≤ m) (h1 : m ≤ 1000000) :
    Calls Tryd.prog 48 #[rV x, .pointer (some ⟨B1, 0, none⟩), .pointer (some ⟨B2, 0, none⟩)] w fun e w' => e = .returned (.bool (rfz x q m)) ∧ Below w.heap.size w w' := by
  have l1 := World.block_lt_of_cell? _ _ c1
  have l2 := World.block_lt_of_cell? _ _ c2
  dsimp only at l1 l2
  by_cases hk : x.1 = q
  · have hr := nxc_eqb hx hk h0
    have HC := Lib.hid (fun W' => next_ok x hx (m - 1) W' (by omega) (by omega))
    obtain ⟨y, hy⟩ : ∃ y, nxc x (m - 1) = y := ⟨_, rfl⟩
    rw [hy] at hr HC
    obtain ⟨r, hr'⟩ : ∃ r, rfz x q m = r := ⟨_, rfl⟩
    rw [hr'] at hr ⊢
    clear hy hr' hx
    obtain ⟨K, F, E, T⟩ := x
    dsimp only at hk
    have d1 : (K == q) = true := by simpa using hk
    have HK := Lib.hid hk
    clear hk
    have hw1 : IntKind.i64.wrap (m - 1) = m - 1 := IntWalk.i64_in _ (by omega)
    obtain ⟨W, hW⟩ : ∃ W, w.alloc (.cells #[.int .i64 K, .int .i64 F, .int .i64 E, .int .i64 T] 45) = W := ⟨_, rfl⟩
    have b0 := below_box0 w (.cells #[.int .i64 K, .int .i64 F, .int .i64 E, .int .i64 T] 45)
    rw [hW] at b0
    have e0 : W.cell? ⟨w.heap.size, 0, none⟩ = some (.int .i64 K) := by rw [← hW]; simp [go_sem]
    have e1 : W.cell? ⟨w.heap.size, 1, none⟩ = some (.int .i64 F) := by rw [← hW]; simp [go_sem]
    have e2 : W.cell? ⟨w.heap.size, 2, none⟩ = some (.int .i64 E) := by rw [← hW]; simp [go_sem]
    have e3 : W.cell? ⟨w.heap.size, 3, none⟩ = some (.int .i64 T) := by rw [← hW]; simp [go_sem]
    have e4 := (b0.cell (p := ⟨B1, 0, none⟩) l1).trans c1
    have e5 := (b0.cell (p := ⟨B2, 0, none⟩) l2).trans c2
    have HC2 : Hid (∀ w', Below W.heap.size W w' → w'.cell? ⟨w.heap.size, 0, none⟩ = some (.int .i64 K) ∧ w'.cell? ⟨w.heap.size, 1, none⟩ = some (.int .i64 F) ∧ w'.cell? ⟨w.heap.size, 2, none⟩ = some (.int .i64 E) ∧ w'.cell? ⟨w.heap.size, 3, none⟩ = some (.int .i64 T) ∧ w'.cell? ⟨B1, 0, none⟩ = some (.int .i64 q) ∧ w'.cell? ⟨B2, 0, none⟩ = some (.int .i64 m)) :=
      Lib.hid (fun w' hb => ⟨cell_later hb e0, cell_later hb e1, cell_later hb e2, cell_later hb e3, cell_later hb e4, cell_later hb e5⟩)
    have HB0 := Lib.hid b0
    clear c1 c2 b0
    go_enter Tryd.func48, Tryd.ntmps48
    go_wp2_with fail
    try rw [hW]
    have HW := Lib.hid hW
    clear hW
    go_region_held3 (fun w' => Below W.heap.size W w' ∧ w'.cell? ⟨w.heap.size, 0, none⟩ = some (.int .i64 K) ∧ w'.cell? ⟨w.heap.size, 1, none⟩ = some (.int .i64 F) ∧ w'.cell? ⟨w.heap.size, 2, none⟩ = some (.int .i64 E) ∧ w'.cell? ⟨w.heap.size, 3, none⟩ = some (.int .i64 T) ∧ w'.cell? ⟨B1, 0, none⟩ = some (.int .i64 q) ∧ w'.cell? ⟨B2, 0, none⟩ = some (.int .i64 m))
      ((refine keepN HC2 ?_; first | exact (Below.refl _ _).drew | exact And.left (by assumption) | exact bel_call (by assumption) (by assumption)))
      ((go_at_call 31; (refine (HC.out _).mono ?_); rintro e w2 ⟨rfl, b2⟩; have g2 : Below W.heap.size W w2 := bel_call (by assumption) b2))
    all_goals
      go_wp2
      go_ret
      exact ⟨rfl, HB0.out.trans (g2.mono HB0.out.size)⟩
  · have hr : rfz x q m = false := by
      rw [Bool.eq_false_iff]; exact fun e => hk (rfz_kind e)
    rw [hr]
    clear hr hx
    obtain ⟨K, F, E, T⟩ := x
    dsimp only at hk
    have d1 : (K == q) = false := by simpa using hk
    clear hk
    have HB0 := Lib.hid (below_box0 w (.cells #[.int .i64 K, .int .i64 F, .int .i64 E, .int .i64 T] 45))
    go_enter Tryd.func48, Tryd.ntmps48
    go_wp2
    go_quiet (fail)
    go_wp2
    go_ret
    exact ⟨rfl, below_tr HB0.out (below_draw _ _)⟩
end
end Go.Proofs.YtgbdhmdaefbglaaDoor

namespace Go.Proofs.YtgbdhmdaefbglaaDoor
open Go.RowKit Go.Sort Go.Joins Go.Shelf
attribute [local go_sem] cell_grow frozen_grow size_grow

/-- the first rule that refuses a call; -1: there is none -/
def idxP (n : Nat) (R : Nat → Rl) (k c : Int) : Int := if nxt (fun i => rfz (R i) k c) 0 n < n then ((nxt (fun i => rfz (R i) k c) 0 n : Nat) : Int) else -1
theorem idx_hit {n i : Nat} {R : Nat → Rl} {k c : Int} (hi : i < n) (h : rfz (R i) k c = true) (hp : ∀ j, j < i → rfz (R j) k c = false) : (i : Int) = idxP n R k c := by
  have e : nxt (fun i => rfz (R i) k c) 0 n = i := nxt_eq (Nat.zero_le _) (Nat.zero_le _) (by omega) (fun j _ hj => hp j hj) (fun _ => h)
  unfold idxP
  rw [e, if_pos hi]
theorem idx_miss {n : Nat} {R : Nat → Rl} {k c : Int} (hp : ∀ j, j < n → rfz (R j) k c = false) : -1 = idxP n R k c := by
  have e : nxt (fun i => rfz (R i) k c) 0 n = n := nxt_eq (Nat.zero_le _) (Nat.zero_le _) (Nat.le_refl _) (fun j _ hj => hp j hj) (fun h => by omega)
  unfold idxP
  rw [e, if_neg (Nat.lt_irrefl n)]
theorem idx_ge {n : Nat} {R : Nat → Rl} {k c : Int} : decide ((0 : Int) ≤ idxP n R k c) = rfP n R k c := by
  obtain ⟨_, s2, s3, s4⟩ := nxt_spec (p := fun i => rfz (R i) k c) (a := 0) (n := n) (Nat.zero_le _)
  unfold idxP
  by_cases h : nxt (fun i => rfz (R i) k c) 0 n < n
  · rw [if_pos h, rfP_yes h (s4 h)]; simp
  · rw [if_neg h, rfP_no (fun j hj => s3 j (Nat.zero_le _) (by omega))]; simp
section
variable {w : World} {a : Option Addr} {n c : Nat} {R : Nat → Rl}
set_option maxRecDepth 100000 in
set_option maxHeartbeats 1600000 in
theorem index_ok (hS : SlR w a n R) (hn : n ≤ 9223372036854775807) (hR : ∀ i, i < n → RlOk (R i)) (q m : Int) (B1 B2 : Nat) (c1 : w.cell? ⟨B1, 0, none⟩ = some (.int .i64 q)) (c2 : w.cell? ⟨B2, 0, none⟩ = some (.int .i64 m)) (h0 : 1 ≤ m) (h1 : m ≤ 1000000) :
    Calls Tryd.prog 65 #[.slice a n c, .func (.func 48) #[] #[.pointer (some ⟨B1, 0, none⟩), .pointer (some ⟨B2, 0, none⟩)]] w fun e w' => e = .returned (.int .i64 (idxP n R q m)) ∧ Below w.heap.size w w' := by
  have HS := Lib.hid hS
  have HR := Lib.hid hR
  have HC1 := Lib.hid c1
  have HC2 := Lib.hid c2
  have eg : ∀ args w, (callFunc 48 args).run Tryd.prog w = .ok (.enter 48 args) w := enters_of Tryd.func48 (by kernel_rfl) rfl
  clear hS hR c1 c2
  go_enter Tryd.func65, Tryd.ntmps65
  go_wp2
  go_loopw [8] (fun i wr => ∃ k : Nat, i = .int .i64 k ∧ k ≤ n ∧ Hid (Below w.heap.size w wr) ∧ Hid (∀ j, j < k → rfz (R j) q m = false)) (fun i _ => n - (intOf i).toNat)
  case atStart => exact ⟨0, rfl, Nat.zero_le _, Lib.hid (Below.refl _ _), Lib.hid (fun j hj => by omega)⟩
  case round =>
    obtain ⟨k, rfl, hk, HB, HA⟩ := hrel
    by_cases hlt : k < n
    · obtain ⟨b, o, rfl, g0, g1, g2, g3⟩ := (HS.out.below HB.out).at_ hlt
      have hbl := World.block_lt_of_cell? _ _ g0
      dsimp only at hbl
      have HC := Lib.hid (refcl_ok (R k) (HR.out k hlt) q m B1 B2 wr (cell_later HB.out HC1.out) (cell_later HB.out HC2.out) h0 h1)
      cases hr : rfz (R k) q m
      all_goals
        rw [hr] at HC
        have HE := Lib.hid hr
        clear hr
        go_wp2_with (go_at_fn 48; refine HC.out.mono ?_; rintro e' w1 ⟨rfl, b1⟩; have HB1 := Lib.hid (HB.out.trans (b1.mono HB.out.size)); clear b1)
      · go_roundw
        case rel => exact ⟨k + 1, by go_num, by omega, HB1, Lib.hid (fun j hj => by
          by_cases ej : j = k
          · rw [ej]; exact HE.out
          · exact HA.out j (by omega))⟩
        case measure => simp [intOf]; omega
      · go_ret
        exact ⟨ret_i64 (idx_hit hlt HE.out HA.out), HB1.out⟩
    · obtain rfl : k = n := by omega
      go_wp2
      go_ret
      exact ⟨ret_i64 (idx_miss HA.out), HB.out⟩
theorem contains_ok (hS : SlR w a n R) (hn : n ≤ 9223372036854775807) (hR : ∀ i, i < n → RlOk (R i)) (q m : Int) (B1 B2 : Nat) (c1 : w.cell? ⟨B1, 0, none⟩ = some (.int .i64 q)) (c2 : w.cell? ⟨B2, 0, none⟩ = some (.int .i64 m)) (h0 : 1 ≤ m) (h1 : m ≤ 1000000) :
    Calls Tryd.prog 47 #[.slice a n c, .func (.func 48) #[] #[.pointer (some ⟨B1, 0, none⟩), .pointer (some ⟨B2, 0, none⟩)]] w fun e w' => e = .returned (.bool (rfP n R q m)) ∧ Below w.heap.size w w' := by
  have HC := Lib.hid (index_ok (c := c) hS hn hR q m B1 B2 c1 c2 h0 h1)
  have hg := idx_ge (n := n) (R := R) (k := q) (c := m)
  obtain ⟨r, hr⟩ : ∃ r, rfP n R q m = r := ⟨_, rfl⟩
  obtain ⟨i, hi⟩ : ∃ i, idxP n R q m = i := ⟨_, rfl⟩
  rw [hr, hi] at hg
  rw [hr]
  rw [hi] at HC
  clear hS hR c1 c2 hr hi
  go_enter Tryd.func47, Tryd.ntmps47
  go_wp2_with fail
  refine HC.out.mono ?_
  rintro e w1 ⟨rfl, b1⟩
  have HB1 := Lib.hid b1
  clear b1
  go_wp2
  go_ret
  exact ⟨rfl, HB1.out⟩
theorem refused_ok (hS : SlR w a n R) (hn : n ≤ 9223372036854775807) (hR : ∀ i, i < n → RlOk (R i)) (q m : Int) (h0 : 1 ≤ m) (h1 : m ≤ 1000000) :
    Calls Tryd.prog 33 #[pV a n c, .int .i64 q, .int .i64 m] w fun e w' => e = .returned (.bool (rfP n R q m)) ∧ Below w.heap.size w w' := by
  have b3 : Below w.heap.size w (((w.alloc (.cells #[.slice a n c] 24)).alloc (.cells #[.int .i64 q] 3)).alloc (.cells #[.int .i64 m] 3)) := (((Below.refl _ w).alloc (Nat.le_refl _) _).alloc (by simp) _).alloc (by simp; omega) _
  have HC := Lib.hid (contains_ok (c := c) (hS.below b3) hn hR q m (w.heap.size + 1) (w.heap.size + 1 + 1) (by simp [go_sem]) (by simp [go_sem]) h0 h1)
  have HB := Lib.hid b3
  clear b3 hS hR
  go_enter Tryd.func33, Tryd.ntmps33
  go_wp2_with fail
  refine HC.out.mono ?_
  rintro e w1 ⟨rfl, b1⟩
  have HB1 := Lib.hid (below_tr HB.out b1)
  clear b1
  go_wp2
  go_ret
  exact ⟨rfl, HB1.out⟩

/-- what Refused answers -/
def rfdV (n : Nat) (R : Nat → Rl) (k c : Int) : Bool := if askE n R k c 1 = 0 then rfP n R k c else false
theorem rfd_cases {C : Bool → Int → Prop} (n : Nat) (R : Nat → Rl) (k c : Int) (h1 : ∀ e, e ≠ 0 → askE n R k c 1 = e → C false e) (h2 : askE n R k c 1 = 0 → C (rfP n R k c) 0) : C (rfdV n R k c) (askE n R k c 1) := by
  unfold rfdV
  by_cases h : askE n R k c 1 = 0
  · rw [if_pos h, h]; exact h2 h
  · rw [if_neg h]; exact h1 _ h rfl
set_option maxRecDepth 100000 in
set_option maxHeartbeats 1600000 in
theorem Refused_ok (hS : SlR w a n R) (hn : n ≤ 9223372036854775807) (q m : Int) :
    Calls Tryd.prog 15 #[pV a n c, .int .i64 q, .int .i64 m] w fun e w' => e = .returned (.tuple #[.bool (rfdV n R q m), .int .i64 (askE n R q m 1)]) ∧ Below w.heap.size w w' := by
  have b0 := below_box0 w (.cells #[.slice a n c] 24)
  have HS := Lib.hid (hS.below b0)
  have HC := Lib.hid (ask_ok (c := c) HS.out hn q m 1)
  have HB := Lib.hid b0
  clear b0 hS
  refine rfd_cases (C := fun v e => Calls Tryd.prog 15 #[pV a n c, .int .i64 q, .int .i64 m] w fun e' w' => e' = .returned (.tuple #[.bool v, .int .i64 e]) ∧ Below w.heap.size w w') n R q m (fun e he ha => ?_) (fun ha => ?_)
  · have d1 := bne0_true he
    rw [ha] at HC
    clear ha he
    go_enter Tryd.func15, Tryd.ntmps15
    go_wp2_with fail
    refine HC.out.mono ?_
    rintro e' w1 ⟨rfl, b1⟩
    have HB1 := Lib.hid (below_tr HB.out b1)
    clear b1
    go_wp2
    go_ret2
    exact ⟨rfl, HB1.out⟩
  · obtain ⟨hp, _, _, hm0, hm1⟩ := askE_zero ha
    have HR := Lib.hid (pE_zero hp).2
    rw [ha] at HC
    clear ha hp
    go_enter Tryd.func15, Tryd.ntmps15
    go_wp2_with fail
    refine HC.out.mono ?_
    rintro e' w1 ⟨rfl, b1⟩
    have k0 : w1.cell? ⟨w.heap.size, 0, none⟩ = some (.slice a n c) := cell_later b1 (by simp [go_sem])
    have HB1 := Lib.hid (below_tr HB.out b1)
    have HS1 := Lib.hid (HS.out.below b1)
    clear b1
    go_wp2_with fail
    refine (refused_ok HS1.out hn HR.out q m (by omega) (by omega)).mono ?_
    rintro e' w2 ⟨rfl, b2⟩
    have HB2 := Lib.hid (below_tr HB1.out b2)
    clear b2
    go_wp2
    go_ret2
    exact ⟨rfl, HB2.out⟩
end
end Go.Proofs.YtgbdhmdaefbglaaDoor

namespace Go.Proofs.YtgbdhmdaefbglaaDoor

/-- is c among the first i calls of a rule? -/
def cal (x : Rl) (i : Nat) (c : Int) : Bool := (List.range i).any fun j => decide (c = x.2.1 + (j : Int) * x.2.2.1)
theorem cal_zero (x : Rl) (c : Int) : cal x 0 c = false := rfl
theorem cal_succ (x : Rl) (i : Nat) (c : Int) : cal x (i + 1) c = (cal x i c || decide (c = x.2.1 + (i : Int) * x.2.2.1)) := by unfold cal; rw [List.range_succ, List.any_append]; simp
theorem cal_iff {x : Rl} {i : Nat} {c : Int} : cal x i c = true ↔ ∃ j : Nat, j < i ∧ c = x.2.1 + (j : Int) * x.2.2.1 := by unfold cal; simp
theorem step_mul (i : Nat) (e f : Int) : f + ((i + 1 : Nat) : Int) * e = f + (i : Int) * e + e := by rw [Int.natCast_add, Int.natCast_one, Int.add_mul, Int.one_mul]; omega
/-- the calls that were gone through are those that are refused, up to the limit, when the loop ends -/
theorem cal_end {x : Rl} (h : RlOk x) {L : Int} {i : Nat} (hi : ∀ j : Nat, j < i → x.2.1 + (j : Int) * x.2.2.1 ≤ L ∧ (x.2.2.2 = 0 ∨ (j : Int) < x.2.2.2))
    (hend : L < x.2.1 + (i : Int) * x.2.2.1 ∨ (x.2.2.2 ≠ 0 ∧ x.2.2.2 ≤ (i : Int))) {c : Int} (hc : c ≤ L) : cal x i c = rfz x x.1 c := by
  have e0 := h.e0
  have t0 := h.t0
  rw [Bool.eq_iff_iff, cal_iff, rfz_iff h]
  constructor
  · rintro ⟨j, hj, e⟩
    obtain ⟨_, h2⟩ := hi j hj
    by_cases hE : x.2.2.1 = 0
    · have hT := h.et hE
      exact ⟨rfl, j, by omega, h2, fun _ => by omega, e⟩
    · exact ⟨rfl, j, by omega, h2, fun h' => absurd h' hE, e⟩
  · rintro ⟨_, m, m0, mT, mE, e⟩
    obtain ⟨j, rfl⟩ : ∃ j : Nat, m = j := ⟨m.toNat, by omega⟩
    refine ⟨j, ?_, e⟩
    rcases Nat.lt_or_ge j i with hlt | hge
    · exact hlt
    · exfalso
      rcases hend with hh | ⟨ht, hh⟩
      · have : (i : Int) * x.2.2.1 ≤ (j : Int) * x.2.2.1 := Int.mul_le_mul_of_nonneg_right (by omega) e0
        omega
      · omega
/-- the numbers that a rule goes through stay small -/
theorem cal_bound {x : Rl} (h : RlOk x) {L : Int} {i : Nat} (hi : ∀ j : Nat, j < i → x.2.1 + (j : Int) * x.2.2.1 ≤ L ∧ (x.2.2.2 = 0 ∨ (j : Int) < x.2.2.2)) (hL : 0 ≤ L) :
    1 ≤ x.2.1 + (i : Int) * x.2.2.1 ∧ x.2.1 + (i : Int) * x.2.2.1 ≤ L + 10012 ∧ (i : Int) ≤ L + 1 := by
  have e0 := h.e0
  have e1 := h.e1
  have f0 := h.f0
  have f1 := h.f1
  have p : 0 ≤ (i : Int) * x.2.2.1 := Int.mul_nonneg (by omega) e0
  match i, hi, p with
  | 0, _, p => exact ⟨by omega, by omega, by omega⟩
  | i + 1, hi, p =>
    obtain ⟨h1, h2⟩ := hi i (by omega)
    refine ⟨by omega, by rw [step_mul]; omega, ?_⟩
    by_cases hE : x.2.2.1 = 0
    · have := h.et hE
      omega
    · have : (i : Int) * 1 ≤ (i : Int) * x.2.2.1 := Int.mul_le_mul_of_nonneg_left (by omega) (by omega)
      omega

theorem hit_zero (n : Nat) (R : Nat → Rl) (k : Int) : hitP n R k 0 = 0 := by unfold hitP; exact cnt_zero (Nat.le_refl _)
theorem hit_succ (n : Nat) (R : Nat → Rl) (k : Int) (c : Nat) : hitP n R k (c + 1) = hitP n R k c + (if rfP n R k ((c + 1 : Nat) : Int) = true then 1 else 0) := by
  unfold hitP
  simp only [cnt]
  by_cases h : rfP n R k ((c + 1 : Nat) : Int) = true
  · simp [h]
  · simp [h]
theorem hit_le (n : Nat) (R : Nat → Rl) (k : Int) : ∀ c, hitP n R k c ≤ c
  | 0 => by rw [hit_zero]; omega
  | c + 1 => by
    have := hit_le n R k c
    rw [hit_succ]
    split <;> omega
theorem rfP_zero {n : Nat} {R : Nat → Rl} {k c : Int} (h : ∀ i, i < n → RlOk (R i)) (hc : c ≤ 0) : rfP n R k c = false := by
  rw [Bool.eq_false_iff]
  intro e
  obtain ⟨i, hi, hr⟩ := rfP_iff.1 e
  have := rfz_first hr
  have := (h i hi).f0
  omega
/-- the marks of the first c numbers, counted -/
def hitM (n : Nat) (R : Nat → Rl) (k : Int) (c : Nat) : Nat := cnt (fun j => rfP n R k (j : Int)) 0 c
theorem hitM_succ (n : Nat) (R : Nat → Rl) (k : Int) (c : Nat) : hitM n R k (c + 1) = hitM n R k c + (if rfP n R k (c : Int) = true then 1 else 0) := by
  unfold hitM
  simp [cnt]
theorem hitM_eq {n : Nat} {R : Nat → Rl} {k : Int} (h : ∀ i, i < n → RlOk (R i)) : ∀ c, hitM n R k (c + 1) = hitP n R k c
  | 0 => by
    rw [hitM_succ, hit_zero, rfP_zero h (by omega)]
    rfl
  | c + 1 => by rw [hitM_succ, hitM_eq h c, hit_succ]
/-- the last refused call of a kind among the first c; 0: there is none -/
def lst (n : Nat) (R : Nat → Rl) (k : Int) : Nat → Nat
  | 0 => 0
  | c + 1 => if rfP n R k ((c + 1 : Nat) : Int) = true then c + 1 else lst n R k c
theorem lst_spec (n : Nat) (R : Nat → Rl) (k : Int) : ∀ c, lst n R k c ≤ c ∧ ∀ d : Int, (lst n R k c : Int) < d → d ≤ (c : Int) → rfP n R k d = false
  | 0 => ⟨Nat.le_refl _, fun d h1 h2 => by simp only [lst] at h1; omega⟩
  | c + 1 => by
    obtain ⟨h1, h2⟩ := lst_spec n R k c
    simp only [lst]
    by_cases h : rfP n R k ((c + 1 : Nat) : Int) = true
    · rw [if_pos h]; exact ⟨Nat.le_refl _, fun d g1 g2 => by omega⟩
    · rw [if_neg h]
      refine ⟨by omega, fun d g1 g2 => ?_⟩
      by_cases e : d = ((c + 1 : Nat) : Int)
      · rw [e]; simpa using h
      · exact h2 d g1 (by omega)
/-- After names the next refused call -/
theorem lst_after {n : Nat} {R : Nat → Rl} {k : Int} {c : Nat} (h : ∀ i, i < n → RlOk (R i)) (hc : c < 1000000) (hr : rfP n R k ((c + 1 : Nat) : Int) = true) :
    aftV n R k (lst n R k c) = ((c + 1 : Nat) : Int) ∧ aftE n R k (lst n R k c) = 0 := by
  obtain ⟨h1, h2⟩ := lst_spec n R k c
  obtain ⟨a, b⟩ := aft_found h (n := (lst n R k c : Int)) (by omega) (by omega : ((lst n R k c : Nat) : Int) < ((c + 1 : Nat) : Int)) (by omega) hr (fun d g1 g2 => h2 d g1 (by omega))
  exact ⟨a.symm, b.symm⟩
/-- how often a call is refused by the first m rules -/
def manyP (R : Nat → Rl) (S : Nat → Bool) (k c : Int) : Nat → Nat
  | 0 => 0
  | m + 1 => manyP R S k c m + (if (S m && rfz (R m) k c) = true then 1 else 0)
theorem many_le (R : Nat → Rl) (S : Nat → Bool) (k c : Int) : ∀ m, manyP R S k c m ≤ m
  | 0 => Nat.le_refl _
  | m + 1 => by
    have := many_le R S k c m
    simp only [manyP]
    split <;> omega
theorem many_zero {R : Nat → Rl} {S : Nat → Bool} {k c : Int} : ∀ {m : Nat}, manyP R S k c m = 0 ↔ ∀ j, j < m → (S j && rfz (R j) k c) = false
  | 0 => by simp [manyP]
  | m + 1 => by
    have ih := many_zero (R := R) (S := S) (k := k) (c := c) (m := m)
    simp only [manyP]
    constructor
    · intro h j hj
      by_cases e : j = m
      · subst e
        by_cases g : (S j && rfz (R j) k c) = true
        · rw [if_pos g] at h; omega
        · simpa using g
      · exact ih.1 (by omega) j (by omega)
    · intro h
      rw [ih.2 (fun j hj => h j (by omega)), h m (by omega)]
      rfl
/-- .. with one rule taken out -/
theorem many_out {R : Nat → Rl} {S : Nat → Bool} {k c : Int} {i : Nat} : ∀ {m : Nat}, i < m → manyP R S k c m = manyP R (fun j => S j && decide (j ≠ i)) k c m + (if (S i && rfz (R i) k c) = true then 1 else 0)
  | m + 1, hi => by
    simp only [manyP]
    by_cases e : i = m
    · subst e
      have : ∀ n, n ≤ i → manyP R (fun j => S j && decide (j ≠ i)) k c n = manyP R S k c n := by
        intro n
        induction n with
        | zero => intro _; rfl
        | succ n ih =>
          intro hn
          simp only [manyP]
          have hd : decide (n ≠ i) = true := by simp; omega
          rw [ih (by omega)]
          simp only [hd, Bool.and_true]
      rw [this i (Nat.le_refl _)]
      simp
    · have ih := many_out (R := R) (S := S) (k := k) (c := c) (i := i) (m := m) (by omega)
      have hd : decide (m ≠ i) = true := by simp; omega
      rw [ih]
      simp only [hd, Bool.and_true]
      omega
end Go.Proofs.YtgbdhmdaefbglaaDoor

namespace Go.Proofs.YtgbdhmdaefbglaaDoor
open Go.RowKit Go.Sort Go.Joins Go.Shelf
attribute [local go_sem] cell_grow frozen_grow size_grow

/-- what After answers, of any question -/
def afV (n : Nat) (R : Nat → Rl) (k c : Int) : Int := if askE n R k c 0 = 0 then aftV n R k c else 0
def afE (n : Nat) (R : Nat → Rl) (k c : Int) : Int := if askE n R k c 0 = 0 then aftE n R k c else askE n R k c 0
theorem af_cases {C : Int → Int → Prop} (n : Nat) (R : Nat → Rl) (k c : Int) (h1 : ∀ e, e ≠ 0 → askE n R k c 0 = e → C 0 e) (h2 : askE n R k c 0 = 0 → C (aftV n R k c) (aftE n R k c)) : C (afV n R k c) (afE n R k c) := by
  unfold afV afE
  by_cases h : askE n R k c 0 = 0
  · rw [if_pos h, if_pos h]; exact h2 h
  · rw [if_neg h, if_neg h]; exact h1 _ h rfl
theorem aft_no {R : Nat → Rl} {k n : Int} {m : Nat} (h : ¬ ((R m).1 = k ∧ 0 < nxc (R m) n)) : aft R k n (m + 1) = aft R k n m := by simp only [aft]; rw [if_neg h]
theorem aft_yes {R : Nat → Rl} {k n : Int} {m : Nat} (h : (R m).1 = k ∧ 0 < nxc (R m) n) : aft R k n (m + 1) = min (aft R k n m) (nxc (R m) n) := by simp only [aft]; rw [if_pos h]
section
variable {w : World} {a : Option Addr} {n c : Nat} {R : Nat → Rl}
set_option maxRecDepth 100000 in
set_option maxHeartbeats 1600000 in
theorem After_ok (hS : SlR w a n R) (hn : n ≤ 9223372036854775807) (q m : Int) :
    Calls Tryd.prog 13 #[pV a n c, .int .i64 q, .int .i64 m] w fun e w' => e = .returned (.tuple #[.int .i64 (afV n R q m), .int .i64 (afE n R q m)]) ∧ Below w.heap.size w w' := by
  have b0 := below_box0 w (.cells #[.slice a n c] 24)
  have HS := Lib.hid (hS.below b0)
  have HC := Lib.hid (ask_ok (c := c) HS.out hn q m 0)
  have HB := Lib.hid b0
  clear b0 hS
  refine af_cases (C := fun v e => Calls Tryd.prog 13 #[pV a n c, .int .i64 q, .int .i64 m] w fun e' w' => e' = .returned (.tuple #[.int .i64 v, .int .i64 e]) ∧ Below w.heap.size w w') n R q m (fun e he ha => ?_) (fun ha => ?_)
  · have d1 := bne0_true he
    rw [ha] at HC
    clear ha he
    go_enter Tryd.func13, Tryd.ntmps13
    go_wp2_with fail
    refine HC.out.mono ?_
    rintro e' w1 ⟨rfl, b1⟩
    have HB1 := Lib.hid (below_tr HB.out b1)
    clear b1
    go_wp2
    go_ret2
    exact ⟨rfl, HB1.out⟩
  · obtain ⟨hp, _, _, hm0, hm1⟩ := askE_zero ha
    have HR := Lib.hid (pE_zero hp).2
    have hn50 := (pE_zero hp).1
    rw [ha] at HC
    clear ha hp
    go_enter Tryd.func13, Tryd.ntmps13
    go_wp2_with fail
    refine HC.out.mono ?_
    rintro e' w1 ⟨rfl, b1⟩
    have k0 : w1.cell? ⟨w.heap.size, 0, none⟩ = some (.slice a n c) := cell_later b1 (by simp [go_sem])
    have HB1 := Lib.hid (below_tr HB.out b1)
    have HS1 := Lib.hid (HS.out.below b1)
    clear b1
    go_wp2
    go_loopw [9, 23] (fun s i wr => ∃ (k : Nat) (y : Int), i = .int .i64 k ∧ k ≤ n ∧ s = .int .i64 y ∧ Hid (y = aft R q m k) ∧ Hid (Below w1.heap.size w1 wr)) (fun _ i _ => n - (intOf i).toNat)
    case atStart => exact ⟨0, _, rfl, Nat.zero_le _, rfl, Lib.hid rfl, Lib.hid (Below.refl _ _)⟩
    case round =>
      obtain ⟨k, y, rfl, hk, rfl, HY, HBr⟩ := hrel
      clear k0
      by_cases hlt : k < n
      · obtain ⟨b, o, rfl, g0, g1, g2, g3⟩ := (HS1.out.below HBr.out).at_ hlt
        have hbl := World.block_lt_of_cell? _ _ g0
        dsimp only at hbl
        have HCn := Lib.hid (fun W' => next_ok (R k) (HR.out k hlt) m W' hm0 hm1)
        obtain ⟨z, hz⟩ : ∃ z, nxc (R k) m = z := ⟨_, rfl⟩
        rw [hz] at HCn
        have HZ := Lib.hid hz
        clear hz
        by_cases hkq : (R k).1 = q
        · have d1 : ((R k).1 == q) = true := by simpa using hkq
          have HK := Lib.hid hkq
          clear hkq
          by_cases hz0 : 0 < z
          · have d2 : decide (0 < z) = true := by simpa using hz0
            go_wp2_with fail
            refine (HCn.out _).mono ?_
            rintro e' w2 ⟨rfl, b2⟩
            have HB2 := Lib.hid (HBr.out.trans (((below_box0 _ _).trans (b2.mono (by simp))).mono HBr.out.size))
            have e0 : w2.cell? ⟨wr.heap.size, 0, none⟩ = some (.int .i64 (R k).1) := cell_later b2 (by simp [go_sem])
            clear b2
            go_wp2
            go_roundw
            case rel => exact ⟨k + 1, _, by go_num, by omega, rfl, Lib.hid (by rw [aft_yes ⟨HK.out, by rw [HZ.out]; exact hz0⟩, HY.out, HZ.out]; split <;> omega), HB2⟩
            case measure => simp [intOf]; omega
          · have d2 : decide (0 < z) = false := by simpa using hz0
            go_wp2_with fail
            refine (HCn.out _).mono ?_
            rintro e' w2 ⟨rfl, b2⟩
            have HB2 := Lib.hid (HBr.out.trans (((below_box0 _ _).trans (b2.mono (by simp))).mono HBr.out.size))
            have e0 : w2.cell? ⟨wr.heap.size, 0, none⟩ = some (.int .i64 (R k).1) := cell_later b2 (by simp [go_sem])
            clear b2
            go_wp2
            go_roundw
            case rel => exact ⟨k + 1, y, by go_num, by omega, rfl, Lib.hid (by rw [aft_no (fun h => by have := h.2; rw [HZ.out] at this; omega), HY.out]), HB2⟩
            case measure => simp [intOf]; omega
        · have d1 : ((R k).1 == q) = false := by simpa using hkq
          have HK := Lib.hid hkq
          clear hkq
          go_wp2_with fail
          refine (HCn.out _).mono ?_
          rintro e' w2 ⟨rfl, b2⟩
          have HB2 := Lib.hid (HBr.out.trans (((below_box0 _ _).trans (b2.mono (by simp))).mono HBr.out.size))
          have e0 : w2.cell? ⟨wr.heap.size, 0, none⟩ = some (.int .i64 (R k).1) := cell_later b2 (by simp [go_sem])
          clear b2
          go_wp2
          go_roundw
          case rel => exact ⟨k + 1, y, by go_num, by omega, rfl, Lib.hid (by rw [aft_no (fun h => HK.out h.1), HY.out]), HB2⟩
          case measure => simp [intOf]; omega
      · obtain rfl : k = n := by omega
        have HB2 := Lib.hid (HB1.out.trans (HBr.out.mono HB1.out.size))
        have hV : aftV k R q m = if y ≤ 1000000 then y else 0 := by unfold aftV; rw [HY.out]
        have hE : aftE k R q m = if y ≤ 1000000 then 0 else 4 := by unfold aftE; rw [HY.out]
        by_cases hy : y ≤ 1000000
        · have d1 : decide (1000000 < y) = false := by simpa using hy
          rw [if_pos hy] at hV hE
          have HV := Lib.hid hV
          have HE := Lib.hid hE
          clear hV hE hy
          go_wp2
          go_ret2
          exact ⟨ret_two HV.out.symm HE.out.symm, HB2.out⟩
        · have d1 : decide (1000000 < y) = true := by simp; omega
          rw [if_neg hy] at hV hE
          have HV := Lib.hid hV
          have HE := Lib.hid hE
          clear hV hE hy
          go_wp2
          go_ret2
          exact ⟨ret_two HV.out.symm HE.out.symm, HB2.out⟩
end
end Go.Proofs.YtgbdhmdaefbglaaDoor

namespace Go.Proofs.YtgbdhmdaefbglaaDoor
open Go.RowKit Go.Sort Go.Joins

theorem info_b : (Tryd.prog.info? 4).map (fun i => (i.zero, i.size, i.bytes)) = some (some (.bool false), 1, 1) := by kernel_rfl
/-- the first n answers, as values -/
def bl (p : Nat → Bool) (n : Nat) : List Value := (List.range n).map fun i => Value.bool (p i)
theorem bl_length (p : Nat → Bool) (n : Nat) : (bl p n).length = n := by simp [bl]
theorem bl_get (p : Nat → Bool) (n k : Nat) (h : k < n) : (bl p n)[k]? = some (.bool (p k)) := by simp [bl, h]
theorem bl_congr {p q : Nat → Bool} {n : Nat} (h : ∀ i, i < n → p i = q i) : bl p n = bl q n := by
  unfold bl
  exact List.map_congr_left fun i hi => by rw [h i (by simpa using hi)]
theorem bl_set (p : Nat → Bool) (n k : Nat) (v : Bool) : (bl p n).set k (.bool v) = bl (fun i => if i = k then v else p i) n := by
  apply List.ext_getElem?
  intro i
  rw [List.getElem?_set]
  by_cases hi : i < n
  · rw [bl_get _ _ _ hi, bl_get _ _ _ hi, bl_length]
    by_cases hk : k = i
    · subst hk; rw [if_pos rfl, if_pos hi, if_pos rfl]
    · rw [if_neg hk, if_neg (fun h => hk h.symm)]
  · have e : ∀ q, (bl q n)[i]? = none := fun q => List.getElem?_eq_none (by rw [bl_length]; omega)
    rw [e, e, bl_length]
    by_cases hk : k = i
    · subst hk; rw [if_pos rfl, if_neg hi]
    · rw [if_neg hk]
/-- an owned row of bools reads so -/
theorem own_bl {w : World} {base n : Nat} {e : TypeId} {g cap : Nat} {p : Nat → Bool} (h : w.ownsRow base e 1 (.slice (some ⟨g, 0, none⟩) n cap) n (bl p n)) (k : Nat) (hk : k < n) : w.cell? ⟨g, k, none⟩ = some (.bool (p k)) := by
  have := h.cellAt k (by omega)
  rw [bl_get _ _ _ hk] at this
  exact this
theorem bl_false (n : Nat) : (List.replicate n (Value.bool false)) = bl (fun _ => false) n := by
  apply List.ext_getElem?
  intro i
  by_cases h : i < n
  · rw [bl_get _ _ _ h, List.getElem?_replicate, if_pos h]
  · rw [List.getElem?_eq_none (by simpa using h), List.getElem?_eq_none (by rw [bl_length]; omega)]
theorem zeros_bl (w : World) (len : Nat) (h : len ≤ 10000000) : (w.alloc (.cells (madeCells #[.bool false] len) 4)).ownsRow w.heap.size 4 1 (.slice (some ⟨w.heap.size, 0, none⟩) len len) len (bl (fun _ => false) len) := by
  have h1 := World.ownsRow_lit (base := w.heap.size) (e := 4) (size := 1) w (madeCells #[.bool false] len) len (Nat.le_refl _) (by unfold maxLen; omega) (by simp [madeCells])
  rw [toList_madeCells_one, bl_false] at h1
  exact h1
/-- a store into a row of bools -/
theorem bl_stored {wr : World} {base g cap n k : Nat} {e : TypeId} {p r : Nat → Bool} {v : Bool} (ho : wr.ownsRow base e 1 (.slice (some ⟨g, 0, none⟩) n cap) n (bl p n)) (h : ∀ i, i < n → r i = if i = k then v else p i) :
    (wr.setCell ⟨g, k, none⟩ (.bool v)).ownsRow base e 1 (.slice (some ⟨g, 0, none⟩) n cap) n (bl r n) := by
  have hs := (ho.stored k (.bool v)).1
  rw [bl_set] at hs
  rw [bl_congr h]
  exact hs
end Go.Proofs.YtgbdhmdaefbglaaDoor
