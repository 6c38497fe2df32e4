/- Refusals: the checks of a plan, what is asked of a number: program and reference; far. -/
import Derived.Test.YtgbdhmdaefbglaaDoorR5A
namespace Go.Proofs.YtgbdhmdaefbglaaDoor
open Go.RowKit Go.Sort Go.Joins
attribute [local go_sem] cell_grow frozen_grow size_grow

section
variable {w : World} {a : Option Addr} {n c : Nat} {R : Nat → Rl}
/-- the value of a plan -/
abbrev pV (a : Option Addr) (n c : Nat) : Value := .agg #[.slice a n c]
set_option maxRecDepth 100000 in
set_option maxHeartbeats 1600000 in
theorem rfchk_ok (hS : SlR w a n R) (hn : n ≤ 9223372036854775807) :
    Calls Tryd.prog 16 #[pV a n c] w fun e w' => e = .returned (.tuple #[.int .i64 (pI n R), .int .i64 (pE n R)]) ∧ Below w.heap.size w w' := by
  have HB0 := Lib.hid (below_box0 w (.cells #[.slice a n c] 24))
  by_cases hl : 50 < n
  · have d : decide ((50 : Int) < (n : Int)) = true := by simp; omega
    have HP := Lib.hid (p_long (R := R) hl)
    clear hS hl
    go_enter Tryd.func16, Tryd.ntmps16
    go_wp2
    go_ret2
    exact ⟨ret_two HP.out.1 HP.out.2, HB0.out⟩
  · have d : decide ((50 : Int) < (n : Int)) = false := by simp; omega
    have HL := Lib.hid hl
    have HS := Lib.hid hS
    clear hS hl
    go_enter Tryd.func16, Tryd.ntmps16
    go_wp2
    go_loopw [14] (fun i wr => ∃ k : Nat, i = .int .i64 k ∧ k ≤ n ∧ Hid (Below w.heap.size w wr) ∧ Hid (∀ j, j < k → rlE (R j) = 0)) (fun i _ => n - (intOf i).toNat)
    case atStart => exact ⟨0, rfl, Nat.zero_le _, HB0, Lib.hid (fun j hj => by omega)⟩
    case round =>
      obtain ⟨k, rfl, hk, HB, HA⟩ := hrel
      clear HB0
      by_cases hlt : k < n
      · obtain ⟨b, o, rfl, g0, g1, g2, g3⟩ := (HS.out.below HB.out).at_ hlt
        have hbl := World.block_lt_of_cell? _ _ g0
        dsimp only at hbl
        have HC := Lib.hid (check1_ok (R k))
        obtain ⟨e, he⟩ : ∃ e, rlE (R k) = e := ⟨_, rfl⟩
        rw [he] at HC
        have HE := Lib.hid he
        clear he
        by_cases h0 : e = 0
        · have d0 : (e != 0) = false := by rw [h0]; rfl
          have H0 := Lib.hid h0
          clear h0
          go_wp2_with fail
          refine (HC.out _).mono ?_
          rintro e' w1 ⟨rfl, b1⟩
          have HB1 := Lib.hid (HB.out.trans (((below_box0 _ _).trans (b1.mono (by simp))).mono HB.out.size))
          clear b1
          go_wp2
          go_roundw
          case rel => exact ⟨k + 1, by go_num, by omega, HB1, Lib.hid (fun j hj => by
            by_cases ej : j = k
            · rw [ej, HE.out]; exact H0.out
            · exact HA.out j (by omega))⟩
          case measure => simp [intOf]; omega
        · have d0 : (e != 0) = true := bne0_true h0
          have H0 := Lib.hid h0
          clear h0
          go_wp2_with fail
          refine (HC.out _).mono ?_
          rintro e' w1 ⟨rfl, b1⟩
          have HB1 := Lib.hid (HB.out.trans (((below_box0 _ _).trans (b1.mono (by simp))).mono HB.out.size))
          clear b1
          go_wp2
          go_ret2
          have := p_bad HL.out hlt (by rw [HE.out]; exact H0.out) HA.out
          exact ⟨ret_two this.1 (by rw [← this.2, HE.out]), HB1.out⟩
      · obtain rfl : k = n := by omega
        go_wp2
        go_ret2
        have := p_good HL.out HA.out
        exact ⟨ret_two this.1 this.2, HB.out⟩
set_option maxRecDepth 100000 in
set_option maxHeartbeats 1600000 in
theorem rchk_ok (hS : SlR w a n R) (hn : n ≤ 9223372036854775807) :
    Calls Tryd.prog 21 #[pV a n c] w fun e w' => e = .returned (.tuple #[.int .i64 (pI n R), .int .i64 (pE n R)]) ∧ Below w.heap.size w w' := by
  have HB0 := Lib.hid (below_box0 w (.cells #[.slice a n c] 24))
  by_cases hl : 50 < n
  · have d : decide ((50 : Int) < (n : Int)) = true := by simp; omega
    have HP := Lib.hid (p_long (R := R) hl)
    clear hS hl
    go_enter Tryd.func21, Tryd.ntmps21
    go_wp2
    go_ret2
    exact ⟨ret_two HP.out.1 HP.out.2, HB0.out⟩
  · have d : decide ((50 : Int) < (n : Int)) = false := by simp; omega
    have HL := Lib.hid hl
    have HS := Lib.hid (hS.below HB0.out)
    clear hS hl
    go_enter Tryd.func21, Tryd.ntmps21
    go_wp2
    obtain ⟨W, hW⟩ : ∃ W, w.alloc (.cells #[.slice a n c] 24) = W := ⟨_, rfl⟩
    have c0 : W.cell? ⟨w.heap.size, 0, none⟩ = some (.slice a n c) := by rw [← hW]; simp [go_sem]
    have hWz : W.heap.size = w.heap.size + 1 := by rw [← hW]; simp
    rw [hW] at HB0 HS ⊢
    have HWz := Lib.hid hWz
    clear hW hWz
    go_loopw [4] (fun i wr => ∃ k : Nat, i = .int .i64 k ∧ k ≤ n ∧ Hid (Below W.heap.size W wr) ∧ Hid (∀ j, j < k → rlE (R j) = 0)) (fun i _ => n - (intOf i).toNat)
    case atStart => exact ⟨0, rfl, Nat.zero_le _, Lib.hid (Below.refl _ _), Lib.hid (fun j hj => by omega)⟩
    case round =>
      obtain ⟨k, rfl, hk, HB, HA⟩ := hrel
      have c1 : wr.cell? ⟨w.heap.size, 0, none⟩ = some (.slice a n c) := (HB.out.cell (p := ⟨w.heap.size, 0, none⟩) (by rw [HWz.out]; exact Nat.lt_succ_self _)).trans c0
      clear c0
      have HBw := Lib.hid (HB0.out.trans (HB.out.mono HB0.out.size))
      by_cases hlt : k < n
      · obtain ⟨b, o, rfl, g0, g1, g2, g3⟩ := (HS.out.below HB.out).at_ hlt
        have hbl := World.block_lt_of_cell? _ _ g0
        dsimp only at hbl
        have HC := Lib.hid (rule_ok (R k))
        obtain ⟨e, he⟩ : ∃ e, rlE (R k) = e := ⟨_, rfl⟩
        rw [he] at HC
        have HE := Lib.hid he
        clear he
        by_cases h0 : e = 0
        · have d0 : (e != 0) = false := by rw [h0]; rfl
          have H0 := Lib.hid h0
          clear h0
          go_wp2_with fail
          refine (HC.out _).mono ?_
          rintro e' w1 ⟨rfl, b1⟩
          have HB1 := Lib.hid (HB.out.trans (b1.mono HB.out.size))
          clear b1
          go_wp2
          go_roundw
          case rel => exact ⟨k + 1, by go_num, by omega, HB1, Lib.hid (fun j hj => by
            by_cases ej : j = k
            · rw [ej, HE.out]; exact H0.out
            · exact HA.out j (by omega))⟩
          case measure => simp [intOf]; omega
        · have d0 : (e != 0) = true := bne0_true h0
          have H0 := Lib.hid h0
          clear h0
          go_wp2_with fail
          refine (HC.out _).mono ?_
          rintro e' w1 ⟨rfl, b1⟩
          have HB1 := Lib.hid (HBw.out.trans (b1.mono HBw.out.size))
          clear b1
          go_wp2
          go_ret2
          have := p_bad HL.out hlt (by rw [HE.out]; exact H0.out) HA.out
          exact ⟨ret_two this.1 (by rw [← this.2, HE.out]), HB1.out⟩
      · obtain rfl : k = n := by omega
        go_wp2
        go_ret2
        have := p_good HL.out HA.out
        exact ⟨ret_two this.1 this.2, HBw.out⟩
/-- what is asked of a plan, a kind and a number -/
def askE (n : Nat) (R : Nat → Rl) (k c m : Int) : Int :=
  if pE n R ≠ 0 then pE n R else if k < 0 ∨ 7 ≤ k then 2 else if c < m ∨ 1000000 < c then 7 else 0
theorem askE_zero {n : Nat} {R : Nat → Rl} {k c m : Int} (h : askE n R k c m = 0) : pE n R = 0 ∧ 0 ≤ k ∧ k ≤ 6 ∧ m ≤ c ∧ c ≤ 1000000 := by
  unfold askE at h
  by_cases h0 : pE n R = 0
  · rw [if_neg (by simpa using h0)] at h
    by_cases h1 : k < 0 ∨ 7 ≤ k
    · rw [if_pos h1] at h; cases h
    · rw [if_neg h1] at h
      by_cases h2 : c < m ∨ 1000000 < c
      · rw [if_pos h2] at h; cases h
      · exact ⟨h0, by omega, by omega, by omega, by omega⟩
  · rw [if_pos h0] at h; exact absurd h h0
/-- the ways in which it is answered -/
theorem ask_cases {C : Int → Prop} (n : Nat) (R : Nat → Rl) (k c m : Int)
    (h : ∀ p : Int, pE n R = p → ∀ r : Int, (((p != 0) = true ∧ (p == 0) = false ∧ r = p) ∨ ((p != 0) = false ∧ (p == 0) = true ∧
      ((decide (k < 0) = true ∧ (decide (0 ≤ k) && decide (k ≤ 6)) = false ∧ r = 2) ∨ (decide (k < 0) = false ∧ decide (7 ≤ k) = true ∧ (decide (0 ≤ k) && decide (k ≤ 6)) = false ∧ r = 2) ∨
      (decide (k < 0) = false ∧ decide (7 ≤ k) = false ∧ (decide (0 ≤ k) && decide (k ≤ 6)) = true ∧
        ((decide (c < m) = true ∧ (decide (m ≤ c) && decide (c ≤ 1000000)) = false ∧ r = 7) ∨ (decide (c < m) = false ∧ decide (1000000 < c) = true ∧ (decide (m ≤ c) && decide (c ≤ 1000000)) = false ∧ r = 7) ∨
        (decide (c < m) = false ∧ decide (1000000 < c) = false ∧ (decide (m ≤ c) && decide (c ≤ 1000000)) = true ∧ r = 0)))))) → C r) : C (askE n R k c m) := by
  refine h (pE n R) rfl _ ?_
  unfold askE
  by_cases h0 : pE n R = 0
  · refine .inr ⟨by rw [h0]; rfl, by rw [h0]; rfl, ?_⟩
    rw [if_neg (by simpa using h0)]
    by_cases h1 : k < 0
    · exact .inl ⟨by simpa using h1, by simp; omega, if_pos (.inl h1)⟩
    by_cases h2 : 7 ≤ k
    · exact .inr (.inl ⟨by simpa using h1, by simpa using h2, by simp; omega, if_pos (.inr h2)⟩)
    refine .inr (.inr ⟨by simpa using h1, by simpa using h2, by simp; omega, ?_⟩)
    rw [if_neg (by omega)]
    by_cases h3 : c < m
    · exact .inl ⟨by simpa using h3, by simp; omega, if_pos (.inl h3)⟩
    by_cases h4 : 1000000 < c
    · exact .inr (.inl ⟨by simpa using h3, by simpa using h4, by simp; omega, if_pos (.inr h4)⟩)
    exact .inr (.inr ⟨by simpa using h3, by simpa using h4, by simp; omega, if_neg (by omega)⟩)
  · exact .inl ⟨bne0_true h0, by simpa using h0, if_pos h0⟩
set_option maxRecDepth 100000 in
set_option maxHeartbeats 1600000 in
theorem ask_ok (hS : SlR w a n R) (hn : n ≤ 9223372036854775807) (k x m : Int) :
    Calls Tryd.prog 30 #[pV a n c, .int .i64 k, .int .i64 x, .int .i64 m] w fun e w' => e = .returned (.int .i64 (askE n R k x m)) ∧ Below w.heap.size w w' := by
  refine ask_cases (C := fun r => Calls Tryd.prog 30 #[pV a n c, .int .i64 k, .int .i64 x, .int .i64 m] w fun e w' => e = .returned (.int .i64 r) ∧ Below w.heap.size w w') n R k x m ?_
  intro p hp r hc
  have HB := Lib.hid (below_box0 w (.cells #[.slice a n c] 24))
  have HC := Lib.hid (rfchk_ok (c := c) (hS.below HB.out) hn)
  rw [hp] at HC
  clear hS hp
  rcases hc with ⟨d1, d2, rfl⟩ | ⟨d1, d2, ⟨d3, d4, rfl⟩ | ⟨d3, d4, d5, rfl⟩ | ⟨d3, d4, d5, ⟨d6, d7, rfl⟩ | ⟨d6, d7, d8, rfl⟩ | ⟨d6, d7, d8, rfl⟩⟩⟩
  all_goals
    go_enter Tryd.func30, Tryd.ntmps30
    go_wp2_with fail
    refine HC.out.mono ?_
    rintro e w1 ⟨rfl, b1⟩
    have HB1 := Lib.hid (below_tr HB.out b1)
    clear b1
    go_wp2
    go_ret
    exact ⟨rfl, HB1.out⟩
/-- a plan that is not examined -/
def farB (n : Nat) : Bool := (decide (8 < n) && decide (n ≤ 50)) || decide (60 < n)
theorem farB_no {n : Nat} (h : farB n = false) : n ≤ 8 ∨ (50 < n ∧ n ≤ 60) := by
  unfold farB at h
  simp at h
  omega
set_option maxRecDepth 100000 in
theorem far_ok (a : Option Addr) (n c : Nat) (hn : n ≤ 9223372036854775807) (w : World) :
    Calls Tryd.prog 5 #[pV a n c] w fun e w' => e = .returned (.bool (farB n)) ∧ Below w.heap.size w w' := by
  have HB := Lib.hid (below_box0 w (.cells #[.slice a n c] 24))
  obtain ⟨r, hr⟩ : ∃ r, farB n = r := ⟨_, rfl⟩
  rw [hr]
  unfold farB at hr
  by_cases h1 : 8 < n
  all_goals by_cases h2 : n ≤ 50
  all_goals by_cases h3 : 60 < n
  all_goals try (exfalso; omega)
  all_goals
    first
      | (have d1 : decide ((8 : Int) < (n : Int)) = true := by simp; omega)
      | (have d1 : decide ((8 : Int) < (n : Int)) = false := by simp; omega)
    first
      | (have d2 : decide ((n : Int) ≤ (50 : Int)) = true := by simp; omega)
      | (have d2 : decide ((n : Int) ≤ (50 : Int)) = false := by simp; omega)
    first
      | (have d3 : decide ((60 : Int) < (n : Int)) = true := by simp; omega)
      | (have d3 : decide ((60 : Int) < (n : Int)) = false := by simp; omega)
    simp only [h1, h2, h3, decide_true, decide_false, Bool.true_and, Bool.false_and, Bool.or_true, Bool.or_false, Bool.and_true, Bool.and_false] at hr
    subst hr
    clear h1 h2 h3
    go_enter Tryd.func5, Tryd.ntmps5
    go_wp2
    go_ret
    exact ⟨rfl, HB.out⟩
end
end Go.Proofs.YtgbdhmdaefbglaaDoor
