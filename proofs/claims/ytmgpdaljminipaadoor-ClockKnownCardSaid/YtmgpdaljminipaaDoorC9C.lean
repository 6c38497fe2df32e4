/- Clocks: Count, Set, Age; plans that are not examined. -/
import Derived.Test.YtmgpdaljminipaaDoorC9B
namespace Go.Proofs.YtmgpdaljminipaaDoor
open Go.RowKit Go.Sort Go.Joins
attribute [local go_sem] cell_grow frozen_grow size_grow
/-- the ways in which an alarm is counted -/
theorem cnt_ways {a : Int × Int} (h : AlOk a) {u : Int} (h0 : 0 ≤ u) (h1 : u ≤ 1000000000000) :
    (decide (u < a.1) = true ∧ decide (a.1 ≤ u) = false ∧ cntA a u = 0) ∨
    (decide (u < a.1) = false ∧ decide (a.1 ≤ u) = true ∧ (a.2 == 0) = true ∧ decide (0 < a.2) = false ∧ cntA a u = 1) ∨
    (∃ q : Int, decide (u < a.1) = false ∧ decide (a.1 ≤ u) = true ∧ (a.2 == 0) = false ∧ decide (0 < a.2) = true ∧ (u - a.1) / a.2 = q ∧ 1 ≤ a.2 ∧ a.2 ≤ 1000000000000 ∧ a.1 ≤ u ∧ 0 ≤ q ∧ q ≤ 1000000000000 ∧ 0 ≤ (q + 1) * a.2 ∧ (q + 1) * a.2 ≤ 2000000000000 ∧ cntA a u = q + 1) := by
  have a0 := h.a0
  have e0 := h.e0
  have e1 := h.e1
  unfold MT at e1
  unfold cntA
  by_cases g1 : u < a.1
  · exact .inl ⟨by simpa using g1, by simp; omega, if_pos g1⟩
  rw [if_neg g1]
  by_cases g2 : a.2 = 0
  · exact .inr (.inl ⟨by simpa using g1, by simp; omega, by simpa using g2, by simp; omega, if_pos g2⟩)
  rw [if_neg g2]
  have k1 : 0 ≤ (u - a.1) / a.2 := Int.ediv_nonneg (by omega) (by omega)
  have k2 : (u - a.1) / a.2 * a.2 ≤ u - a.1 := Int.ediv_mul_le _ g2
  have k4 : (u - a.1) / a.2 * 1 ≤ (u - a.1) / a.2 * a.2 := Int.mul_le_mul_of_nonneg_left (by omega) k1
  have em : ((u - a.1) / a.2 + 1) * a.2 = (u - a.1) / a.2 * a.2 + a.2 := by rw [Int.add_mul, Int.one_mul]
  exact .inr (.inr ⟨_, by simpa using g1, by simp; omega, by simpa using g2, by simp; omega, rfl, by omega, by omega, by omega, k1, by omega, by omega, by omega, rfl⟩)
theorem MT_eq : MT = 1000000000000 := rfl
section
variable {w : World} {a : Option Addr} {n c : Nat} {R : Nat → Al}
set_option maxRecDepth 100000 in
set_option maxHeartbeats 3200000 in
theorem count_ok (hS : SlA w a n R) (hn : n ≤ 9223372036854775807) (hR : ∀ j, j < n → AlB (R j)) (u : Int) :
    Calls Tryd.prog 15 #[pV a n c, .int .i64 u] w fun e w' => e = .returned (.tuple #[.int .i64 (ctV n R u), .int .i64 (ctE n R u)]) ∧ Below w.heap.size w w' := by
  have b0 := below_box0 w (.cells #[.slice a n c] 44)
  have HB0 := Lib.hid b0
  have HS := Lib.hid (hS.below b0)
  have HC := Lib.hid (check_ok (c := c) HS.out hn hR)
  have HT := Lib.hid (isTime_ok u)
  obtain ⟨p, hp⟩ : ∃ p, cE n R = p := ⟨_, rfl⟩
  clear b0 hS hR
  by_cases h0 : p = 0
  · subst h0
    cases ht : tmB u
    · have HV : Hid (ctV n R u = 0 ∧ ctE n R u = 7) := Lib.hid (by
        have he : ctE n R u = 7 := by unfold ctE; rw [if_neg (by simpa using hp), if_neg (by simp [ht])]
        exact ⟨by unfold ctV; rw [he, if_neg (by decide)], he⟩)
      rw [hp] at HC
      rw [ht] at HT
      clear hp ht
      go_enter Tryd.func15, Tryd.ntmps15
      go_wp2_with fail
      refine HC.out.mono ?_
      rintro e w1 ⟨rfl, b1⟩
      have HB1 := Lib.hid (below_tr HB0.out b1)
      clear b1
      go_wp2_with (go_at_call 22; refine (HT.out _).mono ?_; rintro e w2 ⟨rfl, rfl⟩)
      go_ret2
      exact ⟨ret_two HV.out.1.symm HV.out.2.symm, HB1.out⟩
    · have hu := tmB_yes.1 ht
      have hct := ctE_of hp hu.1 hu.2
      have HV : Hid (ctV n R u = sumA R u n ∧ ctE n R u = 0) := Lib.hid ⟨by unfold ctV; rw [if_pos hct], hct⟩
      have HO := Lib.hid (cE_zero hp)
      have hn50 := HO.out.n50
      obtain ⟨hu0, hu1⟩ := hu
      rw [hp] at HC
      rw [ht] at HT
      clear hp ht hct
      go_enter Tryd.func15, Tryd.ntmps15
      go_wp2_with fail
      refine HC.out.mono ?_
      rintro e w1 ⟨rfl, b1⟩
      have k0 : w1.cell? ⟨w.heap.size, 0, none⟩ = some (.slice a n c) := cell_later b1 (by simp [go_sem])
      have HB1 := Lib.hid (below_tr HB0.out b1)
      have HS1 := Lib.hid (HS.out.below b1)
      clear b1
      go_wp2_with (go_at_call 22; refine (HT.out _).mono ?_; rintro e w2 ⟨rfl, rfl⟩)
      clear k0
      go_loopw [8, 25] (fun s i wr => ∃ k : Nat, ∃ y : Int, i = .int .i64 k ∧ k ≤ n ∧ s = .int .i64 y ∧ 0 ≤ y ∧ y ≤ 1000000000001 * (k : Int) ∧ Hid (y = sumA R u k) ∧ Hid (Below w1.heap.size w1 wr)) (fun _ i _ => n - (intOf i).toNat)
      case atStart => exact ⟨0, 0, rfl, Nat.zero_le _, rfl, Int.le_refl _, by simp, Lib.hid rfl, Lib.hid (Below.refl _ _)⟩
      case round =>
        obtain ⟨k, y, rfl, hk, rfl, hy0, hy1, HY, HB⟩ := hrel
        by_cases hlt : k < n
        · obtain ⟨b, o, rfl, g0, g1, g2⟩ := (HS1.out.below HB.out).at_ hlt
          have hbl := World.block_lt_of_cell? _ _ g0
          dsimp only at hbl
          have hal := HO.out.ok k hlt
          have a0 := hal.a0
          have a1 := hal.a1
          rw [MT_eq] at a1
          have hw := cnt_ways hal hu0 hu1
          have hs : sumA R u (k + 1) = y + cntA (R k).2 u := by rw [HY.out]; rfl
          have hge := cntA_ge hal (u := u) (by rw [MT_eq]; exact hu1)
          have HSu := Lib.hid (And.intro hs hge)
          clear hal hs hge
          rcases hw with ⟨d1, _, hv⟩ | ⟨d1, _, d2, _, hv⟩ | ⟨q, d1, _, d2, _, d3, e1, e2, e3, e4, e5, e6, e7, hv⟩
          all_goals
            have HVa := Lib.hid hv
            clear hv
            go_wp2
            go_roundw
            case rel => exact ⟨k + 1, _, by go_num, by omega, rfl, by omega, by omega, Lib.hid (by have e1 := HSu.out.1; rw [HVa.out] at e1; omega), Lib.hid (HB.out.trans ((below_box0 _ _).mono HB.out.size))⟩
            case measure => simp [intOf]; omega
        · obtain rfl : k = n := by omega
          go_wp2
          go_ret2
          exact ⟨ret_two (by rw [HV.out.1, HY.out]) HV.out.2.symm, HB1.out.trans (HB.out.mono HB1.out.size)⟩
  · have d0 : (p != 0) = true := bne0_true h0
    have HV : Hid (ctV n R u = 0 ∧ ctE n R u = p) := Lib.hid (by
      have he : ctE n R u = p := by unfold ctE; rw [if_pos (by rw [hp]; exact h0), hp]
      exact ⟨by unfold ctV; rw [he, if_neg h0], he⟩)
    rw [hp] at HC
    clear hp h0
    go_enter Tryd.func15, Tryd.ntmps15
    go_wp2_with fail
    refine HC.out.mono ?_
    rintro e w1 ⟨rfl, b1⟩
    have HB1 := Lib.hid (below_tr HB0.out b1)
    clear b1
    go_wp2
    go_ret2
    exact ⟨ret_two HV.out.1.symm HV.out.2.symm, HB1.out⟩
end
/-- what Set answers -/
def setE (x t : Int) : Int := if tmB x = false then 2 else if tmB t = false then 7 else 0
def setV (x t : Int) : Int := if setE x t = 0 then max x t else 0
set_option maxRecDepth 100000 in
set_option maxHeartbeats 1600000 in
theorem set_ok (x t : Int) (w : World) :
    Calls Tryd.prog 10 #[.agg #[.int .i64 x], .int .i64 t] w fun e w' => e = .returned (.tuple #[.agg #[.int .i64 (setV x t)], .int .i64 (setE x t)]) ∧ Below w.heap.size w w' := by
  have HT1 := Lib.hid (isTime_ok x)
  have HT2 := Lib.hid (isTime_ok t)
  have HB : Hid (Below w.heap.size w ((w.alloc (.cells #[.int .i64 x] 30)).alloc (.cells #[.int .i64 0] 30))) := Lib.hid (((Below.refl _ w).alloc (Nat.le_refl _) _).alloc (by simp) _)
  obtain ⟨e, he⟩ : ∃ e, setE x t = e := ⟨_, rfl⟩
  obtain ⟨v, hv⟩ : ∃ v, setV x t = v := ⟨_, rfl⟩
  have hc : (tmB x = false ∧ e = 2 ∧ v = 0) ∨ (tmB x = true ∧ tmB t = false ∧ e = 7 ∧ v = 0) ∨ (tmB x = true ∧ tmB t = true ∧ decide (x < t) = true ∧ e = 0 ∧ t = v) ∨ (tmB x = true ∧ tmB t = true ∧ decide (x < t) = false ∧ e = 0 ∧ x = v) := by
    unfold setV at hv
    rw [he] at hv
    unfold setE at he
    cases e1 : tmB x
    · rw [e1] at he; simp at he; subst he; simp at hv; exact .inl ⟨rfl, rfl, hv.symm⟩
    · cases e2 : tmB t
      · rw [e1, e2] at he; simp at he; subst he; simp at hv; exact .inr (.inl ⟨rfl, rfl, rfl, hv.symm⟩)
      · rw [e1, e2] at he; simp at he; subst he; simp at hv
        by_cases h : x < t
        · exact .inr (.inr (.inl ⟨rfl, rfl, by simpa using h, rfl, by omega⟩))
        · exact .inr (.inr (.inr ⟨rfl, rfl, by simpa using h, rfl, by omega⟩))
  rw [he, hv]
  clear he hv
  rcases hc with ⟨e1, rfl, rfl⟩ | ⟨e1, e2, rfl, rfl⟩ | ⟨e1, e2, d, rfl, rfl⟩ | ⟨e1, e2, d, rfl, rfl⟩
  all_goals
    rw [e1] at HT1
    clear e1
    first
      | (rw [e2] at HT2; clear e2)
      | skip
    go_enter Tryd.func10, Tryd.ntmps10
    go_wp2_with (go_at_call 22; first | ((with_reducible refine (HT1.out _).mono ?_); rintro e w1 ⟨rfl, rfl⟩) | ((with_reducible refine (HT2.out _).mono ?_); rintro e w1 ⟨rfl, rfl⟩))
    first
      | exact bodyPost_ret (v := .tuple #[.agg #[.int .i64 0], .int .i64 2]) (by simp [results, Tryd.results10, go_sem]) rfl ⟨rfl, ((Below.refl _ w).alloc (Nat.le_refl _) _).alloc (by simp) _⟩
      | exact bodyPost_ret (v := .tuple #[.agg #[.int .i64 0], .int .i64 7]) (by simp [results, Tryd.results10, go_sem]) rfl ⟨rfl, ((Below.refl _ w).alloc (Nat.le_refl _) _).alloc (by simp) _⟩
      | exact bodyPost_ret (v := .tuple #[.agg #[.int .i64 t], .int .i64 0]) (by simp [results, Tryd.results10, go_sem]) rfl ⟨rfl, ((Below.refl _ w).alloc (Nat.le_refl _) _).alloc (by simp) _⟩
      | exact bodyPost_ret (v := .tuple #[.agg #[.int .i64 x], .int .i64 0]) (by simp [results, Tryd.results10, go_sem]) rfl ⟨rfl, ((Below.refl _ w).alloc (Nat.le_refl _) _).alloc (by simp) _⟩
/-- what Age answers -/
def ageE (x t : Int) : Int := if tmB x = false then 2 else if t < 0 ∨ x < t then 7 else 0
def ageV (x t : Int) : Int := if ageE x t = 0 then x - t else 0
set_option maxRecDepth 100000 in
set_option maxHeartbeats 1600000 in
theorem age_ok (x t : Int) (w : World) :
    Calls Tryd.prog 11 #[.agg #[.int .i64 x], .int .i64 t] w fun e w' => e = .returned (.tuple #[.int .i64 (ageV x t), .int .i64 (ageE x t)]) ∧ Below w.heap.size w w' := by
  have HT1 := Lib.hid (isTime_ok x)
  have HB := Lib.hid (below_box0 w (.cells #[.int .i64 x] 30))
  obtain ⟨e, he⟩ : ∃ e, ageE x t = e := ⟨_, rfl⟩
  obtain ⟨v, hv⟩ : ∃ v, ageV x t = v := ⟨_, rfl⟩
  have hc : (tmB x = false ∧ e = 2 ∧ v = 0) ∨ (tmB x = true ∧ decide (t < 0) = true ∧ e = 7 ∧ v = 0) ∨ (tmB x = true ∧ decide (t < 0) = false ∧ decide (x < t) = true ∧ e = 7 ∧ v = 0) ∨ (tmB x = true ∧ decide (t < 0) = false ∧ decide (x < t) = false ∧ e = 0 ∧ v = x - t ∧ 0 ≤ t ∧ t ≤ x ∧ x ≤ 1000000000000) := by
    unfold ageV at hv
    rw [he] at hv
    unfold ageE at he
    cases e1 : tmB x
    · rw [e1] at he; simp at he; subst he; simp at hv; exact .inl ⟨rfl, rfl, hv.symm⟩
    · rw [e1, if_neg (by decide)] at he
      have hb := tmB_yes.1 e1
      by_cases h1 : t < 0
      · rw [if_pos (.inl h1)] at he; subst he; simp at hv; exact .inr (.inl ⟨rfl, by simpa using h1, rfl, hv.symm⟩)
      · by_cases h2 : x < t
        · rw [if_pos (.inr h2)] at he; subst he; simp at hv; exact .inr (.inr (.inl ⟨rfl, by simpa using h1, by simpa using h2, rfl, hv.symm⟩))
        · rw [if_neg (by omega)] at he; subst he; simp at hv; exact .inr (.inr (.inr ⟨rfl, by simpa using h1, by simpa using h2, rfl, hv.symm, by omega, by omega, hb.2⟩))
  rw [he, hv]
  clear he hv
  rcases hc with ⟨e1, rfl, rfl⟩ | ⟨e1, d1, rfl, rfl⟩ | ⟨e1, d1, d2, rfl, rfl⟩ | ⟨e1, d1, d2, rfl, rfl, d3, d4, d5⟩
  all_goals
    rw [e1] at HT1
    clear e1
    go_enter Tryd.func11, Tryd.ntmps11
    go_wp2_with (go_at_call 22; (with_reducible refine (HT1.out _).mono ?_); rintro e w1 ⟨rfl, rfl⟩)
    go_ret2
    exact ⟨rfl, HB.out⟩
end Go.Proofs.YtmgpdaljminipaaDoor
