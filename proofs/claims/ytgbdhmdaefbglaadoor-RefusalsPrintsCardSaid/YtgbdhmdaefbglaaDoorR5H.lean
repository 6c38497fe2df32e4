/- Refusals: Hits: program and reference. -/
import Derived.Test.YtgbdhmdaefbglaaDoorR5G
namespace Go.Proofs.YtgbdhmdaefbglaaDoor
open Go.RowKit Go.Sort Go.Joins Go.Shelf
attribute [local go_sem] cell_grow frozen_grow size_grow

/-- what Hits answers -/
def htV (n : Nat) (R : Nat → Rl) (k c : Int) : Int := if askE n R k c 0 = 0 then (hitP n R k c.toNat : Nat) else 0
theorem ht_cases {C : Int → Int → Prop} (n : Nat) (R : Nat → Rl) (k c : Int) (h1 : ∀ e, e ≠ 0 → askE n R k c 0 = e → C 0 e) (h2 : askE n R k c 0 = 0 → C (hitP n R k c.toNat : Nat) 0) : C (htV n R k c) (askE n R k c 0) := by
  unfold htV
  by_cases h : askE n R k c 0 = 0
  · rw [if_pos h, h]; exact h2 h
  · rw [if_neg h]; exact h1 _ h rfl
theorem hitM_le (n : Nat) (R : Nat → Rl) (k : Int) : ∀ c, hitM n R k c ≤ c
  | 0 => by unfold hitM; rw [cnt_zero (Nat.le_refl _)]; exact Nat.le_refl _
  | c + 1 => by
    have := hitM_le n R k c
    rw [hitM_succ]
    split <;> omega
section
variable {w : World} {a : Option Addr} {n c : Nat} {R : Nat → Rl}
set_option maxRecDepth 100000 in
set_option maxHeartbeats 1600000 in
theorem hits_ok (hS : SlR w a n R) (hn : n ≤ 50) (hR : ∀ i, i < n → RlOk (R i)) (q : Int) (m : Nat) (h1 : m ≤ 1000000) :
    Calls Tryd.prog 32 #[pV a n c, .int .i64 q, .int .i64 m] w fun e w' => e = .returned (.int .i64 (hitP n R q m : Nat)) ∧ Below w.heap.size w w' := by
  have HB0 := Lib.hid (below_box0 w (.cells #[.slice a n c] 24))
  have HC := Lib.hid (marks_ok (c := c) (hS.below HB0.out) hn hR q m (by omega))
  have HR := Lib.hid hR
  clear hS hR
  go_enter Tryd.func32, Tryd.ntmps32
  go_wp2_with fail
  refine HC.out.mono ?_
  rintro e w1 ⟨v, rfl, o1, b1⟩
  obtain ⟨g, cap, rfl⟩ := ownsRow_form o1 (by omega)
  have HO := Lib.hid o1
  have HB1 := Lib.hid (below_tr HB0.out b1)
  clear o1 b1
  go_wp2
  go_loop [6, 14] (fun s i => ∃ k y : Nat, i = .int .i64 k ∧ k ≤ m + 1 ∧ s = .int .i64 y ∧ y ≤ k ∧ Hid (y = hitM n R q k)) (fun _ i => m + 1 - (intOf i).toNat)
  case atStart => exact ⟨0, 0, rfl, Nat.zero_le _, rfl, Nat.le_refl _, Lib.hid (by unfold hitM; rw [cnt_zero (Nat.le_refl _)])⟩
  case round =>
    obtain ⟨k, y, rfl, hk, rfl, hy, HY⟩ := hrel
    by_cases hlt : k < m + 1
    · have cm := own_bl HO.out k hlt
      have hs := hitM_succ n R q k
      have hli : (k : Int) < (m : Int) + 1 := by omega
      have hk0 : (0 : Int) ≤ (k : Int) := by omega
      cases hr : rfP n R q (k : Int)
      all_goals
        rw [hr] at cm hs
        simp only [Bool.false_eq_true, ↓reduceIte] at hs
        have HSu := Lib.hid hs
        clear hr hs
        go_wp2
        go_round
      · exact ⟨k + 1, y, by go_num, by omega, rfl, by omega, Lib.hid (by rw [HSu.out, HY.out]; omega)⟩
      · simp [intOf]; omega
      · exact ⟨k + 1, y + 1, by go_num, by omega, by go_num, by omega, Lib.hid (by rw [HSu.out, HY.out])⟩
      · simp [intOf]; omega
    · obtain rfl : k = m + 1 := by omega
      have hle : ¬ ((m + 1 : Nat) : Int) < (m : Int) + 1 := by omega
      go_wp2
      go_ret
      exact ⟨ret_i64 (by rw [HY.out, hitM_eq HR.out]), HB1.out⟩
set_option maxRecDepth 100000 in
set_option maxHeartbeats 1600000 in
theorem Hits_ok (hS : SlR w a n R) (hn : n ≤ 9223372036854775807) (q m : Int) :
    Calls Tryd.prog 14 #[pV a n c, .int .i64 q, .int .i64 m] w fun e w' => e = .returned (.tuple #[.int .i64 (htV n R q m), .int .i64 (askE n R q m 0)]) ∧ Below w.heap.size w w' := by
  have b0 := below_box0 w (.cells #[.slice a n c] 24)
  have HS := Lib.hid (hS.below b0)
  have HC := Lib.hid (ask_ok (c := c) HS.out hn q m 0)
  have HB := Lib.hid b0
  clear b0 hS
  refine ht_cases (C := fun v e => Calls Tryd.prog 14 #[pV a n c, .int .i64 q, .int .i64 m] w fun e' w' => e' = .returned (.tuple #[.int .i64 v, .int .i64 e]) ∧ Below w.heap.size w w') n R q m (fun e he ha => ?_) (fun ha => ?_)
  · have d1 := bne0_true he
    rw [ha] at HC
    clear ha he
    go_enter Tryd.func14, Tryd.ntmps14
    go_wp2_with fail
    refine HC.out.mono ?_
    rintro e' w1 ⟨rfl, b1⟩
    have HB1 := Lib.hid (below_tr HB.out b1)
    clear b1
    go_wp2
    go_ret2
    exact ⟨rfl, HB1.out⟩
  · obtain ⟨hp, _, _, hm0, hm1⟩ := askE_zero ha
    have HR := Lib.hid (pE_zero hp).2
    have hn50 := (pE_zero hp).1
    rw [ha] at HC
    clear ha hp
    obtain ⟨m, rfl⟩ := Int.eq_ofNat_of_zero_le hm0
    rw [Int.toNat_natCast]
    go_enter Tryd.func14, Tryd.ntmps14
    go_wp2_with fail
    refine HC.out.mono ?_
    rintro e' w1 ⟨rfl, b1⟩
    have k0 : w1.cell? ⟨w.heap.size, 0, none⟩ = some (.slice a n c) := cell_later b1 (by simp [go_sem])
    have HB1 := Lib.hid (below_tr HB.out b1)
    have HS1 := Lib.hid (HS.out.below b1)
    clear b1
    go_wp2_with fail
    refine (hits_ok HS1.out hn50 HR.out q m (by omega)).mono ?_
    rintro e' w2 ⟨rfl, b2⟩
    have HB2 := Lib.hid (below_tr HB1.out b2)
    clear b2
    go_wp2
    go_ret2
    exact ⟨rfl, HB2.out⟩
end
end Go.Proofs.YtgbdhmdaefbglaaDoor
