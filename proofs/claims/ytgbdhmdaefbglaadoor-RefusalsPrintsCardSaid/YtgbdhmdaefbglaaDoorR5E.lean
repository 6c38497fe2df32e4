/- Refusals: After: program and reference; Hits of the reference. -/
import Derived.Test.YtgbdhmdaefbglaaDoorR5D
import Derived.Test.YtgbdhmdaefbglaaDoorR5PlainG
namespace Go.Proofs.YtgbdhmdaefbglaaDoor
open Go.RowKit Go.Sort Go.Joins Go.Shelf
attribute [local go_sem] cell_grow frozen_grow size_grow

/-- what After answers, of any question -/
def afV (n : Nat) (R : Nat → Rl) (k c : Int) : Int := if askE n R k c 0 = 0 then aftV n R k c else 0
def afE (n : Nat) (R : Nat → Rl) (k c : Int) : Int := if askE n R k c 0 = 0 then aftE n R k c else askE n R k c 0
theorem af_cases {C : Int → Int → Prop} (n : Nat) (R : Nat → Rl) (k c : Int) (h1 : ∀ e, e ≠ 0 → askE n R k c 0 = e → C 0 e) (h2 : askE n R k c 0 = 0 → C (aftV n R k c) (aftE n R k c)) : C (afV n R k c) (afE n R k c) := by
  unfold afV afE
  by_cases h : askE n R k c 0 = 0
  · rw [if_pos h, if_pos h]; exact h2 h
  · rw [if_neg h, if_neg h]; exact h1 _ h rfl
theorem aft_no {R : Nat → Rl} {k n : Int} {m : Nat} (h : ¬ ((R m).1 = k ∧ 0 < nxc (R m) n)) : aft R k n (m + 1) = aft R k n m := by simp only [aft]; rw [if_neg h]
theorem aft_yes {R : Nat → Rl} {k n : Int} {m : Nat} (h : (R m).1 = k ∧ 0 < nxc (R m) n) : aft R k n (m + 1) = min (aft R k n m) (nxc (R m) n) := by simp only [aft]; rw [if_pos h]
section
variable {w : World} {a : Option Addr} {n c : Nat} {R : Nat → Rl}
set_option maxRecDepth 100000 in
set_option maxHeartbeats 1600000 in
theorem After_ok (hS : SlR w a n R) (hn : n ≤ 9223372036854775807) (q m : Int) :
    Calls Tryd.prog 13 #[pV a n c, .int .i64 q, .int .i64 m] w fun e w' => e = .returned (.tuple #[.int .i64 (afV n R q m), .int .i64 (afE n R q m)]) ∧ Below w.heap.size w w' := by
  have b0 := below_box0 w (.cells #[.slice a n c] 24)
  have HS := Lib.hid (hS.below b0)
  have HC := Lib.hid (ask_ok (c := c) HS.out hn q m 0)
  have HB := Lib.hid b0
  clear b0 hS
  refine af_cases (C := fun v e => Calls Tryd.prog 13 #[pV a n c, .int .i64 q, .int .i64 m] w fun e' w' => e' = .returned (.tuple #[.int .i64 v, .int .i64 e]) ∧ Below w.heap.size w w') n R q m (fun e he ha => ?_) (fun ha => ?_)
  · have d1 := bne0_true he
    rw [ha] at HC
    clear ha he
    go_enter Tryd.func13, Tryd.ntmps13
    go_wp2_with fail
    refine HC.out.mono ?_
    rintro e' w1 ⟨rfl, b1⟩
    have HB1 := Lib.hid (below_tr HB.out b1)
    clear b1
    go_wp2
    go_ret2
    exact ⟨rfl, HB1.out⟩
  · obtain ⟨hp, _, _, hm0, hm1⟩ := askE_zero ha
    have HR := Lib.hid (pE_zero hp).2
    have hn50 := (pE_zero hp).1
    rw [ha] at HC
    clear ha hp
    go_enter Tryd.func13, Tryd.ntmps13
    go_wp2_with fail
    refine HC.out.mono ?_
    rintro e' w1 ⟨rfl, b1⟩
    have k0 : w1.cell? ⟨w.heap.size, 0, none⟩ = some (.slice a n c) := cell_later b1 (by simp [go_sem])
    have HB1 := Lib.hid (below_tr HB.out b1)
    have HS1 := Lib.hid (HS.out.below b1)
    clear b1
    go_wp2
    go_loopw [9, 23] (fun s i wr => ∃ (k : Nat) (y : Int), i = .int .i64 k ∧ k ≤ n ∧ s = .int .i64 y ∧ Hid (y = aft R q m k) ∧ Hid (Below w1.heap.size w1 wr)) (fun _ i _ => n - (intOf i).toNat)
    case atStart => exact ⟨0, _, rfl, Nat.zero_le _, rfl, Lib.hid rfl, Lib.hid (Below.refl _ _)⟩
    case round =>
      obtain ⟨k, y, rfl, hk, rfl, HY, HBr⟩ := hrel
      clear k0
      by_cases hlt : k < n
      · obtain ⟨b, o, rfl, g0, g1, g2, g3⟩ := (HS1.out.below HBr.out).at_ hlt
        have hbl := World.block_lt_of_cell? _ _ g0
        dsimp only at hbl
        have HCn := Lib.hid (fun W' => next_ok (R k) (HR.out k hlt) m W' hm0 hm1)
        obtain ⟨z, hz⟩ : ∃ z, nxc (R k) m = z := ⟨_, rfl⟩
        rw [hz] at HCn
        have HZ := Lib.hid hz
        clear hz
        by_cases hkq : (R k).1 = q
        · have d1 : ((R k).1 == q) = true := by simpa using hkq
          have HK := Lib.hid hkq
          clear hkq
          by_cases hz0 : 0 < z
          · have d2 : decide (0 < z) = true := by simpa using hz0
            go_wp2_with fail
            refine (HCn.out _).mono ?_
            rintro e' w2 ⟨rfl, b2⟩
            have HB2 := Lib.hid (HBr.out.trans (((below_box0 _ _).trans (b2.mono (by simp))).mono HBr.out.size))
            have e0 : w2.cell? ⟨wr.heap.size, 0, none⟩ = some (.int .i64 (R k).1) := cell_later b2 (by simp [go_sem])
            clear b2
            go_wp2
            go_roundw
            case rel => exact ⟨k + 1, _, by go_num, by omega, rfl, Lib.hid (by rw [aft_yes ⟨HK.out, by rw [HZ.out]; exact hz0⟩, HY.out, HZ.out]; split <;> omega), HB2⟩
            case measure => simp [intOf]; omega
          · have d2 : decide (0 < z) = false := by simpa using hz0
            go_wp2_with fail
            refine (HCn.out _).mono ?_
            rintro e' w2 ⟨rfl, b2⟩
            have HB2 := Lib.hid (HBr.out.trans (((below_box0 _ _).trans (b2.mono (by simp))).mono HBr.out.size))
            have e0 : w2.cell? ⟨wr.heap.size, 0, none⟩ = some (.int .i64 (R k).1) := cell_later b2 (by simp [go_sem])
            clear b2
            go_wp2
            go_roundw
            case rel => exact ⟨k + 1, y, by go_num, by omega, rfl, Lib.hid (by rw [aft_no (fun h => by have := h.2; rw [HZ.out] at this; omega), HY.out]), HB2⟩
            case measure => simp [intOf]; omega
        · have d1 : ((R k).1 == q) = false := by simpa using hkq
          have HK := Lib.hid hkq
          clear hkq
          go_wp2_with fail
          refine (HCn.out _).mono ?_
          rintro e' w2 ⟨rfl, b2⟩
          have HB2 := Lib.hid (HBr.out.trans (((below_box0 _ _).trans (b2.mono (by simp))).mono HBr.out.size))
          have e0 : w2.cell? ⟨wr.heap.size, 0, none⟩ = some (.int .i64 (R k).1) := cell_later b2 (by simp [go_sem])
          clear b2
          go_wp2
          go_roundw
          case rel => exact ⟨k + 1, y, by go_num, by omega, rfl, Lib.hid (by rw [aft_no (fun h => HK.out h.1), HY.out]), HB2⟩
          case measure => simp [intOf]; omega
      · obtain rfl : k = n := by omega
        have HB2 := Lib.hid (HB1.out.trans (HBr.out.mono HB1.out.size))
        have hV : aftV k R q m = if y ≤ 1000000 then y else 0 := by unfold aftV; rw [HY.out]
        have hE : aftE k R q m = if y ≤ 1000000 then 0 else 4 := by unfold aftE; rw [HY.out]
        by_cases hy : y ≤ 1000000
        · have d1 : decide (1000000 < y) = false := by simpa using hy
          rw [if_pos hy] at hV hE
          have HV := Lib.hid hV
          have HE := Lib.hid hE
          clear hV hE hy
          go_wp2
          go_ret2
          exact ⟨ret_two HV.out.symm HE.out.symm, HB2.out⟩
        · have d1 : decide (1000000 < y) = true := by simp; omega
          rw [if_neg hy] at hV hE
          have HV := Lib.hid hV
          have HE := Lib.hid hE
          clear hV hE hy
          go_wp2
          go_ret2
          exact ⟨ret_two HV.out.symm HE.out.symm, HB2.out⟩
end
end Go.Proofs.YtgbdhmdaefbglaaDoor
