/- Refusals: After: program and reference; Hits of the reference. -/
import Derived.Test.YtpjhedkloljpjaaDoorRRR5D
import Derived.Test.YtpjhedkloljpjaaDoorRRR5PlainG
namespace Go.Proofs.YtpjhedkloljpjaaDoorRR
open Go.RowKit Go.Sort Go.Joins Go.Shelf
attribute [local go_sem] cell_grow frozen_grow size_grow

/-- what After answers, of any question -/
def afV (n : Nat) (R : Nat → Rl) (k c : Int) : Int := if askE n R k c 0 = 0 then aftV n R k c else 0
def afE (n : Nat) (R : Nat → Rl) (k c : Int) : Int := if askE n R k c 0 = 0 then aftE n R k c else askE n R k c 0
theorem af_cases {C : Int → Int → Prop} (n : Nat) (R : Nat → Rl) (k c : Int) (h1 : ∀ e, e ≠ 0 → askE n R k c 0 = e → C 0 e) (h2 : askE n R k c 0 = 0 → C (aftV n R k c) (aftE n R k c)) : C (afV n R k c) (afE n R k c) := by
  unfold afV afE
  by_cases h : askE n R k c 0 = 0
  · rw [if_pos h, if_pos h]; exact h2 h
  · rw [if_neg h, if_neg h]; exact h1 _ h rfl
theorem aft_no {R : Nat → Rl} {k n : Int} {m : Nat} (h : ¬ ((R m).1 = k ∧ 0 < nxc (R m) n)) : aft R k n (m + 1) = aft R k n m := by simp only [aft]; rw [if_neg h]
theorem aft_yes {R : Nat → Rl} {k n : Int} {m : Nat} (h : (R m).1 = k ∧ 0 < nxc (R m) n) : aft R k n (m + 1) = min (aft R k n m) (nxc (R m) n) := by simp only [aft]; rw [if_pos h]
section
variable {w : World} {a : Option Addr} {n c : Nat} {R : Nat → Rl}
set_option maxRecDepth 100000 in
set_option maxHeartbeats 1600000 in
theorem After_ok (hS : SlR w a n R) (hn : n ≤ 9223372036854775807) (q m : Int) :
    Calls Tryd.prog 16 #[pV a n c, .int .i64 q, .int .i64 m] w fun e w' => e = .returned (.tuple #[.int .i64 (afV n R q m), .int .i64 (afE n R q m)]) ∧ Below w.heap.size w w' := by
  have b0 := below_box0 w (.cells #[.slice a n c] 24)
  have HS := Lib.hid (hS.below b0)
  have HC := Lib.hid (ask_ok (c := c) HS.out hn q m 0)
  have HB := Lib.hid b0
  clear b0 hS
  refine af_cases (C := fun v e => Calls Tryd.prog 16 #[pV a n c, .int .i64 q, .int .i64 m] w fun e' w' => e' = .returned (.tuple #[.int .i64 v, .int .i64 e]) ∧ Below w.heap.size w w') n R q m (fun e he ha => ?_) (fun ha => ?_)
  · have d1 := bne0_true he
    rw [ha] at HC
    clear ha he
    go_enter Tryd.func16, Tryd.ntmps16
    go_wp2_with fail
    refine HC.out.mono ?_
    rintro e' w1 ⟨rfl, b1⟩
    have HB1 := Lib.hid (below_tr HB.out b1)
    clear b1
    go_wp2
    go_ret2
    exact ⟨rfl, HB1.out⟩
  · obtain ⟨hp, _, _, hm0, hm1⟩ := askE_zero ha
    have HR := Lib.hid (pE_zero hp).2
    have hn50 := (pE_zero hp).1
    rw [ha] at HC
    clear ha hp
    go_enter Tryd.func16, Tryd.ntmps16
    go_wp2_with fail
    refine HC.out.mono ?_
    rintro e' w1 ⟨rfl, b1⟩
    have k0 : w1.cell? ⟨w.heap.size, 0, none⟩ = some (.slice a n c) := cell_later b1 (by simp [go_sem])
    have HB1 := Lib.hid (below_tr HB.out b1)
    have HS1 := Lib.hid (HS.out.below b1)
    clear b1
    go_wp2
    go_loopw [9, 23] (fun s i wr => ∃ (k : Nat) (y : Int), i = .int .i64 k ∧ k ≤ n ∧ s = .int .i64 y ∧ Hid (y = aft R q m k) ∧ Hid (Below w1.heap.size w1 wr)) (fun _ i _ => n - (intOf i).toNat)
    case atStart => exact ⟨0, _, rfl, Nat.zero_le _, rfl, Lib.hid rfl, Lib.hid (Below.refl _ _)⟩
    case round =>
      obtain ⟨k, y, rfl, hk, rfl, HY, HBr⟩ := hrel
      clear k0
      by_cases hlt : k < n
      · obtain ⟨b, o, rfl, g0, g1, g2, g3⟩ := (HS1.out.below HBr.out).at_ hlt
        have hbl := World.block_lt_of_cell? _ _ g0
        dsimp only at hbl
        have HCn := Lib.hid (fun W' => next_ok (R k) (HR.out k hlt) m W' hm0 hm1)
        obtain ⟨z, hz⟩ : ∃ z, nxc (R k) m = z := ⟨_, rfl⟩
        rw [hz] at HCn
        have HZ := Lib.hid hz
        clear hz
        by_cases hkq : (R k).1 = q
        · have d1 : ((R k).1 == q) = true := by simpa using hkq
          have HK := Lib.hid hkq
          clear hkq
          by_cases hz0 : 0 < z
          · have d2 : decide (0 < z) = true := by simpa using hz0
            go_wp2_with fail
            refine (HCn.out _).mono ?_
            rintro e' w2 ⟨rfl, b2⟩
            have HB2 := Lib.hid (HBr.out.trans (((below_box0 _ _).trans (b2.mono (by simp))).mono HBr.out.size))
            have e0 : w2.cell? ⟨wr.heap.size, 0, none⟩ = some (.int .i64 (R k).1) := cell_later b2 (by simp [go_sem])
            clear b2
            go_wp2
            go_roundw
            case rel => exact ⟨k + 1, _, by go_num, by omega, rfl, Lib.hid (by rw [aft_yes ⟨HK.out, by rw [HZ.out]; exact hz0⟩, HY.out, HZ.out]; split <;> omega), HB2⟩
            case measure => simp [intOf]; omega
          · have d2 : decide (0 < z) = false := by simpa using hz0
            go_wp2_with fail
            refine (HCn.out _).mono ?_
            rintro e' w2 ⟨rfl, b2⟩
            have HB2 := Lib.hid (HBr.out.trans (((below_box0 _ _).trans (b2.mono (by simp))).mono HBr.out.size))
            have e0 : w2.cell? ⟨wr.heap.size, 0, none⟩ = some (.int .i64 (R k).1) := cell_later b2 (by simp [go_sem])
            clear b2
            go_wp2
            go_roundw
            case rel => exact ⟨k + 1, y, by go_num, by omega, rfl, Lib.hid (by rw [aft_no (fun h => by have := h.2; rw [HZ.out] at this; omega), HY.out]), HB2⟩
            case measure => simp [intOf]; omega
        · have d1 : ((R k).1 == q) = false := by simpa using hkq
          have HK := Lib.hid hkq
          clear hkq
          go_wp2_with fail
          refine (HCn.out _).mono ?_
          rintro e' w2 ⟨rfl, b2⟩
          have HB2 := Lib.hid (HBr.out.trans (((below_box0 _ _).trans (b2.mono (by simp))).mono HBr.out.size))
          have e0 : w2.cell? ⟨wr.heap.size, 0, none⟩ = some (.int .i64 (R k).1) := cell_later b2 (by simp [go_sem])
          clear b2
          go_wp2
          go_roundw
          case rel => exact ⟨k + 1, y, by go_num, by omega, rfl, Lib.hid (by rw [aft_no (fun h => HK.out h.1), HY.out]), HB2⟩
          case measure => simp [intOf]; omega
      · obtain rfl : k = n := by omega
        have HB2 := Lib.hid (HB1.out.trans (HBr.out.mono HB1.out.size))
        have hV : aftV k R q m = if y ≤ 1000000 then y else 0 := by unfold aftV; rw [HY.out]
        have hE : aftE k R q m = if y ≤ 1000000 then 0 else 4 := by unfold aftE; rw [HY.out]
        by_cases hy : y ≤ 1000000
        · have d1 : decide (1000000 < y) = false := by simpa using hy
          rw [if_pos hy] at hV hE
          have HV := Lib.hid hV
          have HE := Lib.hid hE
          clear hV hE hy
          go_wp2
          go_ret2
          exact ⟨ret_two HV.out.symm HE.out.symm, HB2.out⟩
        · have d1 : decide (1000000 < y) = true := by simp; omega
          rw [if_neg hy] at hV hE
          have HV := Lib.hid hV
          have HE := Lib.hid hE
          clear hV hE hy
          go_wp2
          go_ret2
          exact ⟨ret_two HV.out.symm HE.out.symm, HB2.out⟩
set_option maxRecDepth 100000 in
set_option maxHeartbeats 1600000 in
theorem rAfter_ok (hS : SlR w a n R) (hn : n ≤ 9223372036854775807) (q m : Int) :
    Calls Tryd.prog 17 #[pV a n c, .int .i64 q, .int .i64 m] w fun e w' => e = .returned (.tuple #[.int .i64 (afV n R q m), .int .i64 (afE n R q m)]) ∧ Below w.heap.size w w' := by
  have b0 := below_box0 w (.cells #[.slice a n c] 24)
  have HS := Lib.hid (hS.below b0)
  have HC := Lib.hid (asked_ok (c := c) HS.out hn q m 0)
  have HB := Lib.hid b0
  clear b0 hS
  refine af_cases (C := fun v e => Calls Tryd.prog 17 #[pV a n c, .int .i64 q, .int .i64 m] w fun e' w' => e' = .returned (.tuple #[.int .i64 v, .int .i64 e]) ∧ Below w.heap.size w w') n R q m (fun e he ha => ?_) (fun ha => ?_)
  · have d1 := bne0_true he
    rw [ha] at HC
    clear ha he
    go_enter Tryd.func17, Tryd.ntmps17
    go_wp2_with fail
    refine HC.out.mono ?_
    rintro e' w1 ⟨rfl, b1⟩
    have HB1 := Lib.hid (below_tr HB.out b1)
    clear b1
    go_wp2
    go_ret2
    exact ⟨rfl, HB1.out⟩
  · obtain ⟨hp, _, _, hm0, hm1⟩ := askE_zero ha
    have HR := Lib.hid (pE_zero hp).2
    rw [ha] at HC
    clear ha hp
    go_enter Tryd.func17, Tryd.ntmps17
    go_wp2_with fail
    refine HC.out.mono ?_
    rintro e' w1 ⟨rfl, b1⟩
    have k0 : w1.cell? ⟨w.heap.size, 0, none⟩ = some (.slice a n c) := cell_later b1 (by simp [go_sem])
    have hl0 := World.block_lt_of_cell? _ _ k0
    have HB1 := Lib.hid (below_tr HB.out b1)
    have HS1 := Lib.hid (HS.out.below b1)
    clear b1
    go_wp2
    go_loopw [9] (fun s wr => ∃ d : Int, s = .int .i64 d ∧ m < d ∧ d ≤ 1000001 ∧ Hid (∀ x, m < x → x < d → rfP n R q x = false) ∧ Hid (Below w1.heap.size w1 wr)) (fun s _ => (1000001 - intOf s).toNat)
    case atStart => exact ⟨m + 1, rfl, by omega, by omega, Lib.hid (fun x h1 h2 => by omega), Lib.hid (Below.refl _ _)⟩
    case round =>
      obtain ⟨d, rfl, hd0, hd1, HA, HBr⟩ := hrel
      have k1 : wr.cell? ⟨w.heap.size, 0, none⟩ = some (.slice a n c) := cell_later HBr.out k0
      clear k0
      by_cases hlt : d ≤ 1000000
      · have dl : decide (d ≤ 1000000) = true := by simpa using hlt
        have HCr := Lib.hid (rrefused_ok (c := c) (HS1.out.below HBr.out) hn HR.out q d (by omega) hlt)
        cases hr : rfP n R q d
        all_goals
          rw [hr] at HCr
          have HE := Lib.hid hr
          clear hr
          go_wp2_with fail
          refine HCr.out.mono ?_
          rintro e' w2 ⟨rfl, b2⟩
          have HB2 := Lib.hid (HBr.out.trans (b2.mono HBr.out.size))
          clear b2
        · go_wp2
          go_roundw
          case rel => exact ⟨d + 1, by go_num, by omega, by omega, Lib.hid (fun x h1 h2 => by
            by_cases ex : x = d
            · rw [ex]; exact HE.out
            · exact HA.out x h1 (by omega)), HB2⟩
          case measure => simp [intOf]; omega
        · go_wp2
          go_ret2
          have := aft_found HR.out hm1 hd0 hlt HE.out HA.out
          exact ⟨ret_two this.1 this.2, HB1.out.trans (HB2.out.mono HB1.out.size)⟩
      · have dl : decide (d ≤ 1000000) = false := by simpa using hlt
        go_wp2
        go_ret2
        have := aft_none HR.out hm1 (fun x h1 h2 => HA.out x h1 (by omega))
        exact ⟨ret_two this.1 this.2, HB1.out.trans (HBr.out.mono HB1.out.size)⟩
set_option maxRecDepth 100000 in
set_option maxHeartbeats 1600000 in
theorem rhits_ok (hS : SlR w a n R) (hn : n ≤ 9223372036854775807) (hR : ∀ i, i < n → RlOk (R i)) (q : Int) (m : Nat) (h1 : m ≤ 1000000) :
    Calls Tryd.prog 40 #[pV a n c, .int .i64 q, .int .i64 m] w fun e w' => e = .returned (.int .i64 (hitP n R q m : Nat)) ∧ Below w.heap.size w w' := by
  have HB0 := Lib.hid (below_box0 w (.cells #[.slice a n c] 24))
  have HS := Lib.hid (hS.below HB0.out)
  have HR := Lib.hid hR
  clear hS hR
  go_enter Tryd.func40, Tryd.ntmps40
  go_wp2
  obtain ⟨W, hW⟩ : ∃ W, w.alloc (.cells #[.slice a n c] 24) = W := ⟨_, rfl⟩
  have c0 : W.cell? ⟨w.heap.size, 0, none⟩ = some (.slice a n c) := by rw [← hW]; simp [go_sem]
  have hWz : w.heap.size < W.heap.size := by rw [← hW]; simp
  rw [hW] at HB0 HS ⊢
  clear hW
  go_loopw [7, 8] (fun s i wr => ∃ k y : Nat, i = .int .i64 (k + 1 : Nat) ∧ k ≤ m ∧ s = .int .i64 y ∧ y ≤ k ∧ Hid (y = hitP n R q k) ∧ Hid (Below W.heap.size W wr)) (fun _ i _ => m + 1 - (intOf i).toNat)
  case atStart => exact ⟨0, 0, rfl, Nat.zero_le _, rfl, Nat.le_refl _, Lib.hid (hit_zero _ _ _).symm, Lib.hid (Below.refl _ _)⟩
  case round =>
    obtain ⟨k, y, rfl, hk, rfl, hy, HY, HB⟩ := hrel
    have c1 : wr.cell? ⟨w.heap.size, 0, none⟩ = some (.slice a n c) := cell_later HB.out c0
    clear c0
    by_cases hlt : k < m
    · have dl : decide (((k + 1 : Nat) : Int) ≤ (m : Int)) = true := by simp; omega
      have dl2 : decide (k + 1 ≤ m) = true := by simp; omega
      have HCr := Lib.hid (rrefused_ok (c := c) (HS.out.below HB.out) hn HR.out q ((k + 1 : Nat) : Int) (by omega) (by omega))
      have hs := hit_succ n R q k
      cases hr : rfP n R q ((k + 1 : Nat) : Int)
      all_goals
        rw [hr] at HCr hs
        simp only [Bool.false_eq_true, ↓reduceIte] at hs
        have HSu := Lib.hid hs
        clear hr hs
        go_wp2_with fail
        refine HCr.out.mono ?_
        rintro e' w1 ⟨rfl, b1⟩
        have HB1 := Lib.hid (HB.out.trans (b1.mono HB.out.size))
        clear b1
        go_wp2
        go_roundw
      · exact ⟨k + 1, y, by go_num, by omega, rfl, by omega, Lib.hid (by rw [HSu.out, HY.out]; omega), HB1⟩
      · simp [intOf]; omega
      · exact ⟨k + 1, y + 1, by go_num, by omega, by go_num, by omega, Lib.hid (by rw [HSu.out, HY.out]), HB1⟩
      · simp [intOf]; omega
    · have dl : decide (((k + 1 : Nat) : Int) ≤ (m : Int)) = false := by simp; omega
      have dl2 : decide (k + 1 ≤ m) = false := by simp; omega
      obtain rfl : k = m := by omega
      go_wp2
      go_ret
      exact ⟨ret_i64 (by rw [HY.out]), HB0.out.trans (HB.out.mono HB0.out.size)⟩
end
end Go.Proofs.YtpjhedkloljpjaaDoorRR
