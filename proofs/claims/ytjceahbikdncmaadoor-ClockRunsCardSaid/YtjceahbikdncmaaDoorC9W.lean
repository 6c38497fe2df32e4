/- Clocks: the reference's Count. -/
import Derived.Test.YtjceahbikdncmaaDoorC9V
namespace Go.Proofs.YtjceahbikdncmaaDoor
open Go.RowKit Go.Sort Go.Joins
attribute [local go_sem] cell_grow frozen_grow size_grow
section
variable {w : World} {a : Option Addr} {n c : Nat} {R : Nat → Al}
set_option maxRecDepth 100000 in
set_option maxHeartbeats 3200000 in
theorem rCount_ok (hS : SlA w a n R) (hn : n ≤ 9223372036854775807) (hR : ∀ j, j < n → AlB (R j)) (u : Int) :
    Calls Tryd.prog 14 #[pV a n c, .int .i64 u] w fun e w' => e = .returned (.tuple #[.int .i64 (ctV n R u), .int .i64 (ctE n R u)]) ∧ Below w.heap.size w w' := by
  have b0 := below_box0 w (.cells #[.slice a n c] 24)
  have HB0 := Lib.hid b0
  have HS := Lib.hid (hS.below b0)
  have HC := Lib.hid (rCheck_ok (c := c) HS.out hn hR)
  have HT := Lib.hid (rtime_ok u)
  have HX0 : Hid (BoxA (w.alloc (.cells #[.slice a n c] 24)) w.heap.size a n c) := Lib.hid (heap_alloc_new w _)
  obtain ⟨p, hp⟩ : ∃ p, cE n R = p := ⟨_, rfl⟩
  clear b0 hS hR
  by_cases h0 : p = 0
  · subst h0
    cases ht : tmB u
    · have HV : Hid (ctV n R u = 0 ∧ ctE n R u = 7) := Lib.hid (by
        have he : ctE n R u = 7 := by unfold ctE; rw [if_neg (by simpa using hp), if_neg (by simp [ht])]
        exact ⟨by unfold ctV; rw [he, if_neg (by decide)], he⟩)
      rw [hp] at HC
      rw [ht] at HT
      clear hp ht
      go_enter Tryd.func14, Tryd.ntmps14
      go_wp2_with fail
      refine HC.out.mono ?_
      rintro e w1 ⟨rfl, b1⟩
      have HB1 := Lib.hid (below_tr HB0.out b1)
      clear b1
      go_wp2_with (go_at_call 35; refine (HT.out _).mono ?_; rintro e w2 ⟨rfl, rfl⟩)
      go_ret2
      exact ⟨ret_two HV.out.1.symm HV.out.2.symm, HB1.out⟩
    · have hu := tmB_yes.1 ht
      have hct := ctE_of hp hu.1 hu.2
      have HV : Hid (ctV n R u = sumA R u n ∧ ctE n R u = 0) := Lib.hid ⟨by unfold ctV; rw [if_pos hct], hct⟩
      have HO := Lib.hid (cE_zero hp)
      have hn50 := HO.out.n50
      obtain ⟨hu0, hu1⟩ := hu
      rw [hp] at HC
      rw [ht] at HT
      clear hp ht hct
      go_enter Tryd.func14, Tryd.ntmps14
      go_wp2_with fail
      refine HC.out.mono ?_
      rintro e w1 ⟨rfl, b1⟩
      have k0 : w1.cell? ⟨w.heap.size, 0, none⟩ = some (.slice a n c) := cell_later b1 (by simp [go_sem])
      have HB1 := Lib.hid (below_tr HB0.out b1)
      have HS1 := Lib.hid (HS.out.below b1)
      have HX1 := Lib.hid ((b1.block _ (blk_lt HX0.out)).trans HX0.out)
      clear b1
      go_wp2_with (go_at_call 35; refine (HT.out _).mono ?_; rintro e w2 ⟨rfl, rfl⟩)
      clear k0
      go_loopw [8, 9] (fun s i wr => ∃ k : Nat, ∃ y : Int, i = .int .i64 k ∧ k ≤ n ∧ s = .int .i64 y ∧ 0 ≤ y ∧ y ≤ 1000000000001 * (k : Int) ∧ Hid (y = sumA R u k) ∧ Hid (Below w1.heap.size w1 wr)) (fun _ i _ => n - (intOf i).toNat)
      case atStart => exact ⟨0, 0, rfl, Nat.zero_le _, rfl, Int.le_refl _, by simp, Lib.hid rfl, Lib.hid (Below.refl _ _)⟩
      case round =>
        obtain ⟨k, y, rfl, hk, rfl, hy0, hy1, HY, HB⟩ := hrel
        have HXr := Lib.hid ((HB.out.block _ (blk_lt HX1.out)).trans HX1.out)
        have k0 : wr.cell? ⟨w.heap.size, 0, none⟩ = some (.slice a n c) := by rw [cell_of_block HXr.out]; rfl
        have l0 := blk_lt HXr.out
        by_cases hlt : k < n
        · obtain ⟨b, o, rfl, g0, g1, g2⟩ := (HS1.out.below HB.out).at_ hlt
          have hbl := World.block_lt_of_cell? _ _ g0
          dsimp only at hbl
          have hal := HO.out.ok k hlt
          have a0 := hal.a0
          have a1 := hal.a1
          rw [MT_eq] at a1
          have hw := cnt_ways hal hu0 hu1
          have hs : sumA R u (k + 1) = y + cntA (R k).2 u := by rw [HY.out]; rfl
          have hge := cntA_ge hal (u := u) (by rw [MT_eq]; exact hu1)
          have HSu := Lib.hid (And.intro hs hge)
          clear hal hs hge
          rcases hw with ⟨d1, f1, hv⟩ | ⟨d1, f1, d2, f2, hv⟩ | ⟨q, d1, f1, d2, f2, d3, e1, e2, e3, e4, e5, e6, e7, hv⟩
          all_goals
            have HVa := Lib.hid hv
            clear hv
            go_wp2
            go_roundw
            case rel => exact ⟨k + 1, _, by go_num, by omega, rfl, by omega, by omega, Lib.hid (by have e1 := HSu.out.1; rw [HVa.out] at e1; omega), Lib.hid (HB.out.trans ((below_box0 _ _).mono HB.out.size))⟩
            case measure => simp [intOf]; omega
        · obtain rfl : k = n := by omega
          go_wp2
          go_ret2
          exact ⟨ret_two (by rw [HV.out.1, HY.out]) HV.out.2.symm, HB1.out.trans (HB.out.mono HB1.out.size)⟩
  · have d0 : (p != 0) = true := bne0_true h0
    have d1 : (p == 0) = false := by simpa using h0
    have HV : Hid (ctV n R u = 0 ∧ ctE n R u = p) := Lib.hid (by
      have he : ctE n R u = p := by unfold ctE; rw [if_pos (by rw [hp]; exact h0), hp]
      exact ⟨by unfold ctV; rw [he, if_neg h0], he⟩)
    rw [hp] at HC
    clear hp h0
    go_enter Tryd.func14, Tryd.ntmps14
    go_wp2_with fail
    refine HC.out.mono ?_
    rintro e w1 ⟨rfl, b1⟩
    have HB1 := Lib.hid (below_tr HB0.out b1)
    clear b1
    go_wp2
    go_ret2
    exact ⟨ret_two HV.out.1.symm HV.out.2.symm, HB1.out⟩
end
end Go.Proofs.YtjceahbikdncmaaDoor
