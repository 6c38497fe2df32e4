/- Clocks: the reference's Check. -/
import Derived.Test.YtjceahbikdncmaaDoorC9R
import Derived.BigGuard
namespace Go.Proofs.YtjceahbikdncmaaDoor
open Go.RowKit Go.Sort Go.Joins Go.Shelf
attribute [local go_sem] cell_grow frozen_grow size_grow Oper.semAt_some
section
variable {w : World} {a : Option Addr} {n c : Nat} {R : Nat → Al}
set_option maxRecDepth 100000 in
set_option maxHeartbeats 3200000 in
theorem rCheck_ok (hS : SlA w a n R) (hn : n ≤ 9223372036854775807) (hR : ∀ j, j < n → AlB (R j)) :
    Calls Tryd.prog 26 #[pV a n c] w fun e w' => e = .returned (.tuple #[.int .i64 (cI n R), .int .i64 (cE n R)]) ∧ Below w.heap.size w w' := by
  have b0 := below_box0 w (.cells #[.slice a n c] 24)
  have HB0 := Lib.hid b0
  by_cases hl : 50 < n
  · have d : decide ((50 : Int) < (n : Int)) = true := by simp; omega
    have HP := Lib.hid (c_long (R := R) hl)
    clear hS hl hR b0
    go_enter Tryd.func26, Tryd.ntmps26
    go_wp2
    go_ret2
    exact ⟨ret_two HP.out.1 HP.out.2, HB0.out⟩
  · have d : decide ((50 : Int) < (n : Int)) = false := by simp; omega
    have HL := Lib.hid hl
    have HS := Lib.hid (hS.below b0)
    have HR := Lib.hid hR
    have HX0 : Hid (BoxA (w.alloc (.cells #[.slice a n c] 24)) w.heap.size a n c) := Lib.hid (heap_alloc_new w _)
    clear hS hl hR b0
    go_enter Tryd.func26, Tryd.ntmps26
    go_wp2
    obtain ⟨w1, hw1⟩ : ∃ W, w.alloc (.cells #[.slice a n c] 24) = W := ⟨_, rfl⟩
    rw [hw1] at HB0 HX0 HS ⊢
    clear hw1
    go_loopw [4] (fun i wr => ∃ k : Nat, i = .int .i64 k ∧ k ≤ n ∧ Hid (Below w1.heap.size w1 wr) ∧ Hid (∀ j, j < k → erA R j = 0)) (fun i _ => n - (intOf i).toNat)
    case atStart => exact ⟨0, rfl, Nat.zero_le _, Lib.hid (Below.refl _ _), Lib.hid (fun j hj => by omega)⟩
    case round =>
      obtain ⟨k, rfl, hk, HB, HA⟩ := hrel
      have HXr := Lib.hid ((HB.out.block _ (blk_lt HX0.out)).trans HX0.out)
      have k0 : wr.cell? ⟨w.heap.size, 0, none⟩ = some (.slice a n c) := by rw [cell_of_block HXr.out]; rfl
      have l0 := blk_lt HXr.out
      by_cases hlt : k < n
      · have hml : maxLen ≤ 9223372036854775807 := by decide
        have HC := Lib.hid (ralarm_ok (R k) (Nat.le_trans (HR.out k hlt).1 hml))
        have hways := er_ways (R := R) (k := k) (fun h => (alE_zero h).1)
        obtain ⟨e, he⟩ : ∃ e, alE (R k) = e := ⟨_, rfl⟩
        rw [he] at HC hways
        have HLT := Lib.hid hlt
        have key : ∀ (W' : World), Below wr.heap.size wr W' → BoxA W' w.heap.size a n c ∧ SlA W' a n R ∧ Below w1.heap.size w1 W' := fun W' hb => ⟨(hb.block _ (blk_lt HXr.out)).trans HXr.out, (HS.out.below HB.out).below hb, below_tr HB.out hb⟩
        have KEY := Lib.hid key
        obtain ⟨b, o, rfl, g0, g1, g2⟩ := (HS.out.below HB.out).at_ hlt
        have hbl := World.block_lt_of_cell? _ _ g0
        dsimp only at hbl
        clear he hml key
        by_cases h0 : e = 0
        · subst h0
          rcases Nat.eq_zero_or_pos k with hz | hz
          · subst hz
            have her : erA R 0 = 0 := by
              rcases hways with ⟨h, _⟩ | ⟨_, _, h, _⟩ | ⟨_, _, _, h, _⟩ | ⟨_, _, _, h⟩
              · exact absurd rfl h
              · omega
              · omega
              · exact h
            have HER := Lib.hid her
            rw [show ((0 : Nat) : Int) = 0 from rfl]
            rw [Nat.zero_mul, Nat.add_zero] at g0 g1 g2
            clear hways her
            go_wp2_with fail
            refine (HC.out _).mono ?_
            rintro e' w2 ⟨rfl, b2⟩
            have HB2 := Lib.hid (KEY.out _ b2).2.2
            clear b2 k0 l0 g0 g1 g2 hbl
            go_wp2_with fail
            go_quiet (fail)
            go_wp2_with fail
            go_quiet (fail)
            go_wp2
            go_roundw
            case rel => exact ⟨1, by go_num, by omega, Lib.hid (HB2.out.trans ((below_draw _ _).mono HB2.out.size)), Lib.hid (fun j hj => by
              obtain rfl : j = 0 := by omega
              exact HER.out)⟩
            case measure => simp [intOf]; omega
          · obtain ⟨m, rfl⟩ : ∃ m, k = m + 1 := ⟨k - 1, by omega⟩
            have hln : lastN R (m + 1) = (R m).1 := by unfold lastN; rw [if_neg (by omega), Nat.add_sub_cancel]
            rw [hln] at hways
            have hX : ((m + 1 : Nat) : Int) = (m : Int) + 1 := by simp
            have hX2 : (m : Int) + 1 - 1 = (m : Int) := by omega
            have hm0 : (0 : Int) ≤ (m : Int) := by omega
            have hm1 : (m : Int) + 1 < (n : Int) := by omega
            have hm2 : (m : Int) < (n : Int) := by omega
            have hm3 : (0 : Int) ≤ (m : Int) + 1 := by omega
            have hm4 : decide ((0 : Int) < (m : Int) + 1) = true := decide_eq_true (by omega)
            rw [hX]
            rcases hways with ⟨h, _⟩ | ⟨_, q1, _, her⟩ | ⟨_, q1, q2, _, her⟩ | ⟨_, q1, q2, her⟩
            · exact absurd rfl h
            all_goals
              have HER := Lib.hid her
              clear her hln hz
              go_wp2_with fail
              refine (HC.out _).mono ?_
              rintro e' w2 ⟨rfl, b2⟩
              have HB2 := Lib.hid (KEY.out _ b2).2.2
              have k0 : w2.cell? ⟨w.heap.size, 0, none⟩ = some (.slice (some ⟨b, o, none⟩) n c) := by rw [cell_of_block (KEY.out _ b2).1]; rfl
              obtain ⟨b', o', hbb, f0, f1, f2⟩ := (KEY.out _ b2).2.1.at_ hlt
              obtain ⟨rfl, rfl⟩ : b = b' ∧ o = o' := by simpa using hbb
              obtain ⟨b', o', hbb, f0', f1', f2'⟩ := (KEY.out _ b2).2.1.at_ (show m < n by omega)
              obtain ⟨rfl, rfl⟩ : b = b' ∧ o = o' := by simpa using hbb
              clear b2 g0 g1 g2 hbl hbb
              go_wp2_with fail
              go_quiet (fail)
              go_wp2_with fail
              go_quiet (fail)
              go_wp2
              first
                | (go_roundw
                   case rel => exact ⟨m + 1 + 1, by go_num, by omega, Lib.hid (HB2.out.trans ((below_draw _ _).mono HB2.out.size)), Lib.hid (fun j hj => by
                     by_cases ej : j = m + 1
                     · rw [ej]; exact HER.out
                     · exact HA.out j (by omega))⟩
                   case measure => simp [intOf]; omega)
                | (go_ret2
                   have := c_bad HL.out HLT.out (by rw [HER.out]; decide) HA.out
                   exact ⟨ret_two (by rw [← this.1]; simp) (by rw [← this.2, HER.out]), HB0.out.trans ((HB2.out.trans ((below_draw _ _).mono HB2.out.size)).mono HB0.out.size)⟩)
        · have her : erA R k = e := by
            rcases hways with ⟨_, h⟩ | ⟨h, _⟩ | ⟨h, _⟩ | ⟨h, _⟩
            · exact h
            all_goals exact absurd h h0
          have d0 : (e != 0) = true := bne0_true h0
          have d1 : (e == 0) = false := by simpa using h0
          have HER := Lib.hid her
          have H0 := Lib.hid h0
          clear hways her h0
          go_wp2_with fail
          refine (HC.out _).mono ?_
          rintro e' w2 ⟨rfl, b2⟩
          have HB2 := Lib.hid (KEY.out _ b2).2.2
          clear b2 k0 l0 g0 g1 g2 hbl
          go_wp2_with fail
          go_quiet (fail)
          go_wp2_with fail
          go_quiet (fail)
          go_wp2
          go_ret2
          have := c_bad HL.out HLT.out (by rw [HER.out]; exact H0.out) HA.out
          exact ⟨ret_two this.1 (by rw [← this.2, HER.out]), HB0.out.trans ((HB2.out.trans ((below_draw _ _).mono HB2.out.size)).mono HB0.out.size)⟩
      · obtain rfl : k = n := by omega
        go_wp2
        go_ret2
        have := c_good HL.out HA.out
        exact ⟨ret_two this.1 this.2, HB0.out.trans (HB.out.mono HB0.out.size)⟩
end
end Go.Proofs.YtjceahbikdncmaaDoor
