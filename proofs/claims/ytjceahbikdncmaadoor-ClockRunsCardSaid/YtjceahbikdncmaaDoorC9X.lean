/- Clocks: the reference's first. -/
import Derived.Test.YtjceahbikdncmaaDoorC9W
namespace Go.Proofs.YtjceahbikdncmaaDoor
open Go.RowKit Go.Sort Go.Joins Go.Shelf
attribute [local go_sem] cell_grow frozen_grow size_grow Oper.semAt_some
section
variable {w : World} {a : Option Addr} {n c : Nat} {R : Nat → Al}
/-- the times of a plan's alarms -/
abbrev tmsA (R : Nat → Al) (j : Nat) : Int := (R j).2.1
theorem fbst_ways {A : Nat → Int} {k : Nat} (h0 : ∀ j, j ≤ k → 0 ≤ A j) :
    (bst A k = -1 ∧ bst A (k + 1) = k) ∨ ∃ b : Nat, b < k ∧ bst A k = b ∧ ((A k < A b ∧ bst A (k + 1) = k) ∨ (¬ A k < A b ∧ bst A (k + 1) = b)) := by
  have e : bst A (k + 1) = if 0 ≤ A k ∧ (bst A k < 0 ∨ A k < A (bst A k).toNat) then (k : Int) else bst A k := rfl
  rcases bst_spec A k with ⟨h, _⟩ | ⟨b, h, hb, _⟩
  · left
    rw [e, h]
    exact ⟨rfl, if_pos ⟨h0 k (Nat.le_refl _), .inl (by decide)⟩⟩
  · right
    refine ⟨b, hb, h, ?_⟩
    rw [e, h]
    have ht : ((b : Int)).toNat = b := Int.toNat_natCast b
    rw [ht]
    by_cases hc : A k < A b
    · exact .inl ⟨hc, if_pos ⟨h0 k (Nat.le_refl _), .inr hc⟩⟩
    · refine .inr ⟨hc, if_neg ?_⟩
      rintro ⟨_, h1 | h1⟩
      · omega
      · exact hc h1
set_option maxRecDepth 100000 in
set_option maxHeartbeats 1600000 in
theorem rfirst_ok (hS : SlA w a n R) (hn : n ≤ 9223372036854775807) (h0 : ∀ j, j < n → 0 ≤ (R j).2.1) :
    Calls Tryd.prog 36 #[pV a n c] w fun e w' => e = .returned (.int .i64 (bst (tmsA R) n)) ∧ Below w.heap.size w w' := by
  have b0 := below_box0 w (.cells #[.slice a n c] 24)
  have HB0 := Lib.hid b0
  have HS := Lib.hid (hS.below b0)
  have HX0 : Hid (BoxA (w.alloc (.cells #[.slice a n c] 24)) w.heap.size a n c) := Lib.hid (heap_alloc_new w _)
  have H0 := Lib.hid h0
  clear hS b0 h0
  go_enter Tryd.func36, Tryd.ntmps36
  go_wp2
  obtain ⟨w1, hw1⟩ : ∃ W, w.alloc (.cells #[.slice a n c] 24) = W := ⟨_, rfl⟩
  rw [hw1] at HB0 HX0 HS ⊢
  clear hw1
  go_loopw [3, 4] (fun o i wr => ∃ (k : Nat) (y : Int), i = .int .i64 k ∧ k ≤ n ∧ o = .int .i64 y ∧ Hid (y = bst (tmsA R) k) ∧ Hid (Below w1.heap.size w1 wr)) (fun _ i _ => n - (intOf i).toNat)
  case atStart => exact ⟨0, -1, rfl, Nat.zero_le _, rfl, Lib.hid rfl, Lib.hid (Below.refl _ _)⟩
  case round =>
    obtain ⟨k, y, rfl, hk, rfl, HY, HB⟩ := hrel
    have HXr := Lib.hid ((HB.out.block _ (blk_lt HX0.out)).trans HX0.out)
    have k0 : wr.cell? ⟨w.heap.size, 0, none⟩ = some (.slice a n c) := by rw [cell_of_block HXr.out]; rfl
    have l0 := blk_lt HXr.out
    by_cases hlt : k < n
    · have hw := fbst_ways (A := tmsA R) (k := k) (fun j hj => H0.out j (by omega))
      rw [← HY.out] at hw
      obtain ⟨b, o, rfl, g0, g1, g2⟩ := (HS.out.below HB.out).at_ hlt
      have hbl := World.block_lt_of_cell? _ _ g0
      dsimp only at hbl
      have hki : (k : Int) < (n : Int) := by omega
      have hk0 : (0 : Int) ≤ (k : Int) := by omega
      rcases hw with ⟨rfl, hb⟩ | ⟨m, hm, rfl, ⟨hc, hb⟩ | ⟨hc, hb⟩⟩
      · have HBb := Lib.hid hb
        clear hb g0 g1 g2 hbl
        go_wp2_with fail
        go_quiet (fail)
        go_wp2
        go_roundw
        case rel => exact ⟨k + 1, k, by go_num, by omega, rfl, Lib.hid HBb.out.symm, Lib.hid (HB.out.trans ((below_draw _ _).mono HB.out.size))⟩
        case measure => simp [intOf]; omega
      all_goals
        obtain ⟨b', o', hbb, f0, f1, f2⟩ := (HS.out.below HB.out).at_ (show m < n by omega)
        obtain ⟨rfl, rfl⟩ : b = b' ∧ o = o' := by simpa using hbb
        have HBb := Lib.hid hb
        have hmi : (m : Int) < (n : Int) := by omega
        have hm0 : (0 : Int) ≤ (m : Int) := by omega
        have d0 : decide ((m : Int) < 0) = false := decide_eq_false (by omega)
        first
          | (have d1 : decide (tmsA R k < tmsA R m) = true := decide_eq_true hc)
          | (have d1 : decide (tmsA R k < tmsA R m) = false := decide_eq_false hc)
        clear hb hbb g0 g2 f0 f2 hc
        go_wp2_with fail
        go_quiet (fail)
        go_wp2
        go_roundw
        case rel => exact ⟨k + 1, _, by go_num, by omega, rfl, Lib.hid HBb.out.symm, Lib.hid (HB.out.trans ((below_draw _ _).mono HB.out.size))⟩
        case measure => simp [intOf]; omega
    · obtain rfl : k = n := by omega
      go_wp2
      go_ret
      exact ⟨ret_i64 HY.out, HB0.out.trans (HB.out.mono HB0.out.size)⟩
end
end Go.Proofs.YtjceahbikdncmaaDoor
