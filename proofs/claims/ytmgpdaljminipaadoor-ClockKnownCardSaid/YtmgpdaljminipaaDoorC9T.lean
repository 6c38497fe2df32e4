/- Clocks: stamps: Old of the program. -/
import Derived.Test.YtmgpdaljminipaaDoorC9S
namespace Go.Proofs.YtmgpdaljminipaaDoor
open Go.RowKit Go.Sort Go.Joins Go.Shelf
attribute [local go_sem] cell_grow frozen_grow size_grow
attribute [local go_sem ↓] Go.wp_at_zero Go.wp_at_succ
section
variable {w : World} {a : Option Addr} {n c : Nat} {U : Nat → Int}
theorem inc_snoc (L : List Int) (z : Int) : inc (L ++ [z]) = inc L ++ [.int .i64 z] := by simp [inc]
set_option maxRecDepth 100000 in
set_option maxHeartbeats 3200000 in
theorem old_ok (hS : SlZ .i64 w a n U) (hn : n ≤ 9223372036854775807) (x t : Int) :
    Calls Tryd.prog 12 #[.agg #[.int .i64 x], .slice a n c, .int .i64 t] w (OldPost w n U x t) := by
  have b0 := below_box0 w (.cells #[.int .i64 x] 30)
  have HX0 : Hid ((w.alloc (.cells #[.int .i64 x] 30)).heap[w.heap.size]? = some (.cells #[.int .i64 x] 30 (0, 0))) := Lib.hid (heap_alloc_new w _)
  have HS0 := Lib.hid (hS.below b0)
  have HC := Lib.hid (containsS_ok (c := c) HS0.out hn x w.heap.size (by rw [cell_of_block HX0.out]; rfl))
  have HB0 := Lib.hid b0
  have HT1 := Lib.hid (isTime_ok x)
  have HT2 := Lib.hid (isTime_ok t)
  clear b0 hS
  rcases old_ways n U x t with ⟨e1, hE⟩ | ⟨e1, d2, hE⟩ | ⟨e1, d2, e3, hE⟩ | ⟨e1, d2, e3, e4, hE⟩ | ⟨e1, d2, e3, e4, hE, hn1⟩
  · rw [e1] at HT1
    have HE := Lib.hid hE
    clear e1 hE
    go_enter Tryd.func12, Tryd.ntmps12
    go_wp2_with (go_at_call 22; refine (HT1.out _).mono ?_; rintro e w1 ⟨rfl, rfl⟩)
    go_ret2
    exact OldPost.bad HE.out (by decide) HB0.out
  · rw [e1] at HT1
    have HE := Lib.hid hE
    clear e1 hE
    go_enter Tryd.func12, Tryd.ntmps12
    go_wp2_with (go_at_call 22; refine (HT1.out _).mono ?_; rintro e w1 ⟨rfl, rfl⟩)
    go_ret2
    exact OldPost.bad HE.out (by decide) HB0.out
  · rw [e1] at HT1
    rw [e3] at HT2
    have HE := Lib.hid hE
    clear e1 e3 hE
    go_enter Tryd.func12, Tryd.ntmps12
    go_wp2_with (go_at_call 22; first | ((with_reducible refine (HT1.out _).mono ?_); rintro e w1 ⟨rfl, rfl⟩) | ((with_reducible refine (HT2.out _).mono ?_); rintro e w1 ⟨rfl, rfl⟩))
    go_ret2
    exact OldPost.bad HE.out (by decide) HB0.out
  · rw [e1] at HT1
    rw [e3] at HT2
    rw [e4] at HC
    have HE := Lib.hid hE
    clear e1 e3 e4 hE
    go_enter Tryd.func12, Tryd.ntmps12
    go_wp2_with (first | (go_at_call 22; first | ((with_reducible refine (HT1.out _).mono ?_); rintro e w1 ⟨rfl, rfl⟩) | ((with_reducible refine (HT2.out _).mono ?_); rintro e w1 ⟨rfl, rfl⟩)) | (go_at_call 34; refine HC.out.mono ?_; rintro e w1 ⟨rfl, b1⟩; have HB1 := Lib.hid (below_tr HB0.out b1); clear b1))
    go_ret2
    exact OldPost.bad HE.out (by decide) HB1.out
  · have hx := tmB_yes.1 e1
    have ht := tmB_yes.1 e3
    have HAL := Lib.hid (fun j (hj : j < n) => anyB_all e4 hj)
    rw [e1] at HT1
    rw [e3] at HT2
    rw [e4] at HC
    have HE := Lib.hid hE
    obtain ⟨i0, hi0, hz0, hz1, hz2'⟩ := info_parts info_int
    clear e1 e3 e4 hE
    go_enter Tryd.func12, Tryd.ntmps12
    go_wp2_with (first | (go_at_call 22; first | ((with_reducible refine (HT1.out _).mono ?_); rintro e w1 ⟨rfl, rfl⟩) | ((with_reducible refine (HT2.out _).mono ?_); rintro e w1 ⟨rfl, rfl⟩)) | (go_at_call 34; refine HC.out.mono ?_; rintro e w1 ⟨rfl, b1⟩; have HB1 := Lib.hid (below_tr HB0.out b1); have HX1 := Lib.hid ((b1.block _ (blk_lt HX0.out)).trans HX0.out); have HS1 := Lib.hid (HS0.out.below b1); clear b1))
    clear HC HX0 HS0 HB0 HT1 HT2 d2
    go_loopw [8, 31] (fun o i wr => ∃ (k : Nat) (va : Option Addr) (vc : Nat) (L : List Int), i = .int .i64 k ∧ k ≤ n ∧ o = .slice va L.length vc ∧ Hid (L = oldL U x t k) ∧ Hid (wr.ownsRow w1.heap.size 3 1 (.slice va L.length vc) L.length (inc L)) ∧ Hid (Below w1.heap.size w1 wr)) (fun _ i _ => n - (intOf i).toNat)
    case atStart => exact ⟨0, none, 0, [], rfl, Nat.zero_le _, rfl, Lib.hid rfl, Lib.hid (World.ownsRow_nil _ _ _ _), Lib.hid (Below.refl _ _)⟩
    case round =>
      obtain ⟨k, va, vc, L, rfl, hk, rfl, HL, HO, HB⟩ := hrel
      by_cases hlt : k < n
      · obtain ⟨b, o, rfl, g0⟩ := (HS1.out.below HB.out).at_ hlt
        have hbl := World.block_lt_of_cell? _ _ g0
        dsimp only at hbl
        have hu := HAL.out k hlt
        have h1 : oldL U x t (k + 1) = if U k ≤ x - t then oldL U x t k ++ [(k : Int)] else oldL U x t k := rfl
        rw [← HL.out] at h1
        have hll : L.length ≤ k := by rw [HL.out]; exact oldL_len U x t k
        obtain ⟨y, hy⟩ : ∃ y, U k = y := ⟨_, rfl⟩
        rw [hy] at g0 hu h1
        have HXr := Lib.hid ((HB.out.block _ (blk_lt HX1.out)).trans HX1.out)
        have k0 : wr.cell? ⟨w.heap.size, 0, none⟩ = some (.int .i64 x) := by rw [cell_of_block HXr.out]; rfl
        have l0 := blk_lt HXr.out
        have hwr : IntKind.i64.wrap (x - t) = x - t := IntWalk.i64_in _ (by omega)
        clear hy
        by_cases hc : y ≤ x - t
        · rw [if_pos hc] at h1
          have H1 := Lib.hid h1
          have d1 : decide (y ≤ x - t) = true := by simpa using hc
          have hlt0 := HB.out.size
          clear h1 hc
          go_wp2_with (at_builtin; refine wpList_append_own _ rfl (.tmp 42) (.tmp 44) 34 rfl w1.heap.size 3 i0 (.int .i64 0) 1 8 Tryd.underlying34 hi0 hz0 hz1 hz2' rfl (by decide) _ _ _ rfl (HO.out.alloc _) ⟨wr.heap.size, 0, none⟩ 1 1 [.int .i64 (k : Int)] rfl rfl ?c1 ?c2 ?c3 ?c4 ?c5 ?_)
          case c1 => intro j q hq; match j with | 0 => (simp at hq; subst hq; simp [go_sem]) | j + 1 => simp at hq
          case c2 => intro q hq; simp at hq; subst hq; rfl
          case c3 => unfold maxLen; omega
          case c4 => omega
          case c5 => first | omega | (simp; omega)
          intro v' w3 hown hg _
          obtain ⟨va', vc', rfl⟩ := own_slice' hown
          have hB1 := Lib.hid ((HB.out.alloc HB.out.size (.cells #[.int .i64 (k : Int)] 3)).grown hg (by simp; omega) (by intro r hr; exact (HO.out.lt r hr).1))
          have HW : Hid (w3.ownsRow w1.heap.size 3 1 (.slice va' (L ++ [(k : Int)]).length vc') (L ++ [(k : Int)]).length (inc (L ++ [(k : Int)]))) := Lib.hid (by rw [inc_snoc, List.length_append, List.length_singleton]; exact hown)
          clear hown hg
          go_wp2
          go_roundw
          case rel => exact ⟨k + 1, va', vc', L ++ [(k : Int)], by go_num, by omega, by rw [List.length_append, List.length_singleton], Lib.hid H1.out.symm, HW, hB1⟩
          case measure => simp [intOf]; omega
        · rw [if_neg hc] at h1
          have H1 := Lib.hid h1
          have d1 : decide (y ≤ x - t) = false := by simpa using hc
          clear h1 hc
          go_wp2
          go_roundw
          case rel => exact ⟨k + 1, va, vc, L, by go_num, by omega, rfl, Lib.hid H1.out.symm, HO, HB⟩
          case measure => simp [intOf]; omega
      · obtain rfl : k = n := by omega
        go_wp2
        go_ret2
        exact OldPost.good HE.out HL.out (slz_own HO.out) (HB1.out.trans (HB.out.mono HB1.out.size))
end
end Go.Proofs.YtmgpdaljminipaaDoor
