/- Clocks: ClockGreatest returns true. -/
import Derived.Test.YtjceahbikdncmaaDoorC9L
import Derived.Test.YtjceahbikdncmaaDoorSlZ
import Derived.Deep.RegionHeld3
import Derived.Deep.DrawnRows
namespace Go.Proofs.YtjceahbikdncmaaDoor
open Go.RowKit Go.Sort Go.Joins Go.Shelf
attribute [local go_sem] cell_grow frozen_grow size_grow
attribute [local go_sem ↓] Go.wp_at_zero Go.wp_at_succ
abbrev BoxC (W : World) (b : Nat) (y : Int) : Prop := W.heap[b]? = some (.cells #[.int .i64 y] 38 (0, 0))
theorem setE_bad {x t : Int} (h : tmB x = false) : setE x t = 2 := if_pos h
theorem setE_range {x t : Int} (h : tmB x = true) (k : tmB t = false) : setE x t = 7 ∧ setV x t = 0 := by
  have e : setE x t = 7 := by unfold setE; rw [if_neg (by simp [h]), if_pos k]
  exact ⟨e, by unfold setV; rw [e]; rfl⟩
theorem setE_good {x t : Int} (h : tmB x = true) (k : tmB t = true) : setE x t = 0 ∧ setV x t = max x t := by
  have e : setE x t = 0 := by unfold setE; rw [if_neg (by simp [h]), if_neg (by simp [k])]
  exact ⟨e, if_pos e⟩
theorem age_zero {x : Int} (h : tmB x = true) : ageE x 0 = 0 ∧ ageV x 0 = x := by
  have hb := tmB_yes.1 h
  have e : ageE x 0 = 0 := by unfold ageE; rw [if_neg (by simp [h]), if_neg (by omega)]
  exact ⟨e, by unfold ageV; rw [if_pos e]; omega⟩
set_option maxRecDepth 100000 in
set_option maxHeartbeats 3200000 in
theorem law_greatest (y0 : Int) (a : Option Addr) (m cu : Nat) (U : Nat → Int) (w : World) (hU : SlZ .i64 w a m U) (hm : m ≤ 9223372036854775807) (hub : ∀ j, j < m → -9223372036854775808 ≤ U j ∧ U j ≤ 9223372036854775807) (hT : T9 w) :
    Calls Tryd.prog 5 #[.agg #[.int .i64 y0], .slice a m cu] w fun e w' => e = .returned (.bool true) ∧ Below w.heap.size w w' := by
  have b0 := below_box0 w (.cells #[.int .i64 y0] 38)
  have HB0 := Lib.hid b0
  have HT := Lib.hid hT
  have HX0 : Hid (BoxC (w.alloc (.cells #[.int .i64 y0] 38)) w.heap.size y0) := Lib.hid (heap_alloc_new w _)
  by_cases h100 : 100 < m
  · have d1 : decide ((100 : Int) < (m : Int)) = true := by simp; omega
    clear b0 hU hub hT h100
    go_enter Tryd.func5, Tryd.ntmps5
    go_wp2_with fail
    refine (shown_ok _ (HT.out.below HB0.out)).mono ?_
    rintro e w1 ⟨rfl, b1⟩
    have HB1 := Lib.hid (below_tr HB0.out b1)
    clear b1
    go_wp2
    go_ret
    exact ⟨rfl, HB1.out⟩
  · have d1 : decide ((100 : Int) < (m : Int)) = false := by simp; omega
    cases hy : tmB y0 with
    | false =>
      have hn := tmB_no.1 hy
      have dd : decide (y0 < 0) = true ∨ (decide (y0 < 0) = false ∧ decide (1000000000000 < y0) = true) := by
        by_cases h : y0 < 0
        · exact .inl (by simpa using h)
        · exact .inr ⟨by simpa using h, by simp; omega⟩
      have HS := Lib.hid (set_ok y0 0)
      rw [setE_bad hy] at HS
      obtain ⟨v, hv⟩ : ∃ v, setV y0 0 = v := ⟨_, rfl⟩
      rw [hv] at HS
      clear b0 hU hub hT h100 hn hy hv
      rcases dd with d2 | ⟨d2, d3⟩
      all_goals
        go_enter Tryd.func5, Tryd.ntmps5
        go_wp2_with fail
        refine (HS.out _).mono ?_
        rintro e w1 ⟨rfl, b1⟩
        have b2 := below_box0 w1 (.cells #[.int .i64 v] 38)
        have HB1 := Lib.hid (below_tr (below_tr HB0.out b1) b2)
        clear b1 b2
        go_wp2_with fail
        refine (shown_ok _ (HT.out.below HB1.out)).mono ?_
        rintro e w2 ⟨rfl, b2⟩
        have HB2 := Lib.hid (below_tr HB1.out b2)
        clear b2
        go_wp2
        go_ret
        exact ⟨rfl, HB2.out⟩
    | true =>
      have hb := tmB_yes.1 hy
      have d2 : decide (y0 < 0) = false := by simp; omega
      have d3 : decide (1000000000000 < y0) = false := by simp; omega
      have HU := Lib.hid hU
      have HUB := Lib.hid hub
      have HY0 := Lib.hid hy
      clear b0 hU hub hT h100 hb hy
      go_enter Tryd.func5, Tryd.ntmps5
      go_wp2
      go_loopw [7, 8] (fun t i wr => ∃ (k : Nat) (y : Int), i = .int .i64 k ∧ k ≤ m ∧ t = .int .i64 y ∧ Hid (tmB y = true) ∧ Hid (BoxC wr w.heap.size y) ∧ Hid (Below w.heap.size w wr)) (fun _ i _ => m - (intOf i).toNat)
      case atStart => exact ⟨0, y0, rfl, Nat.zero_le _, rfl, HY0, HX0, HB0⟩
      case round =>
        clear HB0 HX0 HY0 d1 d2 d3
        obtain ⟨k, y, rfl, hk, rfl, HY, HX, HB⟩ := hrel
        by_cases hlt : k < m
        · obtain ⟨b, o, rfl, g0⟩ := (HU.out.below HB.out).at_ hlt
          have hub := HUB.out k hlt
          obtain ⟨t, ht⟩ : ∃ t, U k = t := ⟨_, rfl⟩
          rw [ht] at g0 hub
          clear ht
          have hyb := tmB_yes.1 HY.out
          have c0 : wr.cell? ⟨w.heap.size, 0, none⟩ = some (.int .i64 y) := by rw [cell_of_block HX.out]; rfl
          have hbl := World.block_lt_of_cell? _ _ g0
          have hwl := World.block_lt_of_cell? _ _ c0
          dsimp only at hbl hwl
          have hki : (k : Int) < (m : Int) := by omega
          have hk0 : (0 : Int) ≤ (k : Int) := by omega
          have HK : Hid (∀ w', Below wr.heap.size wr w' → w'.cell? ⟨w.heap.size, 0, none⟩ = some (.int .i64 y) ∧ w'.cell? ⟨b, o + k, none⟩ = some (.int .i64 t)) := Lib.hid (fun w' h => ⟨cell_later h c0, cell_later h g0⟩)
          have HG0 := Lib.hid g0
          have HS : Hid (∀ W' : World, Below wr.heap.size wr W' → _) := Lib.hid (fun W' (_ : Below wr.heap.size wr W') => set_ok y t W')
          have HA1 : Hid (Below wr.heap.size wr (wr.alloc (.cells #[.int .i64 0] 38)).drew) := Lib.hid (below_box0 wr _).drew
          have HA2 : Hid (Below wr.heap.size wr wr.drew) := Lib.hid (Below.refl _ _).drew
          have HA9 : Hid (∀ w4, Below (wr.alloc (.cells #[.int .i64 0] 38)).drew.heap.size (wr.alloc (.cells #[.int .i64 0] 38)).drew w4 → w4.heap[wr.heap.size]? = some (.cells #[.int .i64 0] 38 (0, 0))) := Lib.hid (fun w4 h => (h.block wr.heap.size (by show wr.heap.size < (wr.alloc (.cells #[.int .i64 0] 38)).heap.size; simp)).trans (heap_alloc_new wr _))
          cases ht : tmB t with
          | false =>
            have hn := tmB_no.1 ht
            have dd : decide (t < 0) = true ∨ (decide (t < 0) = false ∧ decide (1000000000000 < t) = true) := by
              by_cases h : t < 0
              · exact .inl (by simpa using h)
              · exact .inr ⟨by simpa using h, by simp; omega⟩
            rw [(setE_range HY.out ht).1, (setE_range HY.out ht).2] at HS
            clear hn ht
            go_wp2_with fail
            go_region_with (first
              | (go_at_call 17; (refine (HS.out ((wr.alloc (.cells #[.int .i64 0] 38)).drew) HA1.out).mono ?_); rintro e w4 ⟨rfl, b4⟩; have g4 := Lib.hid (below_tr HA1.out b4); have x9 := HA9.out _ b4; have k9 : w4.cell? ⟨wr.heap.size, 0, none⟩ = some (.int .i64 0) := (by rw [cell_of_block x9]; rfl); have f9 : w4.frozen? ⟨wr.heap.size, 0, none⟩ = false := unfrozen_of_block x9 0; have X9 := Lib.hid x9; clear x9)
              | (go_at_call 17; (refine (HS.out wr.drew HA2.out).mono ?_); rintro e w4 ⟨rfl, b4⟩; have g4 := Lib.hid (below_tr HA2.out b4)))
            all_goals
              clear c0 g0
              first
                | (obtain ⟨W9, hW9⟩ : ∃ W, w4.setCell ⟨wr.heap.size, 0, none⟩ (.int .i64 0) = W := ⟨_, rfl⟩
                   have H9 : Hid (BoxC W9 wr.heap.size 0) := by rw [← hW9]; exact Lib.hid ((setCell_block X9.out _).trans (by simp))
                   have G9 : Hid (Below wr.heap.size wr W9) := by rw [← hW9]; exact Lib.hid (g4.out.setCell (p := ⟨wr.heap.size, 0, none⟩) (Nat.le_refl _) _)
                   rw [hW9]
                   obtain ⟨g9, hg9⟩ : ∃ g, wr.heap.size = g := ⟨_, rfl⟩
                   have HL9 : Hid (wr.heap.size ≤ g9) := Lib.hid (by omega)
                   rw [hg9] at H9 ⊢
                   clear hW9 hg9 k9 f9 X9)
                | (obtain ⟨W9, hW9⟩ : ∃ W, w4.alloc (.cells #[.int .i64 0] 38) = W := ⟨_, rfl⟩
                   have H9 : Hid (BoxC W9 w4.heap.size 0) := by rw [← hW9]; exact Lib.hid (heap_alloc_new w4 _)
                   have G9 : Hid (Below wr.heap.size wr W9) := by rw [← hW9]; exact Lib.hid (g4.out.alloc g4.out.size _)
                   rw [hW9]
                   obtain ⟨g9, hg9⟩ : ∃ g, w4.heap.size = g := ⟨_, rfl⟩
                   have HL9 : Hid (wr.heap.size ≤ g9) := Lib.hid (by have := g4.out.size; omega)
                   rw [hg9] at H9 ⊢
                   clear hW9 hg9)
              have HX9 := Lib.hid ((G9.out.block _ (blk_lt HX.out)).trans HX.out)
              have HB9 := Lib.hid (below_tr HB.out (G9.out))
              have g0' : W9.cell? ⟨b, o + k, none⟩ = some (.int .i64 t) := cell_later G9.out HG0.out
              (try simp only [Exit.inBlock, Exit.then])
              rcases dd with d2 | ⟨d2, d3⟩
              all_goals
                go_wp2
                go_roundw
                case rel => exact ⟨k + 1, y, by go_num, by omega, rfl, HY, HX9, HB9⟩
                case measure => simp [intOf]; omega
          | true =>
            have htb := tmB_yes.1 ht
            have d2 : decide (t < 0) = false := by simp; omega
            have d3 : decide (1000000000000 < t) = false := by simp; omega
            rw [(setE_good HY.out ht).1, (setE_good HY.out ht).2] at HS
            obtain ⟨z, hz⟩ : ∃ z, max y t = z := ⟨_, rfl⟩
            rw [hz] at HS
            have HZb : Hid (tmB z = true) := Lib.hid (tmB_yes.2 (by omega))
            have hyz : y ≤ z := by omega
            have d4 : decide (z < y) = false := by simp; omega
            have HZ := Lib.hid hz
            have HAg := Lib.hid (age_ok y 0)
            have HAz := Lib.hid (age_ok z 0)
            rw [(age_zero HY.out).1, (age_zero HY.out).2] at HAg
            rw [(age_zero HZb.out).1, (age_zero HZb.out).2] at HAz
            clear ht hz htb
            go_wp2_with fail
            go_region_with (first
              | (go_at_call 17; (refine (HS.out ((wr.alloc (.cells #[.int .i64 0] 38)).drew) HA1.out).mono ?_); rintro e w4 ⟨rfl, b4⟩; have g4 := Lib.hid (below_tr HA1.out b4); have x9 := HA9.out _ b4; have k9 : w4.cell? ⟨wr.heap.size, 0, none⟩ = some (.int .i64 0) := (by rw [cell_of_block x9]; rfl); have f9 : w4.frozen? ⟨wr.heap.size, 0, none⟩ = false := unfrozen_of_block x9 0; have X9 := Lib.hid x9; clear x9)
              | (go_at_call 17; (refine (HS.out wr.drew HA2.out).mono ?_); rintro e w4 ⟨rfl, b4⟩; have g4 := Lib.hid (below_tr HA2.out b4)))
            all_goals
              clear c0 g0
              first
                | (obtain ⟨W9, hW9⟩ : ∃ W, w4.setCell ⟨wr.heap.size, 0, none⟩ (.int .i64 z) = W := ⟨_, rfl⟩
                   have H9 : Hid (BoxC W9 wr.heap.size z) := by rw [← hW9]; exact Lib.hid ((setCell_block X9.out _).trans (by simp))
                   have G9 : Hid (Below wr.heap.size wr W9) := by rw [← hW9]; exact Lib.hid (g4.out.setCell (p := ⟨wr.heap.size, 0, none⟩) (Nat.le_refl _) _)
                   rw [hW9]
                   obtain ⟨g9, hg9⟩ : ∃ g, wr.heap.size = g := ⟨_, rfl⟩
                   have HL9 : Hid (wr.heap.size ≤ g9) := Lib.hid (by omega)
                   rw [hg9] at H9 ⊢
                   clear hW9 hg9 k9 f9 X9)
                | (obtain ⟨W9, hW9⟩ : ∃ W, w4.alloc (.cells #[.int .i64 z] 38) = W := ⟨_, rfl⟩
                   have H9 : Hid (BoxC W9 w4.heap.size z) := by rw [← hW9]; exact Lib.hid (heap_alloc_new w4 _)
                   have G9 : Hid (Below wr.heap.size wr W9) := by rw [← hW9]; exact Lib.hid (g4.out.alloc g4.out.size _)
                   rw [hW9]
                   obtain ⟨g9, hg9⟩ : ∃ g, w4.heap.size = g := ⟨_, rfl⟩
                   have HL9 : Hid (wr.heap.size ≤ g9) := Lib.hid (by have := g4.out.size; omega)
                   rw [hg9] at H9 ⊢
                   clear hW9 hg9)
              have HX9 := Lib.hid ((G9.out.block _ (blk_lt HX.out)).trans HX.out)
              have HB9 := Lib.hid (below_tr HB.out (G9.out))
              have g0' : W9.cell? ⟨b, o + k, none⟩ = some (.int .i64 t) := cell_later G9.out HG0.out
              (try simp only [Exit.inBlock, Exit.then])
              have c0 : W9.cell? ⟨w.heap.size, 0, none⟩ = some (.int .i64 y) := by rw [cell_of_block HX9.out]; rfl
              go_wp2_with fail
              refine (HAg.out _).mono ?_
              rintro e w10 ⟨rfl, b10⟩
              have H10 := Lib.hid ((b10.block _ (blk_lt H9.out)).trans H9.out)
              have HX10 := Lib.hid ((b10.block _ (blk_lt HX9.out)).trans HX9.out)
              have HB10 := Lib.hid (below_tr HB9.out b10)
              have G10 := Lib.hid (cell_later b10 g0')
              have c9 : w10.cell? ⟨g9, 0, none⟩ = some (.int .i64 z) := by rw [cell_of_block H10.out]; rfl
              clear b10 c0 g0'
              go_wp2_with fail
              refine (HAz.out _).mono ?_
              rintro e w11 ⟨rfl, b11⟩
              have H11 := Lib.hid ((b11.block _ (blk_lt H10.out)).trans H10.out)
              have HX11 := Lib.hid ((b11.block _ (blk_lt HX10.out)).trans HX10.out)
              have HB11 := Lib.hid (below_tr HB10.out b11)
              have g0' : w11.cell? ⟨b, o + k, none⟩ = some (.int .i64 t) := cell_later b11 G10.out
              have c0 : w11.cell? ⟨w.heap.size, 0, none⟩ = some (.int .i64 y) := by rw [cell_of_block HX11.out]; rfl
              have f0 : w11.frozen? ⟨w.heap.size, 0, none⟩ = false := unfrozen_of_block HX11.out 0
              have c9' : w11.cell? ⟨g9, 0, none⟩ = some (.int .i64 z) := by rw [cell_of_block H11.out]; rfl
              have hz := HZ.out
              clear b11 c9
              go_wp2
              go_roundw
              case rel => exact ⟨k + 1, z, by go_num, by omega, by first | rfl | (rw [HZ.out]), HZb, Lib.hid ((setCell_block HX11.out _).trans (by simp)), Lib.hid (HB11.out.setCell (p := ⟨w.heap.size, 0, none⟩) (Nat.le_refl _) _)⟩
              case measure => simp [intOf]; omega
        · obtain rfl : m = k := by omega
          have c0 : wr.cell? ⟨w.heap.size, 0, none⟩ = some (.int .i64 y) := by rw [cell_of_block HX.out]; rfl
          go_wp2_with fail
          refine (shown_ok _ (HT.out.below HB.out)).mono ?_
          rintro e w1 ⟨rfl, b1⟩
          have HB1 := Lib.hid (below_tr HB.out b1)
          clear b1
          go_wp2
          go_ret
          exact ⟨rfl, HB1.out⟩
end Go.Proofs.YtjceahbikdncmaaDoor
