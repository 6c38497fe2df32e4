/- Clocks: ParseSpan of the reference: the walk. -/
import Derived.Test.YtmgpdaljminipaaDoorSpE
namespace Go.Proofs.YtmgpdaljminipaaDoor
open Go.RowKit Go.Sort Go.Joins Go.Shelf
attribute [local go_sem] cell_grow frozen_grow size_grow

set_option maxRecDepth 100000 in
set_option maxHeartbeats 4000000 in
theorem psR_ok (s : ByteArray) (L : List UInt8) (hL : s.data.toList = L) (hs : s.size ≤ 1000000) (w : World) : Calls Tryd.prog 9 #[.string s] w fun e w' => e = .returned (.tuple #[.int .i64 ((psR L).1 : Int), .int .i64 ((psR L).2 : Int)]) ∧ Below w.heap.size w w' := by
  have h0s := str_ne s [48, 115] hL
  by_cases hz : L = [48, 115]
  · rw [decide_eq_true hz] at h0s
    have hp : psR L = (0, 0) := by unfold psR; rw [if_pos hz]
    have HP := Lib.hid hp
    clear hp
    go_enter Tryd.func9, Tryd.ntmps9
    go_wp2_with fail
    go_ret2
    exact ⟨ret_two (by rw [HP.out]; rfl) (by rw [HP.out]; rfl), Below.refl _ _⟩
  · rw [decide_eq_false hz] at h0s
    have hp : psR L = pR 0 0 false [] L := by unfold psR; rw [if_neg hz]
    obtain ⟨Q, hQ⟩ : ∃ Q, psR L = Q := ⟨_, rfl⟩
    rw [hQ] at hp ⊢
    have HQ0 : Hid (pR 0 0 false (mid L 0 0) (L.drop 0) = Q) := Lib.hid (by rw [mid_self]; exact hp.symm)
    have HL := Lib.hid hL
    have hlen := len_of hL
    clear hp hQ hz hL
    go_enter Tryd.func9, Tryd.ntmps9
    go_wp2_with fail
    refine (runits_ok _).mono ?_
    rintro e w1 ⟨a, b, rfl, b1, ha, hb⟩
    have HB0 := Lib.hid b1
    have HA0 := Lib.hid ha
    have HS0 := Lib.hid hb
    clear b1 ha hb h0s
    go_wp2_with fail
    go_loopw [6, 7, 8, 9, 10] (fun T B U F I wr => ∃ (i f u m : Nat) (X : Int) (b1 : Bool), I = .int .i64 (i : Int) ∧ F = .int .i64 (f : Int) ∧ U = .int .i64 X ∧ T = .int .i64 (m : Int) ∧ B = .bool b1 ∧ f ≤ i ∧ i ≤ s.size ∧ u ≤ 4 ∧ Hid (X = (u : Int) - 1) ∧ m ≤ 1000000000000 * u ∧ Hid ((mid L f i).all dgC = true) ∧ Hid (pR u m b1 (mid L f i) (L.drop i) = Q) ∧ Hid (Below w.heap.size w wr) ∧ Hid (wr.heap[a]? = some (.cells ltrC 9 (0, 0))) ∧ Hid (wr.heap[b]? = some (.cells secC 2 (0, 0)))) (fun _ _ _ _ i _ => s.size - (intOf i).toNat)
    case atStart => exact ⟨0, 0, 0, 0, -1, false, rfl, rfl, rfl, rfl, rfl, Nat.le_refl _, Nat.zero_le _, by omega, Lib.hid (by omega), by omega, Lib.hid (by rw [mid_self]; rfl), HQ0, HB0, HA0, HS0⟩
    case round =>
      clear HB0 HA0 HS0 HQ0
      obtain ⟨i, f, u, m, X, bg, rfl, rfl, rfl, rfl, rfl, hfi, hi, hu, HX, hm, HD, HQ, HB, HLC, HSC⟩ := hrel
      by_cases hlt : i < s.size
      · have hbi := bt_get HL.out hlt
        have hdrop := drop_bt (l := L) (i := i) (by omega)
        have hmid := mid_succ (l := L) (f := f) (i := i) hfi (by omega)
        obtain ⟨c, hc⟩ : ∃ c, bt L i = c := ⟨_, rfl⟩
        have hc' := hc
        rw [hc] at hbi hdrop hmid
        have hcl := c.toNat_lt
        have hq := HQ.out
        rw [hdrop] at hq
        obtain ⟨d, hd⟩ : ∃ d, mid L f i = d := ⟨_, rfl⟩
        rw [hd] at hmid hq HD
        clear HQ hc
        cases hdg : dgC c
        · have hways := pR_ways (u := u) (m := m) (b := bg) (d := d) (r := L.drop (i + 1)) hdg
          rw [hq] at hways
          have hr : ¬ (48 ≤ c.toNat ∧ c.toNat ≤ 57) := fun h => by rw [dgC_yes.2 h] at hdg; cases hdg
          have HM := Lib.hid (by rw [ext_mid HL.out, mid_succ (Nat.le_refl i) (by omega), mid_self, List.nil_append] : (s.extract i (i + 1)).data.toList = [bt L i])
          rw [hc'] at HM
          obtain ⟨n, hn⟩ : ∃ n, c.toNat = n := ⟨_, rfl⟩
          rw [hn] at hbi hcl hr
          have HEX := Lib.hid (by rw [ext_mid HL.out, hd] : (s.extract f i).data.toList = d)
          have HI := Lib.hid (fun W => rint_ok (s.extract f i) d HEX.out (by rw [ByteArray.size_extract]; omega) 1 1000000000000 (by decide) (by decide) W)
          have h48 := str_ne (s.extract f i) [48] HEX.out
          clear hq hdrop hmid hdg hn hc' hd
          have hr2 : decide ((48 : Int) ≤ (n : Int)) = false ∨ decide ((48 : Int) ≤ (n : Int)) = true ∧ decide ((n : Int) ≤ 57) = false := by
            by_cases h : (48 : Int) ≤ (n : Int)
            · right; exact ⟨decide_eq_true h, decide_eq_false (by omega)⟩
            · left; exact decide_eq_false h
          have hr3 : ¬ 48 ≤ n ∨ 48 ≤ n ∧ ¬ n ≤ 57 := by omega
          clear hr hr2
          rcases hr3 with g1 | ⟨g1, g2⟩
          all_goals
            go_wp2_with fail
            go_loopw [11, 12] (fun Y K wr2 => ∃ k : Nat, K = .int .i64 (k : Int) ∧ k ≤ 4 ∧ Y = .int .i64 (nxk c k) ∧ Hid (Below wr.heap.size wr wr2)) (fun _ k _ => 4 - (intOf k).toNat)
            case atStart => exact ⟨0, rfl, Nat.zero_le _, by rw [nxk_zero], Lib.hid (Below.refl _ _)⟩
            case round =>
              obtain ⟨k, rfl, hk, rfl, HB2⟩ := hrel
              by_cases hlk : k < 4
              · have cl := ltr_cell ((HB2.out.block _ (blk_lt HLC.out)).trans HLC.out) hlk
                have hnh := nxk_hit (c := c) hlk
                have hnm := nxk_miss (k := k) (c := c)
                obtain ⟨lk, hlkd⟩ : ∃ x, ltr k = x := ⟨_, rfl⟩
                rw [hlkd] at cl hnh hnm
                have hcmp := str_ne (s.extract i (i + 1)) [lk] HM.out
                by_cases hcl : c = lk
                · have hnx := hnh hcl
                  have hcmp2 : (s.extract i (i + 1)).toList = [lk] := by rw [Lib.toList_data, HM.out, hcl]
                  rw [decide_eq_true (by rw [hcl])] at hcmp
                  have HNX := Lib.hid hnx
                  clear hnh hnm hnx hways HI h48
                  go_wp2_with fail
                  go_quiet (fail)
                  go_wp2_with fail
                  go_roundw
                  case rel => exact ⟨k + 1, by go_num, by omega, by rw [HNX.out], Lib.hid (HB2.out.trans ((below_draw _ _).mono HB2.out.size))⟩
                  case measure => simp [intOf]; omega
                · have hnx := hnm hcl
                  have hcmp2 : ¬ (s.extract i (i + 1)).toList = [lk] := by rw [Lib.toList_data, HM.out]; intro e; exact hcl (List.cons.inj e).1
                  rw [decide_eq_false (by intro e; exact hcl (List.cons.inj e).1)] at hcmp
                  have HNX := Lib.hid hnx
                  clear hnh hnm hnx hways HI h48
                  go_wp2_with fail
                  go_quiet (fail)
                  go_wp2_with fail
                  go_roundw
                  case rel => exact ⟨k + 1, by go_num, by omega, by rw [HNX.out], Lib.hid (HB2.out.trans ((below_draw _ _).mono HB2.out.size))⟩
                  case measure => simp [intOf]; omega
              · obtain rfl : k = 4 := by omega
                have hY := nxk_four c
                obtain ⟨Y, hYd⟩ : ∃ Y, nxk c 4 = Y := ⟨_, rfl⟩
                rw [hYd] at hY ⊢
                have hok := seg_ok (a := d) (r := []) (c := 0)
                have hno := seg_dig HD.out
                have h48n := seg_ne48 (d := d)
                obtain ⟨E, hE⟩ : ∃ E, intE d 1 1000000000000 = E := ⟨_, rfl⟩
                obtain ⟨v, hv⟩ : ∃ v, intV d 1 1000000000000 = v := ⟨_, rfl⟩
                obtain ⟨N, hN⟩ : ∃ N, valN 0 d = N := ⟨_, rfl⟩
                rw [hE, hv] at HI
                rw [hE] at hno
                rw [hE, hv, hN] at hok
                rw [hN] at hways
                have hlx := lix_le c
                obtain ⟨lx, hlxd⟩ : ∃ x, lix c = x := ⟨_, rfl⟩
                rw [hlxd] at hY hways hlx
                clear hYd hE hv hN hlxd
                have hXu := HX.out
                go_wp2_with fail
                refine (HI.out _).mono ?_
                rintro e w1 ⟨rfl, b1⟩
                have HB3 := Lib.hid (HB.out.trans ((below_tr HB2.out b1).mono HB.out.size))
                have HLC3 := Lib.hid (((below_tr HB2.out b1).block _ (blk_lt HLC.out)).trans HLC.out)
                have HSC3 := Lib.hid (((below_tr HB2.out b1).block _ (blk_lt HSC.out)).trans HSC.out)
                have k0 : w1.cell? ⟨b, 0, none⟩ = some (.int .i64 86400) := sec_cell HSC3.out (k := 0) (by decide)
                have k1 : w1.cell? ⟨b, 1, none⟩ = some (.int .i64 3600) := sec_cell HSC3.out (k := 1) (by decide)
                have k2 : w1.cell? ⟨b, 2, none⟩ = some (.int .i64 60) := sec_cell HSC3.out (k := 2) (by decide)
                have k3 : w1.cell? ⟨b, 3, none⟩ = some (.int .i64 1) := sec_cell HSC3.out (k := 3) (by decide)
                clear b1 HB2 HB HLC HSC HI HX HM
                rcases hways with ⟨hl, hq⟩ | ⟨hl, hsg, hq⟩ | ⟨hl, hsg, hl2, hzN, hq⟩ | ⟨hl, hsg, hl2, hway⟩
                · have HQ6 := Lib.hid hq
                  have y1 : Y ≤ X := by omega
                  have y2 : decide (Y ≤ X) = true := decide_eq_true y1
                  clear hno hok h48n hq hl hlx hXu hY
                  go_wp2_with fail
                  go_quiet (fail)
                  go_wp2_with fail
                  go_ret2
                  exact ⟨ret_two (by rw [HQ6.out]; rfl) (by rw [HQ6.out]; rfl), HB3.out.trans ((below_draw _ _).mono HB3.out.size)⟩
                · have HQ6 := Lib.hid hq
                  have y1 : ¬ Y ≤ X := by omega
                  have y2 : decide (Y ≤ X) = false := decide_eq_false y1
                  have y3 : ¬ Y < 0 := by omega
                  have y4 : decide (Y < 0) = false := decide_eq_false y3
                  rcases hno hsg with rfl | ⟨rfl, hd0⟩
                  · clear hno hok h48n hq hl hlx hXu hY
                    go_wp2_with fail
                    go_quiet (fail)
                    go_wp2_with fail
                    go_ret2
                    exact ⟨ret_two (by rw [HQ6.out]; rfl) (by rw [HQ6.out]; rfl), HB3.out.trans ((below_draw _ _).mono HB3.out.size)⟩
                  · rw [decide_eq_true hd0] at h48
                    have h482 : (s.extract f i).toList = [48] := by rw [Lib.toList_data, HEX.out, hd0]
                    clear hno hok h48n hq hl hlx hXu hY hd0
                    go_wp2_with fail
                    go_quiet (fail)
                    go_wp2_with fail
                    go_ret2
                    exact ⟨ret_two (by rw [HQ6.out]; rfl) (by rw [HQ6.out]; rfl), HB3.out.trans ((below_draw _ _).mono HB3.out.size)⟩
                · have HQ6 := Lib.hid hq
                  have y1 : ¬ Y ≤ X := by omega
                  have y2 : decide (Y ≤ X) = false := decide_eq_false y1
                  have y3 : ¬ Y < 0 := by omega
                  have y4 : decide (Y < 0) = false := decide_eq_false y3
                  have y5 : 0 < Y := by omega
                  have y6 : decide (0 < Y) = true := decide_eq_true y5
                  have hd0 := h48n hsg
                  rw [decide_eq_false hd0] at h48
                  have h482 : ¬ (s.extract f i).toList = [48] := by rw [Lib.toList_data, HEX.out]; exact hd0
                  obtain ⟨_, _, hN1, hE⟩ := hok hsg
                  rcases hE with ⟨rfl, rfl, hNm⟩ | ⟨rfl, hNm⟩
                  · have hlit : (lx = 2 ∧ 24 ≤ N) ∨ (lx = 3 ∧ 60 ≤ N) ∨ (lx = 4 ∧ 60 ≤ N) := by
                      have h3 : lx = 2 ∨ lx = 3 ∨ lx = 4 := by omega
                      rcases h3 with rfl | rfl | rfl
                      · left; exact ⟨rfl, hzN⟩
                      · right; left; exact ⟨rfl, hzN⟩
                      · right; right; exact ⟨rfl, hzN⟩
                    rcases hlit with ⟨rfl, hzn⟩ | ⟨rfl, hzn⟩ | ⟨rfl, hzn⟩
                    · obtain rfl : Y = 1 := by omega
                      have dv : decide ((24 : Int) ≤ (N : Int)) = true := decide_eq_true (by omega)
                      clear hno hok h48n hq hl hlx hXu hY hd0 hzN y3 y4 y5 y6
                      go_wp2_with fail
                      go_quiet (fail)
                      go_wp2_with fail
                      go_ret2
                      exact ⟨ret_two (by rw [HQ6.out]; rfl) (by rw [HQ6.out]; rfl), HB3.out.trans ((below_draw _ _).mono HB3.out.size)⟩
                    · obtain rfl : Y = 2 := by omega
                      have dv : decide ((60 : Int) ≤ (N : Int)) = true := decide_eq_true (by omega)
                      clear hno hok h48n hq hl hlx hXu hY hd0 hzN y3 y4 y5 y6
                      go_wp2_with fail
                      go_quiet (fail)
                      go_wp2_with fail
                      go_ret2
                      exact ⟨ret_two (by rw [HQ6.out]; rfl) (by rw [HQ6.out]; rfl), HB3.out.trans ((below_draw _ _).mono HB3.out.size)⟩
                    · obtain rfl : Y = 3 := by omega
                      have dv : decide ((60 : Int) ≤ (N : Int)) = true := decide_eq_true (by omega)
                      clear hno hok h48n hq hl hlx hXu hY hd0 hzN y3 y4 y5 y6
                      go_wp2_with fail
                      go_quiet (fail)
                      go_wp2_with fail
                      go_ret2
                      exact ⟨ret_two (by rw [HQ6.out]; rfl) (by rw [HQ6.out]; rfl), HB3.out.trans ((below_draw _ _).mono HB3.out.size)⟩
                  · clear hno hok h48n hq hl hlx hXu hY hd0 hzN
                    go_wp2_with fail
                    go_quiet (fail)
                    go_wp2_with fail
                    go_ret2
                    exact ⟨ret_two (by rw [HQ6.out]; rfl) (by rw [HQ6.out]; rfl), HB3.out.trans ((below_draw _ _).mono HB3.out.size)⟩
                · have y1 : ¬ Y ≤ X := by omega
                  have y2 : decide (Y ≤ X) = false := decide_eq_false y1
                  have hd0 := h48n hsg
                  rw [decide_eq_false hd0] at h48
                  have h482 : ¬ (s.extract f i).toList = [48] := by rw [Lib.toList_data, HEX.out]; exact hd0
                  obtain ⟨_, _, hN1, hE⟩ := hok hsg
                  clear hno hok h48n hd0
                  have h4 : lx = 1 ∨ lx = 2 ∨ lx = 3 ∨ lx = 4 := by omega
                  rcases h4 with rfl | rfl | rfl | rfl
                  · obtain rfl : Y = 0 := by omega
                    have hway : (11574074 < N ∧ Q = pR 1 m true [] (L.drop (i + 1))) ∨ (N ≤ 11574074 ∧ bg = true ∧ Q = pR 1 m true [] (L.drop (i + 1))) ∨ (N ≤ 11574074 ∧ bg = false ∧ Q = pR 1 (m + N * 86400) false [] (L.drop (i + 1))) := hway
                    have hu0 : u = 0 := by omega
                    clear hY hl hlx hl2 hXu
                    rcases hway with ⟨hg, hq⟩ | ⟨hg, rfl, hq⟩ | ⟨hg, rfl, hq⟩
                    · have HQ2 : Hid (pR 1 m true (mid L (i + 1) (i + 1)) (L.drop (i + 1)) = Q) := Lib.hid (by rw [mid_self]; exact hq.symm)
                      clear hq
                      have dg : decide ((11574074 : Int) < (N : Int)) = true := decide_eq_true (by omega)
                      rcases hE with ⟨rfl, rfl, hNm⟩ | ⟨rfl, hNm⟩ <;> cases bg
                      all_goals
                        go_wp2_with fail
                        go_quiet (fail)
                        go_wp2_with fail
                        go_roundw
                        case rel => exact ⟨i + 1, i + 1, 1, m, 0, true, by go_num, by go_num, rfl, rfl, rfl, by omega, by omega, by omega, Lib.hid (by omega), by omega, Lib.hid (by rw [mid_self]; rfl), HQ2, Lib.hid (HB3.out.trans ((below_draw _ _).mono HB3.out.size)), Lib.hid (((below_draw _ _).block _ (blk_lt HLC3.out)).trans HLC3.out), Lib.hid (((below_draw _ _).block _ (blk_lt HSC3.out)).trans HSC3.out)⟩
                        case measure => simp [intOf]; omega
                    · have HQ2 : Hid (pR 1 m true (mid L (i + 1) (i + 1)) (L.drop (i + 1)) = Q) := Lib.hid (by rw [mid_self]; exact hq.symm)
                      obtain ⟨rfl, rfl, hNm⟩ := hE.resolve_right (by omega)
                      have dg : decide ((11574074 : Int) < (N : Int)) = false := decide_eq_false (by omega)
                      clear hq hE
                      go_wp2_with fail
                      go_quiet (fail)
                      go_wp2_with fail
                      go_roundw
                      case rel => exact ⟨i + 1, i + 1, 1, m, 0, true, by go_num, by go_num, rfl, rfl, rfl, by omega, by omega, by omega, Lib.hid (by omega), by omega, Lib.hid (by rw [mid_self]; rfl), HQ2, Lib.hid (HB3.out.trans ((below_draw _ _).mono HB3.out.size)), Lib.hid (((below_draw _ _).block _ (blk_lt HLC3.out)).trans HLC3.out), Lib.hid (((below_draw _ _).block _ (blk_lt HSC3.out)).trans HSC3.out)⟩
                      case measure => simp [intOf]; omega
                    · have HQ2 : Hid (pR 1 (m + N * 86400) false (mid L (i + 1) (i + 1)) (L.drop (i + 1)) = Q) := Lib.hid (by rw [mid_self]; exact hq.symm)
                      obtain ⟨rfl, rfl, hNm⟩ := hE.resolve_right (by omega)
                      have dg : decide ((11574074 : Int) < (N : Int)) = false := decide_eq_false (by omega)
                      clear hq hE
                      go_wp2_with fail
                      go_quiet (fail)
                      go_wp2_with fail
                      go_roundw
                      case rel => exact ⟨i + 1, i + 1, 1, m + N * 86400, 0, false, by go_num, by go_num, rfl, by go_num, rfl, by omega, by omega, by omega, Lib.hid (by omega), by omega, Lib.hid (by rw [mid_self]; rfl), HQ2, Lib.hid (HB3.out.trans ((below_draw _ _).mono HB3.out.size)), Lib.hid (((below_draw _ _).block _ (blk_lt HLC3.out)).trans HLC3.out), Lib.hid (((below_draw _ _).block _ (blk_lt HSC3.out)).trans HSC3.out)⟩
                      case measure => simp [intOf]; omega
                  · obtain rfl : Y = 1 := by omega
                    have hway : (277777777 < N ∧ Q = pR 2 m true [] (L.drop (i + 1))) ∨ (N ≤ 277777777 ∧ bg = true ∧ Q = pR 2 m true [] (L.drop (i + 1))) ∨ (N ≤ 277777777 ∧ bg = false ∧ Q = pR 2 (m + N * 3600) false [] (L.drop (i + 1))) := hway
                    have hzn : N < 24 := hl2.resolve_left (by decide)
                    have dv : decide ((24 : Int) ≤ (N : Int)) = false := decide_eq_false (by omega)
                    obtain ⟨rfl, rfl, hNm⟩ := hE.resolve_right (by omega)
                    have hu1 : u ≤ 1 := by omega
                    clear hE hY hl hlx hl2 hXu
                    have dg : decide ((277777777 : Int) < (N : Int)) = false := decide_eq_false (by omega)
                    rcases hway with ⟨hg, _⟩ | ⟨hg, rfl, hq⟩ | ⟨hg, rfl, hq⟩
                    · exfalso; omega
                    · have HQ2 : Hid (pR 2 m true (mid L (i + 1) (i + 1)) (L.drop (i + 1)) = Q) := Lib.hid (by rw [mid_self]; exact hq.symm)
                      clear hq
                      go_wp2_with fail
                      go_quiet (fail)
                      go_wp2_with fail
                      go_roundw
                      case rel => exact ⟨i + 1, i + 1, 2, m, 1, true, by go_num, by go_num, rfl, rfl, rfl, by omega, by omega, by omega, Lib.hid (by omega), by omega, Lib.hid (by rw [mid_self]; rfl), HQ2, Lib.hid (HB3.out.trans ((below_draw _ _).mono HB3.out.size)), Lib.hid (((below_draw _ _).block _ (blk_lt HLC3.out)).trans HLC3.out), Lib.hid (((below_draw _ _).block _ (blk_lt HSC3.out)).trans HSC3.out)⟩
                      case measure => simp [intOf]; omega
                    · have HQ2 : Hid (pR 2 (m + N * 3600) false (mid L (i + 1) (i + 1)) (L.drop (i + 1)) = Q) := Lib.hid (by rw [mid_self]; exact hq.symm)
                      clear hq
                      go_wp2_with fail
                      go_quiet (fail)
                      go_wp2_with fail
                      go_roundw
                      case rel => exact ⟨i + 1, i + 1, 2, m + N * 3600, 1, false, by go_num, by go_num, rfl, by go_num, rfl, by omega, by omega, by omega, Lib.hid (by omega), by omega, Lib.hid (by rw [mid_self]; rfl), HQ2, Lib.hid (HB3.out.trans ((below_draw _ _).mono HB3.out.size)), Lib.hid (((below_draw _ _).block _ (blk_lt HLC3.out)).trans HLC3.out), Lib.hid (((below_draw _ _).block _ (blk_lt HSC3.out)).trans HSC3.out)⟩
                      case measure => simp [intOf]; omega
                  · obtain rfl : Y = 2 := by omega
                    have hway : (16666666666 < N ∧ Q = pR 3 m true [] (L.drop (i + 1))) ∨ (N ≤ 16666666666 ∧ bg = true ∧ Q = pR 3 m true [] (L.drop (i + 1))) ∨ (N ≤ 16666666666 ∧ bg = false ∧ Q = pR 3 (m + N * 60) false [] (L.drop (i + 1))) := hway
                    have hzn : N < 60 := hl2.resolve_left (by decide)
                    have dv : decide ((60 : Int) ≤ (N : Int)) = false := decide_eq_false (by omega)
                    obtain ⟨rfl, rfl, hNm⟩ := hE.resolve_right (by omega)
                    have hu2 : u ≤ 2 := by omega
                    clear hE hY hl hlx hl2 hXu
                    have dg : decide ((16666666666 : Int) < (N : Int)) = false := decide_eq_false (by omega)
                    rcases hway with ⟨hg, _⟩ | ⟨hg, rfl, hq⟩ | ⟨hg, rfl, hq⟩
                    · exfalso; omega
                    · have HQ2 : Hid (pR 3 m true (mid L (i + 1) (i + 1)) (L.drop (i + 1)) = Q) := Lib.hid (by rw [mid_self]; exact hq.symm)
                      clear hq
                      go_wp2_with fail
                      go_quiet (fail)
                      go_wp2_with fail
                      go_roundw
                      case rel => exact ⟨i + 1, i + 1, 3, m, 2, true, by go_num, by go_num, rfl, rfl, rfl, by omega, by omega, by omega, Lib.hid (by omega), by omega, Lib.hid (by rw [mid_self]; rfl), HQ2, Lib.hid (HB3.out.trans ((below_draw _ _).mono HB3.out.size)), Lib.hid (((below_draw _ _).block _ (blk_lt HLC3.out)).trans HLC3.out), Lib.hid (((below_draw _ _).block _ (blk_lt HSC3.out)).trans HSC3.out)⟩
                      case measure => simp [intOf]; omega
                    · have HQ2 : Hid (pR 3 (m + N * 60) false (mid L (i + 1) (i + 1)) (L.drop (i + 1)) = Q) := Lib.hid (by rw [mid_self]; exact hq.symm)
                      clear hq
                      go_wp2_with fail
                      go_quiet (fail)
                      go_wp2_with fail
                      go_roundw
                      case rel => exact ⟨i + 1, i + 1, 3, m + N * 60, 2, false, by go_num, by go_num, rfl, by go_num, rfl, by omega, by omega, by omega, Lib.hid (by omega), by omega, Lib.hid (by rw [mid_self]; rfl), HQ2, Lib.hid (HB3.out.trans ((below_draw _ _).mono HB3.out.size)), Lib.hid (((below_draw _ _).block _ (blk_lt HLC3.out)).trans HLC3.out), Lib.hid (((below_draw _ _).block _ (blk_lt HSC3.out)).trans HSC3.out)⟩
                      case measure => simp [intOf]; omega
                  · obtain rfl : Y = 3 := by omega
                    have hway : (1000000000000 < N ∧ Q = pR 4 m true [] (L.drop (i + 1))) ∨ (N ≤ 1000000000000 ∧ bg = true ∧ Q = pR 4 m true [] (L.drop (i + 1))) ∨ (N ≤ 1000000000000 ∧ bg = false ∧ Q = pR 4 (m + N * 1) false [] (L.drop (i + 1))) := hway
                    have hzn : N < 60 := hl2.resolve_left (by decide)
                    have dv : decide ((60 : Int) ≤ (N : Int)) = false := decide_eq_false (by omega)
                    obtain ⟨rfl, rfl, hNm⟩ := hE.resolve_right (by omega)
                    have hu3 : u ≤ 3 := by omega
                    clear hE hY hl hlx hl2 hXu
                    have dg : decide ((1000000000000 : Int) < (N : Int)) = false := decide_eq_false (by omega)
                    rcases hway with ⟨hg, _⟩ | ⟨hg, rfl, hq⟩ | ⟨hg, rfl, hq⟩
                    · exfalso; omega
                    · have HQ2 : Hid (pR 4 m true (mid L (i + 1) (i + 1)) (L.drop (i + 1)) = Q) := Lib.hid (by rw [mid_self]; exact hq.symm)
                      clear hq
                      go_wp2_with fail
                      go_quiet (fail)
                      go_wp2_with fail
                      go_roundw
                      case rel => exact ⟨i + 1, i + 1, 4, m, 3, true, by go_num, by go_num, rfl, rfl, rfl, by omega, by omega, by omega, Lib.hid (by omega), by omega, Lib.hid (by rw [mid_self]; rfl), HQ2, Lib.hid (HB3.out.trans ((below_draw _ _).mono HB3.out.size)), Lib.hid (((below_draw _ _).block _ (blk_lt HLC3.out)).trans HLC3.out), Lib.hid (((below_draw _ _).block _ (blk_lt HSC3.out)).trans HSC3.out)⟩
                      case measure => simp [intOf]; omega
                    · have HQ2 : Hid (pR 4 (m + N * 1) false (mid L (i + 1) (i + 1)) (L.drop (i + 1)) = Q) := Lib.hid (by rw [mid_self]; exact hq.symm)
                      clear hq
                      go_wp2_with fail
                      go_quiet (fail)
                      go_wp2_with fail
                      go_roundw
                      case rel => exact ⟨i + 1, i + 1, 4, m + N * 1, 3, false, by go_num, by go_num, rfl, by go_num, rfl, by omega, by omega, by omega, Lib.hid (by omega), by omega, Lib.hid (by rw [mid_self]; rfl), HQ2, Lib.hid (HB3.out.trans ((below_draw _ _).mono HB3.out.size)), Lib.hid (((below_draw _ _).block _ (blk_lt HLC3.out)).trans HLC3.out), Lib.hid (((below_draw _ _).block _ (blk_lt HSC3.out)).trans HSC3.out)⟩
                      case measure => simp [intOf]; omega
        · have hr := dgC_yes.1 hdg
          obtain ⟨n, hn⟩ : ∃ n, c.toNat = n := ⟨_, rfl⟩
          rw [hn] at hbi hcl hr
          obtain ⟨r1, r2⟩ := hr
          have HQ2 : Hid (pR u m bg (mid L f (i + 1)) (L.drop (i + 1)) = Q) := Lib.hid (by rw [hmid, ← hq, pR_dig hdg])
          have HD2 : Hid ((mid L f (i + 1)).all dgC = true) := Lib.hid (by rw [hmid, List.all_append, HD.out]; simp [hdg])
          clear hq hmid hdrop hd HD hdg
          go_wp2_with fail
          go_roundw
          case rel => exact ⟨i + 1, f, u, m, X, bg, by go_num, rfl, rfl, rfl, rfl, by omega, by omega, hu, HX, hm, HD2, HQ2, HB, HLC, HSC⟩
          case measure => simp [intOf]; omega
      · obtain rfl : i = s.size := by omega
        have hq := HQ.out
        rw [show L.drop s.size = [] from List.drop_eq_nil_of_le (by omega), pR_nil] at hq
        have hml : (mid L f s.size).length = s.size - f := by unfold mid; rw [List.length_take, List.length_drop]; omega
        clear HQ HD
        by_cases h1 : f < s.size
        · rw [if_pos (.inl (by intro e; rw [e] at hml; simp at hml; omega))] at hq
          have d1 : decide ((f : Int) < (s.size : Int)) = true := decide_eq_true (by omega)
          have HQ := Lib.hid hq
          clear hq hml
          go_wp2_with fail
          go_ret2
          exact ⟨ret_two (by rw [← HQ.out]; rfl) (by rw [← HQ.out]; rfl), HB.out⟩
        · have hme : mid L f s.size = [] := List.length_eq_zero_iff.1 (by omega)
          have d1 : decide ((f : Int) < (s.size : Int)) = false := decide_eq_false (by omega)
          by_cases h2 : u = 0
          · rw [if_pos (.inr h2)] at hq
            have hX1 : X = -1 := by have := HX.out; omega
            subst hX1
            have HQ := Lib.hid hq
            clear hq hml hme
            go_wp2_with fail
            go_ret2
            exact ⟨ret_two (by rw [← HQ.out]; rfl) (by rw [← HQ.out]; rfl), HB.out⟩
          · rw [if_neg (by simp [hme, h2])] at hq
            have hX0 : 0 ≤ X := by have := HX.out; omega
            have d2 : decide (X < 0) = false := decide_eq_false (by omega)
            clear hml hme
            cases bg
            · by_cases hm2 : 1000000000000 < m
              · rw [if_pos (.inr hm2)] at hq
                have d3 : decide ((1000000000000 : Int) < (m : Int)) = true := decide_eq_true (by omega)
                have HQ := Lib.hid hq
                clear hq
                go_wp2_with fail
                go_ret2
                exact ⟨ret_two (by rw [← HQ.out]; rfl) (by rw [← HQ.out]; rfl), HB.out⟩
              · rw [if_neg (by simp; omega)] at hq
                have d3 : decide ((1000000000000 : Int) < (m : Int)) = false := decide_eq_false (by omega)
                have HQ := Lib.hid hq
                clear hq
                go_wp2_with fail
                go_ret2
                exact ⟨ret_two (by rw [← HQ.out]) (by rw [← HQ.out]; rfl), HB.out⟩
            · rw [if_pos (.inl rfl)] at hq
              have HQ := Lib.hid hq
              clear hq
              go_wp2_with fail
              go_ret2
              exact ⟨ret_two (by rw [← HQ.out]; rfl) (by rw [← HQ.out]; rfl), HB.out⟩
end Go.Proofs.YtmgpdaljminipaaDoor
