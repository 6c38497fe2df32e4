/- Clocks: ParseSpan of the program: the walk. -/
import Derived.Test.YtmgpdaljminipaaDoorSpC
namespace Go.Proofs.YtmgpdaljminipaaDoor
open Go.RowKit Go.Sort Go.Joins Go.Shelf
attribute [local go_sem] cell_grow frozen_grow size_grow

set_option maxRecDepth 100000 in
set_option maxHeartbeats 4000000 in
theorem psP_ok (s : ByteArray) (L : List UInt8) (hL : s.data.toList = L) (hs : s.size ≤ 1000000) (w : World) (hT : T9 w) (hTW : TW w) : Calls Tryd.prog 8 #[.string s] w fun e w' => e = .returned (.tuple #[.int .i64 ((psR L).1 : Int), .int .i64 ((psR L).2 : Int)]) ∧ Below w.heap.size w w' := by
  have h0s := str_ne s [48, 115] hL
  by_cases hz : L = [48, 115]
  · rw [decide_eq_true hz] at h0s
    have hp : psR L = (0, 0) := by unfold psR; rw [if_pos hz]
    have HP := Lib.hid hp
    clear hT hTW hp
    go_enter Tryd.func8, Tryd.ntmps8
    go_wp2_with fail
    go_ret2
    exact ⟨ret_two (by rw [HP.out]; rfl) (by rw [HP.out]; rfl), Below.refl _ _⟩
  · rw [decide_eq_false hz] at h0s
    have hp : psR L = qP (decide (L = [])) 4 L 0 false := by unfold psR; rw [if_neg hz, q_start]
    obtain ⟨Q, hQ⟩ : ∃ Q, psR L = Q := ⟨_, rfl⟩
    rw [hQ] at hp ⊢
    have HQ0 := Lib.hid hp.symm
    have hem := empty_nil hL
    obtain ⟨em, hemd⟩ : ∃ b, decide (L = []) = b := ⟨_, rfl⟩
    rw [hemd] at hem HQ0
    have hl := hT.lt
    have c0 : w.cell? ⟨0, 0, none⟩ = some (.int .u8 100) := hT.u 0 (by decide)
    have c1 : w.cell? ⟨0, 1, none⟩ = some (.int .i64 86400) := hT.u 1 (by decide)
    have c2 : w.cell? ⟨0, 2, none⟩ = some (.int .i64 0) := hT.u 2 (by decide)
    have c3 : w.cell? ⟨0, 3, none⟩ = some (.int .u8 104) := hT.u 3 (by decide)
    have c4 : w.cell? ⟨0, 4, none⟩ = some (.int .i64 3600) := hT.u 4 (by decide)
    have c5 : w.cell? ⟨0, 5, none⟩ = some (.int .i64 24) := hT.u 5 (by decide)
    have c6 : w.cell? ⟨0, 6, none⟩ = some (.int .u8 109) := hT.u 6 (by decide)
    have c7 : w.cell? ⟨0, 7, none⟩ = some (.int .i64 60) := hT.u 7 (by decide)
    have c8 : w.cell? ⟨0, 8, none⟩ = some (.int .i64 60) := hT.u 8 (by decide)
    have c9 : w.cell? ⟨0, 9, none⟩ = some (.int .u8 115) := hT.u 9 (by decide)
    have c10 : w.cell? ⟨0, 10, none⟩ = some (.int .i64 1) := hT.u 10 (by decide)
    have c11 : w.cell? ⟨0, 11, none⟩ = some (.int .i64 60) := hT.u 11 (by decide)
    have HTW := Lib.hid hTW
    have HL := Lib.hid hL
    clear hT hTW hp hQ hz hemd hL
    go_enter Tryd.func8, Tryd.ntmps8
    go_wp2_with fail
    clear c0 c1 c2 c3 c4 c5 c6 c7 c8 c9 c10 c11 hl h0s
    go_loopw [4, 5, 6, 16] (fun T B R i wr => ∃ (k m : Nat) (b : Bool) (S : ByteArray) (l : List UInt8), i = .int .i64 (k : Int) ∧ T = .int .i64 (m : Int) ∧ B = .bool b ∧ R = .string S ∧ k ≤ 4 ∧ m ≤ 1000000000000 * k ∧ S.size ≤ 1000000 ∧ Hid (S.data.toList = l) ∧ Hid (qP em (4 - k) l m b = Q) ∧ Hid (Below w.heap.size w wr)) (fun _ _ _ i _ => 4 - (intOf i).toNat)
    case atStart => exact ⟨0, 0, false, s, L, rfl, rfl, rfl, rfl, by omega, by omega, hs, HL, HQ0, Lib.hid (Below.refl _ _)⟩
    case round =>
      obtain ⟨k, m, b, S, l, rfl, rfl, rfl, rfl, hk, hm, hS, HSl, HQ, HB⟩ := hrel
      clear HL HQ0
      by_cases hlt : k < 4
      · have hix : ∀ W : World, (Instr.index 65 unitsV (.int .i64 (k : Int))).run Tryd.prog W = .ok (.agg #[.int .u8 ((ltr k).toNat : Int), .int .i64 (sec k : Int), .int .i64 (mny k : Int)]) W := fun W => unit_at W k hlt
        have hs1 := sec_pos k
        have hmw := mny_ways hlt
        have hway := qP_ways (e := em) (t := m) (r := l) (b := b) hlt
        rw [HQ.out] at hway
        have HI := Tryd.strings_IndexByte S ((ltr k).toNat : Int)
        rw [u8_back, HSl.out] at HI
        obtain ⟨lk, hlk⟩ : ∃ c, ltr k = c := ⟨_, rfl⟩
        rw [hlk] at hix hway HI
        obtain ⟨zl, hzl⟩ : ∃ z : Int, (lk.toNat : Int) = z := ⟨_, rfl⟩
        obtain ⟨zs, hzs⟩ : ∃ z, sec k = z := ⟨_, rfl⟩
        obtain ⟨zm, hzm⟩ : ∃ z, mny k = z := ⟨_, rfl⟩
        rw [hzl, hzs, hzm] at hix
        rw [hzs] at hs1 hway
        rw [hzm] at hmw hway
        rw [hzl] at HI
        have hz0 : ((zs : Int) == 0) = false := by simp; omega
        have bV := below_box0 wr (.cells #[.int .u8 zl, .int .i64 (zs : Int), .int .i64 (zm : Int)] 64)
        have h6 : (wr.alloc (.cells #[.int .u8 zl, .int .i64 (zs : Int), .int .i64 (zm : Int)] 64)).heap[wr.heap.size]? = some (.cells #[.int .u8 zl, .int .i64 (zs : Int), .int .i64 (zm : Int)] 64 (0, 0)) := heap_alloc_new wr _
        have HBV := Lib.hid (HB.out.trans (bV.mono HB.out.size))
        have HTV := Lib.hid (HTW.out.below HBV.out)
        have H6 := Lib.hid h6
        clear bV h6 hzl hzs hzm hlk HB
        rcases hway with ⟨hnm, hq⟩ | ⟨a, r', hcut, hna, hway⟩
        · rw [ixB_not hnm] at HI
          have HI := Lib.hid HI
          have HQ2 := Lib.hid hq.symm
          clear hnm hq HQ hmw hs1
          go_wp2_with fail
          refine (HI.out _).mono ?_
          rintro e w1 ⟨rfl, hw1⟩
          subst hw1
          clear HI
          go_wp2_with fail
          go_roundw
          case rel => exact ⟨k + 1, m, b, S, l, by go_num, rfl, rfl, rfl, by omega, by omega, hS, HSl, HQ2, HBV⟩
          case measure => simp [intOf]; omega
        · have hSl2 := HSl.out
          rw [hcut] at hSl2 HI
          rw [ixB_at hna] at HI
          have HP48 := Lib.hid (Tryd.strings_HasPrefix S ⟨#[48]⟩)
          have HP45 := Lib.hid (Tryd.strings_HasPrefix S ⟨#[45]⟩)
          rw [hSl2, show (⟨#[48]⟩ : ByteArray).data.toList = [48] from rfl] at HP48
          rw [hSl2, show (⟨#[45]⟩ : ByteArray).data.toList = [45] from rfl] at HP45
          have hpre := ext_pre hSl2
          have hsuf := ext_suf hSl2
          have hlen := len_of hSl2
          rw [List.length_append, List.length_cons] at hlen
          have hno := seg_no (a := a) (r := r') (c := lk)
          have hok := seg_ok (a := a) (r := r') (c := lk)
          obtain ⟨p48, h48⟩ : ∃ p, Lib.hasPrefix (a ++ lk :: r') [48] = p := ⟨_, rfl⟩
          obtain ⟨p45, h45⟩ : ∃ p, Lib.hasPrefix (a ++ lk :: r') [45] = p := ⟨_, rfl⟩
          rw [h48] at HP48 hno hok
          rw [h45] at HP45 hno hok
          obtain ⟨il, hil⟩ : ∃ i, a.length = i := ⟨_, rfl⟩
          rw [hil] at HI hpre hsuf hlen
          have HI := Lib.hid HI
          have HPR := Lib.hid hpre
          have HSU := Lib.hid hsuf
          have hilt : il < S.size := by omega
          have HN := fun W (hW : TW W) => wint_ok (S.extract 0 il) a hpre (by rw [ByteArray.size_extract]; omega) 1 1000000000000 (by decide) (by decide) W hW
          obtain ⟨E, hE⟩ : ∃ E, intE a 1 1000000000000 = E := ⟨_, rfl⟩
          obtain ⟨v, hv⟩ : ∃ v, intV a 1 1000000000000 = v := ⟨_, rfl⟩
          obtain ⟨N, hN⟩ : ∃ N, valN 0 a = N := ⟨_, rfl⟩
          rw [hE, hv] at HN
          rw [hE] at hno
          rw [hE, hv, hN] at hok
          rw [hN] at hway
          have HN := Lib.hid HN
          have hsz : (S.extract (il + 1) S.size).size ≤ 1000000 := by rw [ByteArray.size_extract]; omega
          clear HSl hSl2 hpre hsuf hcut hna h48 h45 hil hE hv hN HQ
          go_wp2_with fail
          refine (HI.out _).mono ?_
          rintro e w1 ⟨rfl, hw1⟩
          subst hw1
          clear HI hix
          go_wp2_with fail
          refine (HN.out _ HTV.out).mono ?_
          rintro e w1 ⟨rfl, b1⟩
          have HB1 := Lib.hid (HBV.out.trans (b1.mono HBV.out.size))
          have h61 := (b1.block _ (blk_lt H6.out)).trans H6.out
          have k1 : w1.cell? ⟨wr.heap.size, 1, none⟩ = some (.int .i64 (zs : Int)) := by rw [cell_of_block h61]; rfl
          have k2 : w1.cell? ⟨wr.heap.size, 2, none⟩ = some (.int .i64 (zm : Int)) := by rw [cell_of_block h61]; rfl
          clear b1 h61 H6 HBV HTV HN
          have hgz : 1000000000000 / zs ≤ 1000000000000 := Nat.div_le_self _ _
          obtain ⟨g, hg⟩ : ∃ g, 1000000000000 / zs = g := ⟨_, rfl⟩
          have e5 : (1000000000000 : Int) / (zs : Int) = (g : Int) := by rw [← hg]; rfl
          have hgN : N ≤ g → N * zs ≤ 1000000000000 := fun h => by
            rw [← hg] at h
            exact Nat.le_trans (Nat.mul_le_mul_right zs h) (Nat.div_mul_le_self _ _)
          rw [hg] at hgz hway
          clear hg
          rcases hway with ⟨hsg, hq⟩ | ⟨hsg, hk0, hzN, hq⟩ | ⟨hsg, hkz, hgv, hq⟩ | ⟨hsg, hkz, hgv, hq⟩
          · have HQ6 := Lib.hid hq
            clear hok hq hmw hgN
            rcases hno hsg with rfl | ⟨hE, hp⟩
            · go_wp2_with fail
              go_ret2
              exact ⟨ret_two (by rw [HQ6.out]; rfl) (by rw [HQ6.out]; rfl), HB1.out⟩
            · rcases hE with rfl | rfl <;> rcases hp with rfl | ⟨rfl, rfl⟩
              all_goals
                clear hno
                go_wp2_with fail
                refine (HP48.out _).mono ?_
                rintro e w2 ⟨rfl, hw2⟩
                subst hw2
                go_wp2_with fail
                first
                  | (go_ret2; exact ⟨ret_two (by rw [HQ6.out]; rfl) (by rw [HQ6.out]; rfl), HB1.out⟩)
                  | (refine (HP45.out _).mono ?_
                     rintro e w2 ⟨rfl, hw2⟩
                     subst hw2
                     go_wp2_with fail
                     go_ret2
                     exact ⟨ret_two (by rw [HQ6.out]; rfl) (by rw [HQ6.out]; rfl), HB1.out⟩)
          · have HQ6 := Lib.hid hq
            have dm : decide ((0 : Int) < (zm : Int)) = true := decide_eq_true (by omega)
            have hz1 : 0 < zm := by omega
            obtain ⟨rfl, rfl, hN1, hE⟩ := hok hsg
            clear hno hok hq
            rcases hE with ⟨rfl, rfl, hNm⟩ | ⟨rfl, hNm⟩
            · have dv : decide ((zm : Int) ≤ (N : Int)) = true := decide_eq_true (by omega)
              clear hmw hgN
              go_wp2_with fail
              refine (HP48.out _).mono ?_
              rintro e w2 ⟨rfl, hw2⟩
              subst hw2
              go_wp2_with fail
              refine (HP45.out _).mono ?_
              rintro e w2 ⟨rfl, hw2⟩
              subst hw2
              clear HP48 HP45
              go_wp2_with fail
              go_ret2
              exact ⟨ret_two (by rw [HQ6.out]; rfl) (by rw [HQ6.out]; rfl), HB1.out⟩
            · clear hmw hgN
              go_wp2_with fail
              refine (HP48.out _).mono ?_
              rintro e w2 ⟨rfl, hw2⟩
              subst hw2
              go_wp2_with fail
              refine (HP45.out _).mono ?_
              rintro e w2 ⟨rfl, hw2⟩
              subst hw2
              clear HP48 HP45
              go_wp2_with fail
              go_ret2
              exact ⟨ret_two (by rw [HQ6.out]; rfl) (by rw [HQ6.out]; rfl), HB1.out⟩
          · have HQ2 := Lib.hid hq.symm
            obtain ⟨rfl, rfl, hN1, hE⟩ := hok hsg
            have hmz : (zm = 0) ∨ (0 < zm ∧ N < zm ∧ zm ≤ 60) := by omega
            clear hno hok hq hmw hkz hgN
            rcases hmz with rfl | ⟨hz1, hz2, hz3⟩
            · rcases hE with ⟨rfl, rfl, hNm⟩ | ⟨rfl, hNm⟩
              · have dg : decide ((g : Int) < (N : Int)) = true := decide_eq_true (by omega)
                go_wp2_with fail
                refine (HP48.out _).mono ?_
                rintro e w2 ⟨rfl, hw2⟩
                subst hw2
                go_wp2_with fail
                refine (HP45.out _).mono ?_
                rintro e w2 ⟨rfl, hw2⟩
                subst hw2
                clear HP48 HP45
                go_wp2_with fail
                go_roundw
                case rel => exact ⟨k + 1, m, true, S.extract (il + 1) S.size, r', by go_num, rfl, rfl, rfl, by omega, by omega, hsz, HSU, HQ2, HB1⟩
                case measure => simp [intOf]; omega
              · 
                go_wp2_with fail
                refine (HP48.out _).mono ?_
                rintro e w2 ⟨rfl, hw2⟩
                subst hw2
                go_wp2_with fail
                refine (HP45.out _).mono ?_
                rintro e w2 ⟨rfl, hw2⟩
                subst hw2
                clear HP48 HP45
                go_wp2_with fail
                go_roundw
                case rel => exact ⟨k + 1, m, true, S.extract (il + 1) S.size, r', by go_num, rfl, rfl, rfl, by omega, by omega, hsz, HSU, HQ2, HB1⟩
                case measure => simp [intOf]; omega
            · rcases hE with ⟨rfl, rfl, hNm⟩ | ⟨rfl, hNm⟩
              · have dg : decide ((g : Int) < (N : Int)) = true := decide_eq_true (by omega)
                have dm : decide ((0 : Int) < (zm : Int)) = true := decide_eq_true (by omega)
                have dv : decide ((zm : Int) ≤ (N : Int)) = false := decide_eq_false (by omega)
                go_wp2_with fail
                refine (HP48.out _).mono ?_
                rintro e w2 ⟨rfl, hw2⟩
                subst hw2
                go_wp2_with fail
                refine (HP45.out _).mono ?_
                rintro e w2 ⟨rfl, hw2⟩
                subst hw2
                clear HP48 HP45
                go_wp2_with fail
                go_roundw
                case rel => exact ⟨k + 1, m, true, S.extract (il + 1) S.size, r', by go_num, rfl, rfl, rfl, by omega, by omega, hsz, HSU, HQ2, HB1⟩
                case measure => simp [intOf]; omega
              · exfalso; omega
          · have HQ2 := Lib.hid hq.symm
            obtain ⟨rfl, rfl, hN1, hE⟩ := hok hsg
            have hmz : (zm = 0) ∨ (0 < zm ∧ N < zm ∧ zm ≤ 60) := by omega
            have hp := hgN hgv
            obtain ⟨P, hP⟩ : ∃ P, N * zs = P := ⟨_, rfl⟩
            have e6 : (N : Int) * (zs : Int) = (P : Int) := by rw [← hP]; rfl
            rw [hP] at hp HQ2
            clear hno hok hq hmw hkz hgN hP
            rcases hE with ⟨rfl, rfl, hNm⟩ | ⟨rfl, hNm⟩
            · have dg : decide ((g : Int) < (N : Int)) = false := decide_eq_false (by omega)
              rcases hmz with rfl | ⟨hz1, hz2, hz3⟩
              · 
                go_wp2_with fail
                refine (HP48.out _).mono ?_
                rintro e w2 ⟨rfl, hw2⟩
                subst hw2
                go_wp2_with fail
                refine (HP45.out _).mono ?_
                rintro e w2 ⟨rfl, hw2⟩
                subst hw2
                clear HP48 HP45
                go_wp2_with fail
                go_roundw
                case rel => exact ⟨k + 1, m + P, b, S.extract (il + 1) S.size, r', by go_num, by go_num, rfl, rfl, by omega, by omega, hsz, HSU, HQ2, HB1⟩
                case measure => simp [intOf]; omega
              · have dm : decide ((0 : Int) < (zm : Int)) = true := decide_eq_true (by omega)
                have dv : decide ((zm : Int) ≤ (N : Int)) = false := decide_eq_false (by omega)
                go_wp2_with fail
                refine (HP48.out _).mono ?_
                rintro e w2 ⟨rfl, hw2⟩
                subst hw2
                go_wp2_with fail
                refine (HP45.out _).mono ?_
                rintro e w2 ⟨rfl, hw2⟩
                subst hw2
                clear HP48 HP45
                go_wp2_with fail
                go_roundw
                case rel => exact ⟨k + 1, m + P, b, S.extract (il + 1) S.size, r', by go_num, by go_num, rfl, rfl, by omega, by omega, hsz, HSU, HQ2, HB1⟩
                case measure => simp [intOf]; omega
            · exfalso; omega
      · obtain rfl : k = 4 := by omega
        have hq := HQ.out
        rw [Nat.sub_self, qP_end] at hq
        have hem2 := empty_nil HSl.out
        clear HQ
        by_cases hl0 : l = []
        · rw [decide_eq_true hl0] at hem2
          cases em
          · rw [if_neg (by simp [hl0])] at hq
            cases b
            · by_cases hm2 : 1000000000000 < m
              · have d2 : decide ((1000000000000 : Int) < (m : Int)) = true := decide_eq_true (by omega)
                rw [if_pos (.inr hm2)] at hq
                have HQ := Lib.hid hq
                clear hq
                go_wp2_with fail
                go_ret2
                exact ⟨ret_two (by rw [← HQ.out]; rfl) (by rw [← HQ.out]; rfl), HB.out⟩
              · have d2 : decide ((1000000000000 : Int) < (m : Int)) = false := decide_eq_false (by omega)
                rw [if_neg (by simp; omega)] at hq
                have HQ := Lib.hid hq
                clear hq
                go_wp2_with fail
                go_ret2
                exact ⟨ret_two (by rw [← HQ.out]) (by rw [← HQ.out]; rfl), HB.out⟩
            · rw [if_pos (.inl rfl)] at hq
              have HQ := Lib.hid hq
              clear hq
              go_wp2_with fail
              go_ret2
              exact ⟨ret_two (by rw [← HQ.out]; rfl) (by rw [← HQ.out]; rfl), HB.out⟩
          · rw [if_pos (.inr rfl)] at hq
            have HQ := Lib.hid hq
            clear hq
            go_wp2_with fail
            go_ret2
            exact ⟨ret_two (by rw [← HQ.out]; rfl) (by rw [← HQ.out]; rfl), HB.out⟩
        · rw [decide_eq_false hl0] at hem2
          rw [if_pos (.inl hl0)] at hq
          have HQ := Lib.hid hq
          clear hq
          go_wp2_with fail
          go_ret2
          exact ⟨ret_two (by rw [← HQ.out]; rfl) (by rw [← HQ.out]; rfl), HB.out⟩
end Go.Proofs.YtmgpdaljminipaaDoor
