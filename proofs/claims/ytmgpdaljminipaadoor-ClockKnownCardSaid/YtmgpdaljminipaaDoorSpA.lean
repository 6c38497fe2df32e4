/- Clocks: Span, program and reference. -/
import Derived.Test.YtmgpdaljminipaaDoorC9K
import Derived.Test.YtmgpdaljminipaaDoorSpPlain
import Derived.Test.YtmgpdaljminipaaDoorWIntB
namespace Go.Proofs.YtmgpdaljminipaaDoor
open Go.RowKit Go.Sort Go.Joins Go.Shelf
attribute [local go_sem] cell_grow frozen_grow size_grow

/-- the units as values -/
def unV (k : Nat) : Array Value := #[.int .u8 ((ltr k).toNat : Int), .int .i64 (sec k : Int), .int .i64 (mny k : Int)]
theorem unit_at (W : World) (k : Nat) (h : k < 4) : (Instr.index 65 unitsV (.int .i64 (k : Int))).run Tryd.prog W = .ok (.agg (unV k)) W := by
  match k, h with
  | 0, _ => exact unit_0 W
  | 1, _ => exact unit_1 W
  | 2, _ => exact unit_2 W
  | 3, _ => exact unit_3 W
theorem fmt_ok (n : Nat) (h : n ≤ 1000000000000) (w : World) (hT : TW w) : Calls Tryd.prog 24 #[.int .i64 (n : Int), .int .i64 10] w fun e w' => e = .returned (.string ⟨(Lib.decDigits n).toArray⟩) ∧ Below w.heap.size w w' := by
  refine (Tryd.strconv_FormatInt_10 (n : Int) (by omega) (by omega) w hT.pow).mono ?_
  rintro e w' ⟨rfl, k, os, rfl⟩
  exact ⟨by rw [Lib.itoa_nonneg], below_regrown w _ os⟩
theorem dec_len {n : Nat} (h : n ≤ 1000000000000) : (Lib.decDigits n).length ≤ 20 := by
  rw [Lib.decDigits_length]
  have := nDig_le 18 n (by have : (10 : Nat) ^ (18 + 1) = 10000000000000000000 := by decide
                           omega)
  omega
theorem spF_len : ∀ (j t : Nat), t ≤ 1000000000000 → (spF j t).length ≤ 21 * j
  | 0, _, _ => by rw [spF_zero]; simp
  | j + 1, t, h => by
    have h1 := spF_len j (t % sec (3 - j)) (Nat.le_trans (Nat.mod_le _ _) h)
    have h2 := dec_len (n := t / sec (3 - j)) (Nat.le_trans (Nat.div_le_self _ _) h)
    rw [spF_succ, List.length_append]
    split
    · rw [List.length_append, List.length_singleton]; omega
    · rw [List.length_nil]; omega
set_option maxRecDepth 100000 in
set_option maxHeartbeats 1600000 in
theorem spanP_ok (t : Int) (w : World) (hT : T9 w) (hTW : TW w) : Calls Tryd.prog 6 #[.int .i64 t] w fun e w' => (∃ S : ByteArray, e = .returned (.tuple #[.string S, .int .i64 (if tmB t = true then 0 else 7)]) ∧ S.data.toList = (if tmB t = true then spanL t.toNat else [])) ∧ Below w.heap.size w w' := by
  have HT := Lib.hid (isTime_ok t)
  cases ht : tmB t
  · rw [ht] at HT
    clear hT hTW
    go_enter Tryd.func6, Tryd.ntmps6
    go_wp2_with fail
    refine (HT.out _).mono ?_
    rintro e w1 ⟨rfl, rfl⟩
    go_wp2_with fail
    go_ret2
    exact ⟨⟨_, rfl, rfl⟩, Below.refl _ _⟩
  · rw [ht] at HT
    obtain ⟨t0, t1⟩ := tmB_yes.1 ht
    obtain ⟨n, rfl⟩ : ∃ n : Nat, t = (n : Int) := ⟨t.toNat, by omega⟩
    clear ht
    by_cases hz : n = 0
    · subst hz
      clear hT hTW
      go_enter Tryd.func6, Tryd.ntmps6
      go_wp2_with fail
      refine (HT.out _).mono ?_
      rintro e w1 ⟨rfl, rfl⟩
      go_wp2_with fail
      go_ret2
      exact ⟨⟨_, rfl, rfl⟩, Below.refl _ _⟩
    · have dz : ((n : Int) == 0) = false := by simp; omega
      have hl := hT.lt
      have c0 : w.cell? ⟨0, 0, none⟩ = some (.int .u8 100) := hT.u 0 (by decide)
      have c1 : w.cell? ⟨0, 1, none⟩ = some (.int .i64 86400) := hT.u 1 (by decide)
      have c2 : w.cell? ⟨0, 2, none⟩ = some (.int .i64 0) := hT.u 2 (by decide)
      have c3 : w.cell? ⟨0, 3, none⟩ = some (.int .u8 104) := hT.u 3 (by decide)
      have c4 : w.cell? ⟨0, 4, none⟩ = some (.int .i64 3600) := hT.u 4 (by decide)
      have c5 : w.cell? ⟨0, 5, none⟩ = some (.int .i64 24) := hT.u 5 (by decide)
      have c6 : w.cell? ⟨0, 6, none⟩ = some (.int .u8 109) := hT.u 6 (by decide)
      have c7 : w.cell? ⟨0, 7, none⟩ = some (.int .i64 60) := hT.u 7 (by decide)
      have c8 : w.cell? ⟨0, 8, none⟩ = some (.int .i64 60) := hT.u 8 (by decide)
      have c9 : w.cell? ⟨0, 9, none⟩ = some (.int .u8 115) := hT.u 9 (by decide)
      have c10 : w.cell? ⟨0, 10, none⟩ = some (.int .i64 1) := hT.u 10 (by decide)
      have c11 : w.cell? ⟨0, 11, none⟩ = some (.int .i64 60) := hT.u 11 (by decide)
      have HTW := Lib.hid hTW
      clear hT hTW
      go_enter Tryd.func6, Tryd.ntmps6
      go_wp2_with fail
      refine (HT.out _).mono ?_
      rintro e w1 ⟨rfl, hw1⟩
      subst hw1
      go_wp2_with fail
      have HB0 := Lib.hid (below_box0 w (.cells #[.pointer none, .slice none 0 0] 63))
      have HN := Lib.hid (bldNew w w.heap.size (Nat.le_refl _))
      clear c0 c1 c2 c3 c4 c5 c6 c7 c8 c9 c10 c11 HT hl dz
      go_loopw [0, 14] (fun T i wr => ∃ (k m : Nat) (l : List UInt8), i = .int .i64 (k : Int) ∧ T = .int .i64 (m : Int) ∧ k ≤ 4 ∧ m ≤ 1000000000000 ∧ l.length ≤ 21 * k ∧ Hid (l ++ spF (4 - k) m = spF 4 n) ∧ Hid (Below w.heap.size w wr) ∧ Hid (Bld w w.heap.size l wr) ∧ w.heap.size < wr.heap.size) (fun _ i _ => 4 - (intOf i).toNat)
      case atStart => exact ⟨0, n, [], rfl, rfl, by omega, by omega, by simp, Lib.hid rfl, HB0, HN, by simp⟩
      case round =>
        clear HB0 HN
        obtain ⟨k, m, l, rfl, rfl, hk, hm, hll, HS, HB, HN, hlw⟩ := hrel
        by_cases hlt : k < 4
        · have hix : ∀ W : World, (Instr.index 65 unitsV (.int .i64 (k : Int))).run Tryd.prog W = .ok (.agg #[.int .u8 ((ltr k).toNat : Int), .int .i64 (sec k : Int), .int .i64 (mny k : Int)]) W := fun W => unit_at W k hlt
          have hs1 := sec_pos k
          have hsm := spF_small (j := 3 - k) (t := m)
          have hst := spF_step (j := 3 - k) (t := m)
          rw [show 3 - (3 - k) = k by omega, show 3 - k + 1 = 4 - k by omega] at hsm hst
          have hlr : ∃ z : Int, ((ltr k).toNat : Int) = z := ⟨_, rfl⟩
          obtain ⟨zl, hzl⟩ := hlr
          obtain ⟨lk, hlk⟩ : ∃ c, ltr k = c := ⟨_, rfl⟩
          obtain ⟨zs, hzs⟩ : ∃ z, sec k = z := ⟨_, rfl⟩
          obtain ⟨zm, hzm⟩ : ∃ z : Int, (mny k : Int) = z := ⟨_, rfl⟩
          rw [hzl, hzs, hzm] at hix
          rw [hzs] at hs1 hsm hst
          rw [hlk] at hst hzl
          have hz0 : ((zs : Int) == 0) = false := by simp; omega
          obtain ⟨q, hq⟩ : ∃ q, m / zs = q := ⟨_, rfl⟩
          obtain ⟨r, hr⟩ : ∃ r, m % zs = r := ⟨_, rfl⟩
          have hqm : q ≤ m := by rw [← hq]; exact Nat.div_le_self _ _
          have hrm : r ≤ m := by rw [← hr]; exact Nat.mod_le _ _
          rw [hq, hr] at hst
          have e1 : IntKind.i64.wrap ((m : Int).tdiv (zs : Int)) = (q : Int) := by
            rw [show ((m : Int)).tdiv (zs : Int) = ((m / zs : Nat) : Int) from rfl, hq]; exact IntWalk.i64_in _ (by omega)
          have e2 : IntKind.i64.wrap ((m : Int).tmod (zs : Int)) = (r : Int) := by
            rw [show ((m : Int)).tmod (zs : Int) = ((m % zs : Nat) : Int) from rfl, hr]; exact IntWalk.i64_in _ (by omega)
          have e3 : (m : Int) / (zs : Int) = (q : Int) := by rw [← hq]; rfl
          have e4 : (m : Int) % (zs : Int) = (r : Int) := by rw [← hr]; rfl
          have bV := below_box0 wr (.cells #[.int .u8 zl, .int .i64 (zs : Int), .int .i64 zm] 64)
          have h6 : (wr.alloc (.cells #[.int .u8 zl, .int .i64 (zs : Int), .int .i64 zm] 64)).heap[wr.heap.size]? = some (.cells #[.int .u8 zl, .int .i64 (zs : Int), .int .i64 zm] 64 (0, 0)) := heap_alloc_new wr _
          have HBV := Lib.hid (HB.out.trans (bV.mono HB.out.size))
          have HNV := Lib.hid (bld_below HN.out bV)
          have HTV := Lib.hid (HTW.out.below HBV.out)
          have H6 := Lib.hid h6
          replace hzl := Lib.hid hzl
          clear bV h6 hzs hzm hlk
          by_cases hq0 : 0 < q
          · have hS := HS.out
            rw [hst hq0] at hS
            have hS2 : (l ++ Lib.decDigits q ++ [lk]) ++ spF (4 - (k + 1)) r = spF 4 n := by
              rw [← hS, show 4 - (k + 1) = 3 - k by omega]; simp
            have HS2 := Lib.hid hS2
            have hdl := dec_len (n := q) (by omega)
            have HDL := Lib.hid (dec_len (n := q) (by omega))
            have hq1 : q ≤ 1000000000000 := by omega
            clear hS hS2 hst hsm hq hr
            obtain ⟨D, hD⟩ : ∃ D, Lib.decDigits q = D := ⟨_, rfl⟩
            have HF := Lib.hid (fmt_ok q hq1)
            rw [hD] at HF HS2 hdl
            clear hD HDL
            go_wp2_with fail
            refine (HF.out _ HTV.out).mono ?_
            rintro e w1 ⟨rfl, b1⟩
            have HB1 := Lib.hid (HBV.out.trans (b1.mono HBV.out.size))
            have HN1 := Lib.hid (bld_below HNV.out b1)
            have H61 := Lib.hid ((b1.block _ (blk_lt H6.out)).trans H6.out)
            clear b1 HF HTV HNV H6
            go_wp2_with fail
            refine (wrStr (s := D) (by simp) HN1.out (by omega) HB1.out).mono ?_
            rintro e w2 ⟨v2, rfl, n2, b2, o2⟩
            have h62 := cell_kept_o o2 H61.out (by omega) (by decide)
            have k0 : w2.cell? ⟨wr.heap.size, 0, none⟩ = some (.int .u8 zl) := by rw [cell_of_block h62]; rfl
            have H62 := Lib.hid h62
            have HN2 := Lib.hid n2
            have HB2 := Lib.hid (HB1.out.trans b2)
            clear n2 b2 o2 h62
            go_wp2_with fail
            refine (wrByteZ lk hzl.out HN2.out (by rw [List.length_append]; omega) HB2.out).mono ?_
            rintro e w3 ⟨v3, rfl, n3, b3, o3⟩
            have h63 := cell_kept_o o3 H62.out (by omega) (by decide)
            have k1 : w3.cell? ⟨wr.heap.size, 1, none⟩ = some (.int .i64 (zs : Int)) := by rw [cell_of_block h63]; rfl
            have HN3 := Lib.hid n3
            have HB3 := Lib.hid (HB2.out.trans b3)
            have hlw3 : w.heap.size < w3.heap.size := by
              rcases HN3.out with h | h
              · exact h.lt
              · exact h.lt
            clear n3 b3 o3 h63 k0
            go_wp2_with fail
            go_roundw
            case rel => exact ⟨k + 1, r, l ++ D ++ [lk], by go_num, by rw [e4], by omega, by omega, by rw [List.length_append, List.length_append, List.length_singleton]; omega, HS2, HB3, HN3, hlw3⟩
            case measure => simp [intOf]; omega
          · have hS := HS.out
            have hmz : m < zs := by
              rcases Nat.lt_or_ge m zs with h' | h'
              · exact h'
              · exact absurd (by rw [← hq]; exact Nat.div_pos h' hs1) hq0
            rw [hsm hmz] at hS
            rw [Nat.mod_eq_of_lt hmz] at hr
            subst hr
            have HS2 : Hid (l ++ spF (4 - (k + 1)) m = spF 4 n) := Lib.hid (by rw [show 4 - (k + 1) = 3 - k by omega]; exact hS)
            have hq00 : q = 0 := by omega
            subst hq00
            have hlwV : w.heap.size < (wr.alloc (.cells #[.int .u8 zl, .int .i64 (zs : Int), .int .i64 zm] 64)).heap.size := by simp; omega
            clear hS hst hsm hq HB HN H6 HTV
            go_wp2_with fail
            go_roundw
            case rel => exact ⟨k + 1, m, l, by go_num, by rw [e4], by omega, by omega, by omega, HS2, HBV, HNV, hlwV⟩
            case measure => simp [intOf]; omega
        · obtain rfl : k = 4 := by omega
          go_wp2_with fail
          refine (Tryd.Builder_String_any_k w.heap.size w.heap.size _ _ HN.out HB.out.size).mono ?_
          rintro e' w2 ⟨rfl, h2, b2, _⟩
          have HB2 := Lib.hid (HB.out.trans b2)
          clear b2 h2
          go_wp2
          go_ret2
          refine ⟨⟨_, rfl, ?_⟩, HB2.out⟩
          have h4 := HS.out
          rw [Nat.sub_self, spF_zero, List.append_nil] at h4
          unfold spanL
          rw [if_neg hz, ← h4]
end Go.Proofs.YtmgpdaljminipaaDoor
