/- Clocks: ClockOrder returns true. -/
import Derived.Test.YtjceahbikdncmaaDoorC9O
import Derived.Test.YtjceahbikdncmaaDoorLawParts
namespace Go.Proofs.YtjceahbikdncmaaDoor
open Go.RowKit Go.Sort Go.Joins Go.Shelf
attribute [local go_sem] cell_grow frozen_grow size_grow Oper.semAt_some
theorem sumA_le {R : Nat → Al} {u : Int} {n : Nat} (h : ∀ i, i < n → 0 ≤ cntA (R i).2 u) : ∀ {m : Nat}, m ≤ n → sumA R u m ≤ sumA R u n ∧ 0 ≤ sumA R u m := by
  have h0 : ∀ m, m ≤ n → 0 ≤ sumA R u m := by
    intro m
    induction m with
    | zero => intro _; exact Int.le_refl _
    | succ m ih =>
      intro hm
      have := ih (by omega)
      have := h m (by omega)
      simp only [sumA]
      omega
  have h1 : ∀ d m, m + d = n → sumA R u m ≤ sumA R u n := by
    intro d
    induction d with
    | zero => intro m hm; rw [← hm]; exact Int.le_refl _
    | succ d ih =>
      intro m hm
      have := ih (m + 1) (by omega)
      have := h m (by omega)
      have e : sumA R u (m + 1) = sumA R u m + cntA (R m).2 u := rfl
      omega
  exact fun {m} hm => ⟨h1 (n - m) m (by omega), h0 m hm⟩
section
variable (a : Option Addr) (n c : Nat) (R : Nat → Al) (u : Int) (w : World)
set_option maxRecDepth 100000 in
set_option maxHeartbeats 3200000 in
theorem order_far (hS : SlA w a n R) (hn : n ≤ 9223372036854775807) (hR : ∀ j, j < n → AlB (R j)) (hT : T9 w) (hF : farB n R = true) :
    Calls Tryd.prog 6 #[pV a n c, .int .i64 u] w fun e w' => e = .returned (.bool true) ∧ Below w.heap.size w w' := by
  have b0 := below_box0 w (.cells #[.slice a n c] 24)
  have HB0 := Lib.hid b0
  have HT := Lib.hid hT
  have HF := Lib.hid (far_ok (c := c) (hS.below b0) hn hR)
  rw [hF] at HF
  clear b0 hS hn hR hT hF
  go_enter Tryd.func6, Tryd.ntmps6
  go_wp2_with fail
  refine HF.out.mono ?_
  rintro e w1 ⟨rfl, b1⟩
  have HB1 := Lib.hid (below_tr HB0.out b1)
  clear b1
  go_wp2_with fail
  refine (shown_ok _ (HT.out.below HB1.out)).mono ?_
  rintro e w2 ⟨rfl, b2⟩
  have HB2 := Lib.hid (below_tr HB1.out b2)
  clear b2
  go_wp2
  go_ret
  exact ⟨rfl, HB2.out⟩
set_option maxRecDepth 100000 in
set_option maxHeartbeats 3200000 in
theorem order_bad (hS : SlA w a n R) (hn : n ≤ 9223372036854775807) (hR : ∀ j, j < n → AlB (R j)) (hT : T9 w) (hF : farB n R = false) (hE : rnE n R u ≠ 0) :
    Calls Tryd.prog 6 #[pV a n c, .int .i64 u] w fun e w' => e = .returned (.bool true) ∧ Below w.heap.size w w' := by
  have b0 := below_box0 w (.cells #[.slice a n c] 24)
  have HB0 := Lib.hid b0
  have HT := Lib.hid hT
  have HX0 : Hid (BoxP (w.alloc (.cells #[.slice a n c] 24)) w.heap.size a n c) := Lib.hid (heap_alloc_new w _)
  have HF := Lib.hid (far_ok (c := c) (hS.below b0) hn hR)
  rw [hF] at HF
  have HR := Lib.hid (fun (W : World) (hb : Below w.heap.size w W) => run_bad (c := c) (hS.below hb) hn hR hE)
  obtain ⟨e0, he0⟩ : ∃ e, rnE n R u = e := ⟨_, rfl⟩
  rw [he0] at HR hE
  have d1 := bne0_true hE
  clear b0 hS hn hR hT hF hE he0
  go_enter Tryd.func6, Tryd.ntmps6
  go_wp2_with fail
  refine HF.out.mono ?_
  rintro e w1 ⟨rfl, b1⟩
  have HX1 := Lib.hid (HX0.out.below b1)
  have HB1 := Lib.hid (below_tr HB0.out b1)
  have k0 := HX1.out.cell
  clear b1
  go_wp2_with fail
  refine (HR.out _ HB1.out).mono ?_
  rintro e w2 ⟨rfl, b2⟩
  have HB3 := Lib.hid (below_tr (below_tr HB1.out b2) (below_box0 w2 (.cells #[.slice none 0 0] 24)))
  clear b2 k0
  go_wp2_with fail
  refine (shown_ok _ (HT.out.below HB3.out)).mono ?_
  rintro e w4 ⟨rfl, b4⟩
  have HB4 := Lib.hid (below_tr HB3.out b4)
  clear b4
  go_wp2
  go_ret
  exact ⟨rfl, HB4.out⟩
set_option maxRecDepth 100000 in
set_option maxHeartbeats 6400000 in
theorem order_in (hS : SlA w a n R) (hn : n ≤ 9223372036854775807) (hR : ∀ j, j < n → AlB (R j)) (hT : T9 w) (hF : farB n R = false) (hE : rnE n R u = 0) :
    Calls Tryd.prog 6 #[pV a n c, .int .i64 u] w fun e w' => e = .returned (.bool true) ∧ Below w.heap.size w w' := by
  have b0 := below_box0 w (.cells #[.slice a n c] 24)
  have HB0 := Lib.hid b0
  have HT := Lib.hid hT
  have HS := Lib.hid hS
  have HX0 : Hid (BoxP (w.alloc (.cells #[.slice a n c] 24)) w.heap.size a n c) := Lib.hid (heap_alloc_new w _)
  have HF := Lib.hid (far_ok (c := c) (hS.below b0) hn hR)
  rw [hF] at HF
  obtain ⟨hct, hsum⟩ := rnE_zero hE
  obtain ⟨hce, hu0, hu1⟩ := ctE_zero hct
  have hp := cE_zero hce
  have HP := Lib.hid hp
  have hn50 := hp.n50
  have huM : u ≤ MT := by rw [MT_eq]; exact hu1
  have HUM := Lib.hid huM
  have HU := Lib.hid (fun (W : World) (hb : Below w.heap.size w W) => run_good (c := c) (hS.below hb) hn hR hE)
  have HNX := Lib.hid (fun (W : World) (hb : Below w.heap.size w W) => next_ok (c := c) (hS.below hb) hn hR hp)
  clear b0 hS hR hT hF hE hct hsum hce hp huM
  go_enter Tryd.func6, Tryd.ntmps6
  go_wp2_with fail
  refine HF.out.mono ?_
  rintro e w1 ⟨rfl, b1⟩
  have HX1 := Lib.hid (HX0.out.below b1)
  have HB1 := Lib.hid (below_tr HB0.out b1)
  have k0 := HX1.out.cell
  have l0 := blk_lt HX1.out
  clear b1
  go_wp2_with fail
  refine (HU.out _ HB1.out).mono ?_
  rintro e w2 ⟨aL, cL, aQ, cQ, L, rfl, gL, gQ, okL, hl, b2⟩
  have b3 := below_box0 w2 (.cells #[.slice aQ (rstA R u n).length cQ] 24)
  have b23 := below_tr b2 b3
  have HB3 := Lib.hid (below_tr HB1.out b23)
  have HX3 := Lib.hid (HX1.out.below b23)
  have GL3 := Lib.hid ((gL.below b3).congr (R := fun j => (L.map (rgN R)).getD j rn0) (Q := rgA R L) (fun j hj => rgA_map R L hj))
  have HOK := Lib.hid okL
  clear k0 l0 b2 b3 b23 gL gQ okL HX1 HB1 HX0 HB0 HF HU
  go_upto_region 6 with fail
  obtain ⟨W3, hW3⟩ : ∃ W, w2.alloc (.cells #[.slice aQ (rstA R u n).length cQ] 24) = W := ⟨_, rfl⟩
  rw [hW3] at HB3 HX3 GL3 ⊢
  clear hW3
  go_wp2
  go_loopw [8] (fun i wr => ∃ k : Nat, i = .int .i64 ((k : Int) + 1) ∧ Hid (Below W3.heap.size W3 wr)) (fun i _ => L.length + 1 - (intOf i).toNat)
  case atStart => exact ⟨0, rfl, Lib.hid (Below.refl _ _)⟩
  case round =>
    obtain ⟨k, rfl, HB⟩ := hrel
    by_cases hlt : k + 1 < L.length
    · have hX : ((k + 1 : Nat) : Int) = (k : Int) + 1 := by simp
      have hX2 : (k : Int) + 1 - 1 = (k : Int) := by omega
      have hk0 : (0 : Int) ≤ (k : Int) := by omega
      have hkm : (k : Int) + 1 < (L.length : Int) := by omega
      have hkm0 : (k : Int) < (L.length : Int) := by omega
      have hkn : (0 : Int) ≤ (k : Int) + 1 := by omega
      obtain ⟨b, o, rfl, g0, g1⟩ := (GL3.out.below HB.out).at_ (show k < L.length by omega)
      obtain ⟨b', o', hbb, h0, h1⟩ := (GL3.out.below HB.out).at_ hlt
      obtain ⟨rfl, rfl⟩ : b = b' ∧ o = o' := by simpa using hbb
      have hord := ord_at HP.out HOK.out (show 1 ≤ k + 1 by omega) hlt
      rw [show k + 1 - 1 = k by omega] at hord
      obtain ⟨s, t, hst⟩ : ∃ s t, rgA R L k = (s, t) := ⟨_, _, rfl⟩
      obtain ⟨s', t', hst'⟩ : ∃ s t, rgA R L (k + 1) = (s, t) := ⟨_, _, rfl⟩
      rw [hst] at g0 g1 hord
      rw [hst'] at h0 h1 hord
      dsimp only at g0 g1 h0 h1 hord
      clear hst hst' hbb
      rcases hord with hd | ⟨hd, d1, d2, d3⟩
      · have e1 : decide (t' < t) = false := by simp; omega
        have e2 : (t' == t) = false := by simp; omega
        clear hd
        go_wp2_with fail
        go_quiet (fail)
        go_wp2
        go_roundw
        case rel => exact ⟨k + 1, by go_num, Lib.hid (HB.out.trans ((below_draw _ _).mono HB.out.size))⟩
        case measure => simp [intOf]; omega
      · have e1 : decide (t' < t) = false := by simp; omega
        have e2 : (t' == t) = true := by simp; omega
        clear hd
        go_wp2_with fail
        go_quiet (fail)
        go_wp2
        go_roundw
        case rel => exact ⟨k + 1, by go_num, Lib.hid (HB.out.trans ((below_draw _ _).mono HB.out.size))⟩
        case measure => simp [intOf]; omega
    · have dl : decide ((k : Int) + 1 < (L.length : Int)) = false := by simp; omega
      have HB4 := Lib.hid (below_tr HB3.out HB.out)
      have HX4 := Lib.hid (HX3.out.below HB.out)
      have GL4 := Lib.hid (GL3.out.below HB.out)
      go_upto_region 11 with fail
      clear dl HB hlt HX3 GL3 HB3
      have HSL : Hid ((L.length : Int) = sumA R u n) := Lib.hid HOK.out.len
      obtain ⟨W4, hW4⟩ : ∃ W, W = wr := ⟨_, rfl⟩
      subst hW4
      go_wp2
      go_loopw [9, 10] (fun s i wr => ∃ (k : Nat) (S : Int), i = .int .i64 k ∧ k ≤ n ∧ s = .int .i64 S ∧ Hid (S = sumA R u k) ∧ Hid (Below W4.heap.size W4 wr)) (fun _ i _ => n - (intOf i).toNat)
      case atStart => exact ⟨0, 0, rfl, Nat.zero_le _, rfl, Lib.hid rfl, Lib.hid (Below.refl _ _)⟩
      case round =>
        obtain ⟨k, S, rfl, hk, rfl, HSu, HB⟩ := hrel
        have HBr := Lib.hid (below_tr HB4.out HB.out)
        have HXr := Lib.hid (HX4.out.below HB.out)
        have k0 := HXr.out.cell
        have l0 := blk_lt HXr.out
        by_cases hlt : k < n
        · obtain ⟨b, o, rfl, g0, g1, g2⟩ := (HS.out.below HBr.out).at_ hlt
          have hbl := World.block_lt_of_cell? _ _ g0
          dsimp only at hbl
          have hal := HP.out.ok k hlt
          have a0 := hal.a0
          have a1 := hal.a1
          rw [MT_eq] at a1
          have hw := cnt_ways hal hu0 hu1
          have hca := Lib.hid (cnk_all HP.out HUM.out HOK.out hlt)
          have hsl := sumA_le (R := R) (u := u) (n := n) (fun i hi => (cntA_ge (HP.out.ok i hi) HUM.out).1) (Nat.le_of_lt hlt)
          have hsl1 := sumA_le (R := R) (u := u) (n := n) (fun i hi => (cntA_ge (HP.out.ok i hi) HUM.out).1) (m := k + 1) hlt
          have hs1 : sumA R u (k + 1) = S + cntA (R k).2 u := by rw [HSu.out]; rfl
          rw [← HSu.out, ← HSL.out] at hsl
          rw [← HSL.out, hs1] at hsl1
          have HS1 := Lib.hid hs1
          have hcg := (cntA_ge hal HUM.out).1
          have HAT := Lib.hid (fun j (hj : j < L.length) (h2 : (L.getD j rz).2 = k) => cnk_at HP.out HUM.out HOK.out hj hlt h2)
          obtain ⟨C, hC⟩ : ∃ C, cntA (R k).2 u = C := ⟨_, rfl⟩
          rw [hC] at hw hca hsl1 HS1 hcg
          obtain ⟨s, x, p, hXX⟩ : ∃ s x p, R k = (s, x, p) := ⟨_, _, _, rfl⟩
          have HNE := Lib.hid (fun j (hj : j < L.length) => name_eq (i := (L.getD j rz).2) (k := k) HP.out ((HOK.out.mem _).1 (getD_mem hj)).1 hlt)
          rw [hXX] at g0 g1 g2 hw a0 a1 HAT HNE
          dsimp only at g0 g1 g2 hw a0 a1 HAT HNE
          have e0 : 0 ≤ p := by have := hal.e0; rw [hXX] at this; exact this
          clear hXX hC hs1 hal
          have bV := below_box0 wr (.cells #[.string s, .int .i64 x, .int .i64 p] 47)
          have HBV := Lib.hid bV
          have H11 : Hid ((wr.alloc (.cells #[.string s, .int .i64 x, .int .i64 p] 47)).heap[wr.heap.size]? = some (.cells #[.string s, .int .i64 x, .int .i64 p] 47 (0, 0))) := Lib.hid (heap_alloc_new wr _)
          clear bV
          rcases hw with ⟨d1, d1', hv⟩ | ⟨d1, d1', d2, d2', hv⟩ | ⟨q, d1, d1', d2, d2', d3, e1, e2, e3, e4, e5, e6, e7, hv⟩
          all_goals
            subst hv
            go_upto_region 21 with fail
            obtain ⟨V, hV⟩ : ∃ V, wr.alloc (.cells #[.string s, .int .i64 x, .int .i64 p] 47) = V := ⟨_, rfl⟩
            rw [hV] at HBV H11 ⊢
            have HBV' := Lib.hid (below_tr HB.out HBV.out)
            have HBW := Lib.hid (below_tr HB4.out HBV'.out)
            have GLV := Lib.hid (GL4.out.below HBV'.out)
            have HXV := Lib.hid (HXr.out.below HBV.out)
            obtain ⟨g, hg⟩ : ∃ g, wr.heap.size = g := ⟨_, rfl⟩
            rw [hg] at H11 ⊢
            clear hV k0 l0 g0 g1 g2 hbl hg HBV HXr HB HBr
            go_wp2
            go_loopw [13, 14] (fun cc i wr => ∃ j : Nat, i = .int .i64 j ∧ j ≤ L.length ∧ cc = .int .i64 ((cnk L k j : Nat) : Int) ∧ Hid (Below V.heap.size V wr)) (fun _ i _ => L.length - (intOf i).toNat)
            case atStart => exact ⟨0, rfl, Nat.zero_le _, by rw [cnk_zero]; rfl, Lib.hid (Below.refl _ _)⟩
            case round =>
              obtain ⟨j, rfl, hj, rfl, HBI⟩ := hrel
              have H11i := Lib.hid ((HBI.out.block _ (blk_lt H11.out)).trans H11.out)
              have ks0 : wr.cell? ⟨g, 0, none⟩ = some (.string s) := by rw [cell_of_block H11i.out]; rfl
              have ks1 : wr.cell? ⟨g, 1, none⟩ = some (.int .i64 x) := by rw [cell_of_block H11i.out]; rfl
              have ks2 : wr.cell? ⟨g, 2, none⟩ = some (.int .i64 p) := by rw [cell_of_block H11i.out]; rfl
              by_cases hjl : j < L.length
              · obtain ⟨b1, o1, rfl, h0, h1⟩ := (GLV.out.below HBI.out).at_ hjl
                have hne := HNE.out j hjl
                rw [← str_eq] at hne
                have hat := HAT.out j hjl
                have hmem := ((HOK.out.mem _).1 (getD_mem hjl)).2
                obtain ⟨_, _, hm0, hm1⟩ := hmem
                have hcl := cnk_le L k j
                have hli : (j : Int) < (L.length : Int) := by omega
                have hj0 : (0 : Int) ≤ (j : Int) := by omega
                have er : rgA R L j = ((R (L.getD j rz).2).1, (L.getD j rz).1) := rfl
                rw [er] at h0 h1
                have HIT := Lib.hid (fun h => cnk_hit (k := k) hjl h)
                have HMI := Lib.hid (fun h => cnk_miss (k := k) hjl h)
                obtain ⟨ix, hix⟩ : ∃ ix, (L.getD j rz).2 = ix := ⟨_, rfl⟩
                obtain ⟨t', ht'⟩ : ∃ t, (L.getD j rz).1 = t := ⟨_, rfl⟩
                rw [hix] at h0 h1 hne hat HIT HMI
                rw [ht'] at h0 h1 hat hm0 hm1
                obtain ⟨s', hs'⟩ : ∃ s, (R ix).1 = s := ⟨_, rfl⟩
                rw [hs'] at h0 h1 hne
                dsimp only at h0 h1
                obtain ⟨cN, hcN⟩ : ∃ m, cnk L k j = m := ⟨_, rfl⟩
                rw [hcN] at hat hcl HIT HMI ⊢
                clear er hix ht' hs' hcN
                by_cases hjk : ix = k
                · rw [decide_eq_true hjk] at hne
                  have hat' := hat hjk
                  have hpn := Int.mul_nonneg (show (0 : Int) ≤ (cN : Int) by omega) e0
                  have hw1 : IntKind.i64.wrap ((cN : Int) * p) = (cN : Int) * p := IntWalk.i64_in _ (by omega)
                  have hw2 : IntKind.i64.wrap (x + (cN : Int) * p) = x + (cN : Int) * p := IntWalk.i64_in _ (by omega)
                  have hnq : (t' != x + (cN : Int) * p) = false := by rw [hat']; simp
                  have HIT' := Lib.hid (HIT.out hjk)
                  clear hat hat' hpn hjk
                  go_wp2_with fail
                  go_quiet (fail)
                  go_wp2_with fail
                  go_quiet (fail)
                  go_wp2
                  go_roundw
                  case rel => exact ⟨j + 1, by go_num, by omega, by rw [HIT'.out]; go_num, Lib.hid (HBI.out.trans ((below_draw _ _).mono HBI.out.size))⟩
                  case measure => simp [intOf]; omega
                · rw [decide_eq_false hjk] at hne
                  have HMI' := Lib.hid (HMI.out hjk)
                  clear hat hjk
                  go_wp2_with fail
                  go_quiet (fail)
                  go_wp2
                  go_roundw
                  case rel => exact ⟨j + 1, by go_num, by omega, by rw [HMI'.out], Lib.hid (HBI.out.trans ((below_draw _ _).mono HBI.out.size))⟩
                  case measure => simp [intOf]; omega
              · obtain rfl : j = L.length := by omega
                rw [hca.out]
                go_wp2
                go_roundw
                case rel => exact ⟨k + 1, _, by go_num, by omega, rfl, Lib.hid (by have := HS1.out; omega), Lib.hid (below_tr HBV'.out HBI.out)⟩
                case measure => simp [intOf]; omega
        · obtain rfl : k = n := by omega
          have hSe : S = (L.length : Int) := HSu.out.trans HSL.out.symm
          subst hSe
          have k0 := HXr.out.cell
          go_wp2_with fail
          refine (HNX.out _ HBr.out).mono ?_
          clear k0 l0 hlt
          rintro e w9 ⟨⟨vs, vt⟩, f', rfl, hv, b9⟩
          have b10 := below_box0 w9 (.cells #[.string vs, .int .i64 vt] 45)
          have b910 := below_tr b9 b10
          have HB10 := Lib.hid (below_tr HBr.out b910)
          have HV10 : Hid ((w9.alloc (.cells #[.string vs, .int .i64 vt] 45)).heap[w9.heap.size]? = some (.cells #[.string vs, .int .i64 vt] 45 (0, 0))) := Lib.hid (heap_alloc_new w9 _)
          have GL10 := Lib.hid (GL4.out.below (below_tr HB.out b910))
          have HNV := Lib.hid hv
          clear b9 b10 b910 hv
          go_upto_region 32 with fail
          obtain ⟨W10, hW10⟩ : ∃ W, w9.alloc (.cells #[.string vs, .int .i64 vt] 45) = W := ⟨_, rfl⟩
          rw [hW10] at HB10 HV10 GL10 ⊢
          obtain ⟨g15, hg15⟩ : ∃ g, w9.heap.size = g := ⟨_, rfl⟩
          rw [hg15] at HV10 ⊢
          clear hW10 hg15
          by_cases h0 : L.length = 0
          · have d0 : decide ((0 : Int) < (L.length : Int)) = false := decide_eq_false (by omega)
            go_wp2_with fail
            go_quiet (fail)
            go_wp2_with fail
            refine (shown_ok _ (HT.out.below (HB10.out.trans ((below_draw _ _).mono HB10.out.size)))).mono ?_
            rintro e w13 ⟨rfl, b13⟩
            have HB13 := Lib.hid (below_tr (HB10.out.trans ((below_draw _ _).mono HB10.out.size)) b13)
            clear b13
            go_wp2
            go_ret
            exact ⟨rfl, HB13.out⟩
          · have d0 : decide ((0 : Int) < (L.length : Int)) = true := decide_eq_true (by omega)
            have dl : (0 : Int) < (L.length : Int) := by omega
            have key : f' = 0 ∧ (vs, vt) = rgA R L 0 := by
              obtain ⟨y, L', hLc⟩ : ∃ y L', L = y :: L' := by
                cases hL : L with
                | nil => rw [hL] at h0; exact absurd rfl h0
                | cons y L' => exact ⟨y, L', rfl⟩
              have hok := HOK.out
              rw [hLc] at hok
              rcases HNV.out with ⟨e, x, e2, hG⟩ | hSR
              · refine ⟨e, ?_⟩
                have := hG.first HP.out HUM.out hok
                rw [e2, hLc, ← this]; rfl
              · exact (hSR.none HP.out HUM.out hok).elim
            obtain ⟨rfl, hv2⟩ := key
            obtain ⟨b, o, rfl, g0, g1⟩ := GL10.out.at_ (show 0 < L.length by omega)
            rw [← hv2] at g0 g1
            dsimp only at g0 g1
            rw [Nat.zero_mul, Nat.add_zero] at g0 g1
            have c0 : W10.cell? ⟨g15, 0, none⟩ = some (.string vs) := by rw [cell_of_block HV10.out]; rfl
            have c1 : W10.cell? ⟨g15, 1, none⟩ = some (.int .i64 vt) := by rw [cell_of_block HV10.out]; rfl
            have hneq := neq_ring (vs, vt) (vs, vt)
            rw [decide_eq_true (rfl : (vs, vt) = (vs, vt))] at hneq
            have hgd := guardG
            obtain ⟨lm, hlm⟩ : ∃ m, L.length = m := ⟨_, rfl⟩
            rw [hlm] at d0 dl ⊢
            have dlm : 0 < lm := by omega
            clear hv2 h0 hlm HSL
            go_wp2_with fail
            go_quiet (fail)
            clear hneq hgd c0 c1 g0 g1 dl
            go_wp2_with fail
            refine (shown_ok _ (HT.out.below (HB10.out.trans ((below_draw _ _).mono HB10.out.size)))).mono ?_
            rintro e w13 ⟨rfl, b13⟩
            have HB13 := Lib.hid (below_tr (HB10.out.trans ((below_draw _ _).mono HB10.out.size)) b13)
            clear b13
            go_wp2
            go_ret
            exact ⟨rfl, HB13.out⟩
theorem law_order (hS : SlA w a n R) (hn : n ≤ 9223372036854775807) (hR : ∀ j, j < n → AlB (R j)) (hT : T9 w) :
    Calls Tryd.prog 6 #[pV a n c, .int .i64 u] w fun e w' => e = .returned (.bool true) ∧ Below w.heap.size w w' := by
  cases hF : farB n R with
  | true => exact order_far a n c R u w hS hn hR hT hF
  | false =>
    by_cases hE : rnE n R u = 0
    · exact order_in a n c R u w hS hn hR hT hF hE
    · exact order_bad a n c R u w hS hn hR hT hF hE
end
end Go.Proofs.YtjceahbikdncmaaDoor
