/- Refusals: Rest. -/
import Derived.Test.YtpjhedkloljpjaaDoorRRR5R
import Derived.BigRegion
namespace Go.Proofs.YtpjhedkloljpjaaDoorRR
open Go.RowKit Go.Sort Go.Joins Go.Shelf
attribute [local go_sem] cell_grow frozen_grow size_grow
attribute [local go_sem ↓] Go.wp_at_zero Go.wp_at_succ

/-- what Rest makes of a rule that is still to come -/
theorem rs_facts {x : Rl} (hx : RlOk x) {made : Int} (hm : 0 ≤ made) (hc : nxc x made ≠ 0) : made < nxc x made ∧ nxc x made ≤ made + 10000 ∧ x.2.1 ≤ nxc x made ∧
    ((decide (0 < x.2.2.1) = false ∧ rstX x made (nxc x made) = (x.1, nxc x made - made, x.2.2.1, x.2.2.2)) ∨
     (decide (0 < x.2.2.1) = true ∧ decide (0 < x.2.2.2) = false ∧ rstX x made (nxc x made) = (x.1, nxc x made - made, x.2.2.1, x.2.2.2)) ∨
     (∃ q : Int, decide (0 < x.2.2.1) = true ∧ decide (0 < x.2.2.2) = true ∧ (x.2.2.1 == 0) = false ∧ (nxc x made - x.2.1) / x.2.2.1 = q ∧ 0 ≤ q ∧ q ≤ 1000 ∧ 1 ≤ x.2.2.1 ∧ x.2.2.1 ≤ 12 ∧ rstX x made (nxc x made) = (x.1, nxc x made - made, x.2.2.1, x.2.2.2 - q))) := by
  have hr := rst_ok hx hm hc
  obtain ⟨a, b, _⟩ := (nxc_spec hx (n := made)).2 hc
  have hF := rfz_first b
  have e0 := hx.e0
  have e1 := hx.e1
  have t0 := hx.t0
  have t1 := hx.t1
  have f1 := hr.f1
  have r0 := hr.t0
  unfold rstX at hr f1 r0 ⊢
  dsimp only at f1 r0
  refine ⟨a, by omega, hF, ?_⟩
  by_cases h1 : 0 < x.2.2.1
  · by_cases h2 : 0 < x.2.2.2
    · rw [if_pos ⟨h1, h2⟩] at r0 ⊢
      refine .inr (.inr ⟨_, by simpa using h1, by simpa using h2, ?_, rfl, Int.ediv_nonneg (by omega) (by omega), by omega, by omega, e1, rfl⟩)
      rw [beq_eq_false_iff_ne]; omega
    · exact .inr (.inl ⟨by simpa using h1, by simpa using h2, by rw [if_neg (fun h => h2 h.2)]⟩)
  · exact .inl ⟨by simpa using h1, by rw [if_neg (fun h => h1 h.1)]⟩
/-- the calls that were made, as a function of the kind -/
def mdC (C : Nat → Int) (k : Int) : Int := if 0 ≤ k ∧ k < 7 then C k.toNat else 0
theorem mdC_at (C : Nat → Int) {k : Nat} (h : k < 7) : mdC C (k : Int) = C k := by
  unfold mdC; rw [if_pos (by omega), Int.toNat_natCast]
theorem mdC_ge {n : Nat} {R : Nat → Rl} {C H : Nat → Int} (h : csE n R C H = 0) (k : Int) : 0 ≤ mdC C k := by
  unfold mdC
  by_cases hk : 0 ≤ k ∧ k < 7
  · rw [if_pos hk]; exact ((csE_zero h).2 _ (by omega)).1
  · rw [if_neg hk]; exact Int.le_refl _
theorem rsL_no {R : Nat → Rl} {made : Int → Int} {m : Nat} (h : nxc (R m) (made (R m).1) = 0) : rsL R made (m + 1) = rsL R made m := by simp only [rsL]; rw [if_pos h]
theorem rsL_yes {R : Nat → Rl} {made : Int → Int} {m : Nat} (h : nxc (R m) (made (R m).1) ≠ 0) : rsL R made (m + 1) = rsL R made m ++ [rstX (R m) (made (R m).1) (nxc (R m) (made (R m).1))] := by simp only [rsL]; rw [if_neg h]
/-- the rules of the rest -/
def rsO (n : Nat) (R : Nat → Rl) (C H : Nat → Int) : List Rl := if csE n R C H = 0 then rsL R (mdC C) n else []
abbrev BoxP (W : World) (g : Nat) (a : Option Addr) (n c : Nat) : Prop := W.heap[g]? = some (.cells #[.slice a n c] 24 (0, 0))
section
variable {w : World} {a : Option Addr} {n c : Nat} {R : Nat → Rl} {C H : Nat → Int}
set_option maxRecDepth 100000 in
set_option maxHeartbeats 3200000 in
theorem Rest_c1 (hS : SlR w a n R) (hn : n ≤ 9223372036854775807) (e : Int) (he : e ≠ 0) (hce : csE n R C H = e) :
    Calls Tryd.prog 21 #[sV a n c C H] w fun ex w' => ex = .returned (.tuple #[pV none 0 0, .int .i64 e]) ∧ Below w.heap.size w w' := by
  have b0 : Below w.heap.size w ((w.alloc (.cells (sA a n c C H) 38)).alloc (.cells #[.slice none 0 0] 24)) := ((Below.refl _ w).alloc (Nat.le_refl _) _).alloc (by simp) _
  have HS := Lib.hid (hS.below b0)
  have HC := Lib.hid (chkst_ok (c := c) (C := C) (H := H) HS.out hn)
  have HB := Lib.hid b0
  have hnew : BoxP ((w.alloc (.cells (sA a n c C H) 38)).alloc (.cells #[.slice none 0 0] 24)) (w.heap.size + 1) none 0 0 := by
    have := heap_alloc_new (w.alloc (.cells (sA a n c C H) 38)) (.cells #[.slice none 0 0] 24)
    rw [World.size_alloc] at this
    exact this
  have HZ := Lib.hid hnew
  have HN := Lib.hid ((StC.new (a := a) (n := n) (c := c) (C := C) (H := H) w).below (below_box0 _ (.cells #[.slice none 0 0] 24)))
  clear b0 hS hnew
  rw [hce] at HC
  have d1 := bne0_true he
  clear hce he
  go_enter Tryd.func21, Tryd.ntmps21
  go_wp2_with fail
  refine HC.out.mono ?_
  rintro e1 w1 ⟨rfl, b1⟩
  have HB1 := Lib.hid (below_tr HB.out b1)
  have hz : BoxP w1 (w.heap.size + 1) none 0 0 := (b1.block _ (blk_lt HZ.out)).trans HZ.out
  have z0 : w1.cell? ⟨w.heap.size + 1, 0, none⟩ = some (.slice none 0 0) := by rw [cell_of_block hz]; rfl
  have zf := unfrozen_of_block hz 0
  clear b1 hz
  go_wp2
  refine bodyPost_ret (v := .tuple #[pV none 0 0, .int .i64 e]) ?hres rfl ?_
  case hres => simp [results, Tryd.results21, go_sem, z0]
  exact ⟨rfl, HB1.out.setCell (p := ⟨w.heap.size + 1, 0, none⟩) (by simp) _⟩
set_option maxRecDepth 100000 in
set_option maxHeartbeats 6400000 in
theorem Rest_c2 (hS : SlR w a n R) (hn : n ≤ 9223372036854775807) (hce : csE n R C H = 0) :
    Calls Tryd.prog 21 #[sV a n c C H] w fun ex w' => ∃ a' c', ex = .returned (.tuple #[pV a' (rsL R (mdC C) n).length c', .int .i64 0]) ∧ SlR w' a' (rsL R (mdC C) n).length (fun j => (rsL R (mdC C) n).getD j rl0) ∧ Below w.heap.size w w' := by
  obtain ⟨i0, hi, hz0, hz1, hz2⟩ := info_parts info_rule
  have b0 : Below w.heap.size w ((w.alloc (.cells (sA a n c C H) 38)).alloc (.cells #[.slice none 0 0] 24)) := ((Below.refl _ w).alloc (Nat.le_refl _) _).alloc (by simp) _
  have HS := Lib.hid (hS.below b0)
  have HC := Lib.hid (chkst_ok (c := c) (C := C) (H := H) HS.out hn)
  have HB := Lib.hid b0
  have hnew : BoxP ((w.alloc (.cells (sA a n c C H) 38)).alloc (.cells #[.slice none 0 0] 24)) (w.heap.size + 1) none 0 0 := by
    have := heap_alloc_new (w.alloc (.cells (sA a n c C H) 38)) (.cells #[.slice none 0 0] 24)
    rw [World.size_alloc] at this
    exact this
  have HZ := Lib.hid hnew
  have HN := Lib.hid ((StC.new (a := a) (n := n) (c := c) (C := C) (H := H) w).below (below_box0 _ (.cells #[.slice none 0 0] 24)))
  clear b0 hS hnew
  rw [hce] at HC
  obtain ⟨hp, hall⟩ := csE_zero hce
  have HRO := Lib.hid (pE_zero hp).2
  have hn50 := (pE_zero hp).1
  have HALL := Lib.hid hall
  clear hce hp hall
  go_enter Tryd.func21, Tryd.ntmps21
  go_wp2_with fail
  refine HC.out.mono ?_
  rintro e1 w1 ⟨rfl, b1⟩
  have HB1 := Lib.hid (below_tr HB.out b1)
  have HS1 := Lib.hid (HS.out.below b1)
  have HN1 := Lib.hid (HN.out.below b1)
  have HZ1 : Hid (BoxP w1 (w.heap.size + 1) none 0 0) := Lib.hid ((b1.block _ (blk_lt HZ.out)).trans HZ.out)
  have hsz : w.heap.size + 1 < w1.heap.size := blk_lt HZ1.out
  have hsz0 : w.heap.size < w1.heap.size := by omega
  have k0 := HN1.out.c0
  clear b1
  go_wp2
  go_loopw [20] (fun i wr => ∃ (k m : Nat) (a' : Option Addr) (c' : Nat), i = .int .i64 k ∧ k ≤ n ∧ Hid (m = (rsL R (mdC C) k).length) ∧ m ≤ k ∧ Hid (BoxP wr w1.heap.size a' m c') ∧ Hid (wr.ownsRow (w1.heap.size + 1) 57 4 (.slice a' m c') m (rlc (rsL R (mdC C) k))) ∧ Hid (Below w1.heap.size w1 wr)) (fun i _ => n - (intOf i).toNat)
  case atStart => exact ⟨0, 0, none, 0, rfl, by omega, Lib.hid rfl, by omega, Lib.hid (heap_alloc_new w1 _), Lib.hid (World.ownsRow_nil _ _ _ _), Lib.hid (below_box0 _ _)⟩
  case round =>
    obtain ⟨k, m, a', c', rfl, hk, HM, hm, HBX, HO, HK⟩ := hrel
    have hgr : w1.heap.size < wr.heap.size := blk_lt HBX.out
    have hsr : w.heap.size < wr.heap.size := by omega
    by_cases hlt : k < n
    · obtain ⟨b, o, ha, c0, c1, c2, c3⟩ := (HS1.out.below HK.out).at_ hlt
      subst ha
      have hRl := HRO.out k hlt
      have HNr := Lib.hid (HN1.out.below HK.out)
      obtain ⟨⟨K, F, E, T⟩, hR⟩ : ∃ x, R k = x := ⟨_, rfl⟩
      rw [hR] at c0 c1 c2 c3 hRl
      dsimp only at c0 c1 c2 c3
      have hK0 := hRl.k0
      have hK1 := hRl.k1
      dsimp only at hK0 hK1
      obtain ⟨q, rfl⟩ := Int.eq_ofNat_of_zero_le hK0
      have hq : q < 7 := by omega
      have hcC := HNr.out.cC hq
      obtain ⟨y, hy⟩ : ∃ y, C q = y := ⟨_, rfl⟩
      have hyb := HALL.out q hq
      rw [hy] at hcC hyb
      have hy0 := hyb.1
      have hy1 := hyb.2.1
      clear hyb
      have hmd : mdC C (R k).1 = y := by rw [hR, ← hy]; exact mdC_at C hq
      have HNX := Lib.hid (next_ok ((q : Int), F, E, T) hRl y)
      have hyes := rsL_yes (R := R) (made := mdC C) (m := k)
      have hno := rsL_no (R := R) (made := mdC C) (m := k)
      have hfac := fun h => rs_facts hRl hy0 h
      rw [hmd, hR] at hyes hno
      obtain ⟨f, hf⟩ : ∃ f, nxc ((q : Int), F, E, T) y = f := ⟨_, rfl⟩
      rw [hf] at HNX hyes hno hfac
      have hF0 := hRl.f0
      have hF1 := hRl.f1
      have hE0 := hRl.e0
      have hE1 := hRl.e1
      have hT0 := hRl.t0
      have hT1 := hRl.t1
      dsimp only at hF0 hF1 hE0 hE1 hT0 hT1 hfac
      have hli : (q : Int) < 7 := by omega
      have hkn : (k : Int) < (n : Int) := by omega
      have hk0 : (0 : Int) ≤ (k : Int) := by omega
      have dl : decide (k < n) = true := by simpa using hlt
      have dl2 : decide ((k : Int) < (n : Int)) = true := by simp; omega
      clear hK1 hR hy hmd hf hRl
      by_cases hf0 : f = 0
      · subst hf0
        have HY := Lib.hid (hno rfl)
        clear hyes hno hfac
        go_wp2_with fail
        refine (HNX.out _ (by omega) (by omega)).mono ?_
        rintro e1 w2 ⟨rfl, b2⟩
        have b02 : Below wr.heap.size wr w2 := below_tr (below_box0 wr (.cells #[.int .i64 (q : Int), .int .i64 F, .int .i64 E, .int .i64 T] 57)) b2
        have HB2 := Lib.hid b02
        clear b2 b02
        go_wp2
        go_roundw
        case rel => exact ⟨k + 1, m, a', c', by go_num, by omega, Lib.hid (by rw [HY.out]; exact HM.out), by omega, Lib.hid ((HB2.out.block _ hgr).trans HBX.out), Lib.hid (by rw [HY.out]; exact own_below HO.out HB2.out), Lib.hid (HK.out.trans (HB2.out.mono (by omega)))⟩
        case measure => simp [intOf]; omega
      · have HY := Lib.hid (hyes hf0)
        obtain ⟨g1, g2, g3, g4⟩ := hfac hf0
        have ef : (f == 0) = false := by simpa using hf0
        clear hyes hno hfac hf0
        go_wp2_with fail
        refine (HNX.out _ (by omega) (by omega)).mono ?_
        rintro e1 w2 ⟨rfl, b2⟩
        have b02 : Below wr.heap.size wr w2 := below_tr (below_box0 wr (.cells #[.int .i64 (q : Int), .int .i64 F, .int .i64 E, .int .i64 T] 57)) b2
        have hbh : w2.heap[wr.heap.size]? = some (.cells #[.int .i64 (q : Int), .int .i64 F, .int .i64 E, .int .i64 T] 57 (0, 0)) := (b2.block _ (by simp)).trans (heap_alloc_new wr _)
        have h0 : w2.cell? ⟨wr.heap.size, 0, none⟩ = some (.int .i64 (q : Int)) := by rw [cell_of_block hbh]; rfl
        have h1 : w2.cell? ⟨wr.heap.size, 1, none⟩ = some (.int .i64 F) := by rw [cell_of_block hbh]; rfl
        have h2 : w2.cell? ⟨wr.heap.size, 2, none⟩ = some (.int .i64 E) := by rw [cell_of_block hbh]; rfl
        have h3 : w2.cell? ⟨wr.heap.size, 3, none⟩ = some (.int .i64 T) := by rw [cell_of_block hbh]; rfl
        have hfr := unfrozen_of_block hbh
        have hbg : BoxP w2 w1.heap.size a' m c' := (b02.block _ hgr).trans HBX.out
        have hg0 : w2.cell? ⟨w1.heap.size, 0, none⟩ = some (.slice a' m c') := by rw [cell_of_block hbg]; rfl
        have hgne : ¬ w1.heap.size = wr.heap.size := by omega
        have hgne2 : ¬ wr.heap.size = w1.heap.size := by omega
        have hs2 : wr.heap.size < w2.heap.size := blk_lt hbh
        clear b2 hbh hbg
        rcases g4 with ⟨d1, hrx⟩ | ⟨d1, d2, hrx⟩ | ⟨Q, d1, d2, d3, d4, d5, d6, d7, d8, hrx⟩
        · skip
          have HRX := Lib.hid hrx
          clear hrx
          skip
          skip
          go_wp2_with (at_builtin; refine wpList_append_own _ rfl (.tmp 58) (.tmp 60) 22 rfl (w1.heap.size + 1) 57 i0 (.agg #[.int .i64 0, .int .i64 0, .int .i64 0, .int .i64 0]) 4 32 Tryd.underlying22 hi hz0 hz1 hz2 rfl (by decide) _ _ _ rfl ((own_below HO.out ?cb).alloc _) ⟨w2.heap.size, 0, none⟩ 1 1 [.int .i64 (q : Int), .int .i64 (f - y), .int .i64 E, .int .i64 T] rfl rfl ?c1 ?c2 ?c3 ?c4 ?c5 ?_)
          case cb => exact b02.setCell (p := ⟨wr.heap.size, 1, none⟩) (Nat.le_refl _) _
          case c1 => intro j u hu; match j with | 0 => (simp at hu; subst hu; simp [go_sem]) | 1 => (simp at hu; subst hu; simp [go_sem]) | 2 => (simp at hu; subst hu; simp [go_sem]) | 3 => (simp at hu; subst hu; simp [go_sem]) | j + 4 => simp at hu
          case c2 => intro u hu; simp at hu; rcases hu with rfl | rfl | rfl | rfl <;> rfl
          case c3 => unfold maxLen; omega
          case c4 => omega
          case c5 => simp; omega
          intro v' w3 hown hgrow _
          obtain ⟨a2, c2', rfl⟩ := own_slice hown
          have hb3 : Below (w1.heap.size + 1) wr w3 := (((((b02.setCell (p := ⟨wr.heap.size, 1, none⟩) (Nat.le_refl _) _) : Below wr.heap.size wr _).mono (by omega)).alloc (by simp; omega) _)).grown hgrow (by simp; omega) (fun r e => by have := (HO.out.lt r e).1; omega)
          have hbx3 : BoxP w3 w1.heap.size a' m c' := (hb3.block _ (by omega)).trans HBX.out
          have x0 : w3.cell? ⟨w1.heap.size, 0, none⟩ = some (.slice a' m c') := by rw [cell_of_block hbx3]; rfl
          have xf := unfrozen_of_block hbx3 0
          have HOW := Lib.hid hown
          have HB3 := Lib.hid hb3
          have HX3 := Lib.hid hbx3
          clear hown hgrow hb3 hbx3
          go_wp2
          go_roundw
          case rel =>
            have hne' : (Value.slice a2 (m + 1) c2').ownBlock ≠ some (⟨w1.heap.size, 0, none⟩ : Addr).block := fun e => by have := (HOW.out.lt _ e).1; dsimp only at this; omega
            refine ⟨k + 1, m + 1, a2, c2', by go_num, by omega, Lib.hid (by rw [HY.out, List.length_append, ← HM.out]; rfl), by omega, Lib.hid ((setCell_block HX3.out _).trans (by simp)), Lib.hid ?_, Lib.hid ((HK.out.trans (HB3.out.mono (by omega))).setCell (p := ⟨w1.heap.size, 0, none⟩) (Nat.le_refl _) _)⟩
            rw [HY.out, HRX.out, rlc_snoc]
            exact ownsRow_setCell_other HOW.out hne' _
          case measure => simp [intOf]; omega
        · skip
          have HRX := Lib.hid hrx
          clear hrx
          skip
          skip
          go_wp2_with (at_builtin; refine wpList_append_own _ rfl (.tmp 58) (.tmp 60) 22 rfl (w1.heap.size + 1) 57 i0 (.agg #[.int .i64 0, .int .i64 0, .int .i64 0, .int .i64 0]) 4 32 Tryd.underlying22 hi hz0 hz1 hz2 rfl (by decide) _ _ _ rfl ((own_below HO.out ?cb).alloc _) ⟨w2.heap.size, 0, none⟩ 1 1 [.int .i64 (q : Int), .int .i64 (f - y), .int .i64 E, .int .i64 T] rfl rfl ?c1 ?c2 ?c3 ?c4 ?c5 ?_)
          case cb => exact b02.setCell (p := ⟨wr.heap.size, 1, none⟩) (Nat.le_refl _) _
          case c1 => intro j u hu; match j with | 0 => (simp at hu; subst hu; simp [go_sem]) | 1 => (simp at hu; subst hu; simp [go_sem]) | 2 => (simp at hu; subst hu; simp [go_sem]) | 3 => (simp at hu; subst hu; simp [go_sem]) | j + 4 => simp at hu
          case c2 => intro u hu; simp at hu; rcases hu with rfl | rfl | rfl | rfl <;> rfl
          case c3 => unfold maxLen; omega
          case c4 => omega
          case c5 => simp; omega
          intro v' w3 hown hgrow _
          obtain ⟨a2, c2', rfl⟩ := own_slice hown
          have hb3 : Below (w1.heap.size + 1) wr w3 := (((((b02.setCell (p := ⟨wr.heap.size, 1, none⟩) (Nat.le_refl _) _) : Below wr.heap.size wr _).mono (by omega)).alloc (by simp; omega) _)).grown hgrow (by simp; omega) (fun r e => by have := (HO.out.lt r e).1; omega)
          have hbx3 : BoxP w3 w1.heap.size a' m c' := (hb3.block _ (by omega)).trans HBX.out
          have x0 : w3.cell? ⟨w1.heap.size, 0, none⟩ = some (.slice a' m c') := by rw [cell_of_block hbx3]; rfl
          have xf := unfrozen_of_block hbx3 0
          have HOW := Lib.hid hown
          have HB3 := Lib.hid hb3
          have HX3 := Lib.hid hbx3
          clear hown hgrow hb3 hbx3
          go_wp2
          go_roundw
          case rel =>
            have hne' : (Value.slice a2 (m + 1) c2').ownBlock ≠ some (⟨w1.heap.size, 0, none⟩ : Addr).block := fun e => by have := (HOW.out.lt _ e).1; dsimp only at this; omega
            refine ⟨k + 1, m + 1, a2, c2', by go_num, by omega, Lib.hid (by rw [HY.out, List.length_append, ← HM.out]; rfl), by omega, Lib.hid ((setCell_block HX3.out _).trans (by simp)), Lib.hid ?_, Lib.hid ((HK.out.trans (HB3.out.mono (by omega))).setCell (p := ⟨w1.heap.size, 0, none⟩) (Nat.le_refl _) _)⟩
            rw [HY.out, HRX.out, rlc_snoc]
            exact ownsRow_setCell_other HOW.out hne' _
          case measure => simp [intOf]; omega
        · skip
          have HRX := Lib.hid hrx
          clear hrx
          go_wp2_with fail
          go_region
          go_wp2_with (at_builtin; refine wpList_append_own _ rfl (.tmp 58) (.tmp 60) 22 rfl (w1.heap.size + 1) 57 i0 (.agg #[.int .i64 0, .int .i64 0, .int .i64 0, .int .i64 0]) 4 32 Tryd.underlying22 hi hz0 hz1 hz2 rfl (by decide) _ _ _ rfl ((own_below HO.out ?cb).alloc _) ⟨w2.heap.size, 0, none⟩ 1 1 [.int .i64 (q : Int), .int .i64 (f - y), .int .i64 E, .int .i64 (T - Q)] rfl rfl ?c1 ?c2 ?c3 ?c4 ?c5 ?_)
          case cb => exact (b02.setCell (p := ⟨wr.heap.size, 3, none⟩) (Nat.le_refl _) _).setCell (p := ⟨wr.heap.size, 1, none⟩) (Nat.le_refl _) _
          case c1 => intro j u hu; match j with | 0 => (simp at hu; subst hu; simp [go_sem]) | 1 => (simp at hu; subst hu; simp [go_sem]) | 2 => (simp at hu; subst hu; simp [go_sem]) | 3 => (simp at hu; subst hu; simp [go_sem]) | j + 4 => simp at hu
          case c2 => intro u hu; simp at hu; rcases hu with rfl | rfl | rfl | rfl <;> rfl
          case c3 => unfold maxLen; omega
          case c4 => omega
          case c5 => simp; omega
          intro v' w3 hown hgrow _
          obtain ⟨a2, c2', rfl⟩ := own_slice hown
          have hb3 : Below (w1.heap.size + 1) wr w3 := ((((((b02.setCell (p := ⟨wr.heap.size, 3, none⟩) (Nat.le_refl _) _).setCell (p := ⟨wr.heap.size, 1, none⟩) (Nat.le_refl _) _) : Below wr.heap.size wr _).mono (by omega)).alloc (by simp; omega) _).drew).grown hgrow (by simp; omega) (fun r e => by have := (HO.out.lt r e).1; omega)
          have hbx3 : BoxP w3 w1.heap.size a' m c' := (hb3.block _ (by omega)).trans HBX.out
          have x0 : w3.cell? ⟨w1.heap.size, 0, none⟩ = some (.slice a' m c') := by rw [cell_of_block hbx3]; rfl
          have xf := unfrozen_of_block hbx3 0
          have HOW := Lib.hid hown
          have HB3 := Lib.hid hb3
          have HX3 := Lib.hid hbx3
          clear hown hgrow hb3 hbx3
          go_wp2
          go_roundw
          case rel =>
            have hne' : (Value.slice a2 (m + 1) c2').ownBlock ≠ some (⟨w1.heap.size, 0, none⟩ : Addr).block := fun e => by have := (HOW.out.lt _ e).1; dsimp only at this; omega
            refine ⟨k + 1, m + 1, a2, c2', by go_num, by omega, Lib.hid (by rw [HY.out, List.length_append, ← HM.out]; rfl), by omega, Lib.hid ((setCell_block HX3.out _).trans (by simp)), Lib.hid ?_, Lib.hid ((HK.out.trans (HB3.out.mono (by omega))).setCell (p := ⟨w1.heap.size, 0, none⟩) (Nat.le_refl _) _)⟩
            rw [HY.out, HRX.out, rlc_snoc]
            exact ownsRow_setCell_other HOW.out hne' _
          case measure => simp [intOf]; omega
    · have dl : decide (k < n) = false := by simpa using hlt
      have dl2 : decide ((k : Int) < (n : Int)) = false := by simp; omega
      obtain rfl : n = k := by omega
      have hbz : BoxP wr (w.heap.size + 1) none 0 0 := (HK.out.block _ hsz).trans HZ1.out
      have z0 : wr.cell? ⟨w.heap.size + 1, 0, none⟩ = some (.slice none 0 0) := by rw [cell_of_block hbz]; rfl
      have zf := unfrozen_of_block hbz 0
      have x0 : wr.cell? ⟨w1.heap.size, 0, none⟩ = some (.slice a' m c') := by rw [cell_of_block HBX.out]; rfl
      clear hbz
      go_wp2
      (try simp only [Exit.inBlock, Exit.then])
      refine bodyPost_ret (v := .tuple #[pV a' m c', .int .i64 0]) ?hres rfl ?_
      case hres => simp [results, Tryd.results21, go_sem, z0, x0]
      have hne' : (Value.slice a' m c').ownBlock ≠ some (⟨w.heap.size + 1, 0, none⟩ : Addr).block := fun e => by have := (HO.out.lt _ e).1; dsimp only at this; omega
      have hO2 := ownsRow_setCell_other HO.out hne' (.slice a' m c')
      refine ⟨a', c', by rw [← HM.out], ?_, (HB1.out.trans (HK.out.mono (by omega))).setCell (p := ⟨w.heap.size + 1, 0, none⟩) (by simp) _⟩
      rw [HM.out] at hO2
      rw [← HM.out] at hO2 ⊢
      have := SlR.of_own (L := rsL R (mdC C) n) (by rw [← HM.out]; exact hO2)
      rw [← HM.out] at this
      exact this
theorem Rest_ok (hS : SlR w a n R) (hn : n ≤ 9223372036854775807) :
    Calls Tryd.prog 21 #[sV a n c C H] w fun ex w' => ∃ a' c', ex = .returned (.tuple #[pV a' (rsO n R C H).length c', .int .i64 (csE n R C H)]) ∧ SlR w' a' (rsO n R C H).length (fun j => (rsO n R C H).getD j rl0) ∧ Below w.heap.size w w' := by
  by_cases he : csE n R C H = 0
  · have e : rsO n R C H = rsL R (mdC C) n := if_pos he
    rw [e, he]
    exact Rest_c2 hS hn he
  · have e : rsO n R C H = [] := if_neg he
    rw [e]
    refine (Rest_c1 hS hn _ he rfl).mono ?_
    rintro ex w' ⟨rfl, hb⟩
    exact ⟨none, 0, rfl, .inl rfl, hb⟩
end
end Go.Proofs.YtpjhedkloljpjaaDoorRR
