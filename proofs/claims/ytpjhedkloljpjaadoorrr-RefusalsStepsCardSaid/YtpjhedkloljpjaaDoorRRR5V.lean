/- Refusals: Rest of the reference. -/
import Derived.Test.YtpjhedkloljpjaaDoorRRR5U
import Derived.Test.YtpjhedkloljpjaaDoorRRR5Q
namespace Go.Proofs.YtpjhedkloljpjaaDoorRR
open Go.RowKit Go.Sort Go.Joins Go.Shelf
attribute [local go_sem] cell_grow frozen_grow size_grow
attribute [local go_sem ↓] Go.wp_at_zero Go.wp_at_succ
section
variable {w : World} {a : Option Addr} {n c : Nat} {R : Nat → Rl} {C H : Nat → Int}
set_option maxRecDepth 100000 in
set_option maxHeartbeats 3200000 in
theorem rRest_c1 (hS : SlR w a n R) (hn : n ≤ 9223372036854775807) (e : Int) (he : e ≠ 0) (hce : csE n R C H = e) :
    Calls Tryd.prog 29 #[sV a n c C H] w fun ex w' => ex = .returned (.tuple #[pV none 0 0, .int .i64 e]) ∧ Below w.heap.size w w' := by
  have b0 : Below w.heap.size w ((w.alloc (.cells (sA a n c C H) 38)).alloc (.cells #[.slice none 0 0] 24)) := ((Below.refl _ w).alloc (Nat.le_refl _) _).alloc (by simp) _
  have HS := Lib.hid (hS.below b0)
  have HC := Lib.hid (rchkst_ok (c := c) (C := C) (H := H) HS.out hn)
  have HB := Lib.hid b0
  have hnew : BoxP ((w.alloc (.cells (sA a n c C H) 38)).alloc (.cells #[.slice none 0 0] 24)) (w.heap.size + 1) none 0 0 := by
    have := heap_alloc_new (w.alloc (.cells (sA a n c C H) 38)) (.cells #[.slice none 0 0] 24)
    rw [World.size_alloc] at this
    exact this
  have HZ := Lib.hid hnew
  have HN := Lib.hid ((StC.new (a := a) (n := n) (c := c) (C := C) (H := H) w).below (below_box0 _ (.cells #[.slice none 0 0] 24)))
  clear b0 hS hnew
  rw [hce] at HC
  have d1 := bne0_true he
  clear hce he
  go_enter Tryd.func29, Tryd.ntmps29
  go_wp2_with fail
  refine HC.out.mono ?_
  rintro e1 w1 ⟨rfl, b1⟩
  have HB1 := Lib.hid (below_tr HB.out b1)
  have hz : BoxP w1 (w.heap.size + 1) none 0 0 := (b1.block _ (blk_lt HZ.out)).trans HZ.out
  have z0 : w1.cell? ⟨w.heap.size + 1, 0, none⟩ = some (.slice none 0 0) := by rw [cell_of_block hz]; rfl
  have zf := unfrozen_of_block hz 0
  clear b1 hz
  go_wp2
  refine bodyPost_ret (v := .tuple #[pV none 0 0, .int .i64 e]) ?hres rfl ?_
  case hres => simp [results, Tryd.results29, go_sem, z0]
  exact ⟨rfl, HB1.out.setCell (p := ⟨w.heap.size + 1, 0, none⟩) (by simp) _⟩
/-- the measure of the loop over the calls of a rule -/
def rsM (y : Int) (h : Nat) (s : Value) (wx : World) : Nat := (match s with | .bool true => 1 | _ => 0) + (y + 1 - intOf ((wx.cell? ⟨h, 1, none⟩).getD undef)).toNat
set_option maxRecDepth 100000 in
set_option maxHeartbeats 6400000 in
theorem rRest_c2 (hS : SlR w a n R) (hn : n ≤ 9223372036854775807) (hce : csE n R C H = 0) :
    Calls Tryd.prog 29 #[sV a n c C H] w fun ex w' => ∃ a' c', ex = .returned (.tuple #[pV a' (rsL R (mdC C) n).length c', .int .i64 0]) ∧ SlR w' a' (rsL R (mdC C) n).length (fun j => (rsL R (mdC C) n).getD j rl0) ∧ Below w.heap.size w w' := by
  obtain ⟨i0, hi, hz0, hz1, hz2⟩ := info_parts info_rule
  have b0 : Below w.heap.size w ((w.alloc (.cells (sA a n c C H) 38)).alloc (.cells #[.slice none 0 0] 24)) := ((Below.refl _ w).alloc (Nat.le_refl _) _).alloc (by simp) _
  have HS := Lib.hid (hS.below b0)
  have HC := Lib.hid (rchkst_ok (c := c) (C := C) (H := H) HS.out hn)
  have HB := Lib.hid b0
  have hnew : BoxP ((w.alloc (.cells (sA a n c C H) 38)).alloc (.cells #[.slice none 0 0] 24)) (w.heap.size + 1) none 0 0 := by
    have := heap_alloc_new (w.alloc (.cells (sA a n c C H) 38)) (.cells #[.slice none 0 0] 24)
    rw [World.size_alloc] at this
    exact this
  have HZ := Lib.hid hnew
  have HN := Lib.hid ((StC.new (a := a) (n := n) (c := c) (C := C) (H := H) w).below (below_box0 _ (.cells #[.slice none 0 0] 24)))
  clear b0 hS hnew
  rw [hce] at HC
  obtain ⟨hp, hall⟩ := csE_zero hce
  have HRO := Lib.hid (pE_zero hp).2
  have hn50 := (pE_zero hp).1
  have HALL := Lib.hid hall
  clear hce hp hall
  go_enter Tryd.func29, Tryd.ntmps29
  go_wp2_with fail
  refine HC.out.mono ?_
  rintro e1 w1 ⟨rfl, b1⟩
  have HB1 := Lib.hid (below_tr HB.out b1)
  have HS1 := Lib.hid (HS.out.below b1)
  have HN1 := Lib.hid (HN.out.below b1)
  have HZ1 : Hid (BoxP w1 (w.heap.size + 1) none 0 0) := Lib.hid ((b1.block _ (blk_lt HZ.out)).trans HZ.out)
  have hsz : w.heap.size + 1 < w1.heap.size := blk_lt HZ1.out
  have hsz0 : w.heap.size < w1.heap.size := by omega
  clear b1
  go_wp2
  go_loopw [6] (fun i wr => ∃ (k m : Nat) (a' : Option Addr) (c' : Nat), i = .int .i64 k ∧ k ≤ n ∧ Hid (m = (rsL R (mdC C) k).length) ∧ m ≤ k ∧ Hid (BoxP wr w1.heap.size a' m c') ∧ Hid (wr.ownsRow (w1.heap.size + 1) 57 4 (.slice a' m c') m (rlc (rsL R (mdC C) k))) ∧ Hid (Below w1.heap.size w1 wr)) (fun i _ => n - (intOf i).toNat)
  case atStart => exact ⟨0, 0, none, 0, rfl, by omega, Lib.hid rfl, by omega, Lib.hid (heap_alloc_new w1 _), Lib.hid (World.ownsRow_nil _ _ _ _), Lib.hid (below_box0 _ _)⟩
  case round =>
    obtain ⟨k, m, a', c', rfl, hk, HM, hm, HBX, HO, HK⟩ := hrel
    have hgr : w1.heap.size < wr.heap.size := blk_lt HBX.out
    have hsr : w.heap.size < wr.heap.size := by omega
    have HNr := Lib.hid (HN1.out.below HK.out)
    have k0 := HNr.out.c0
    by_cases hlt : k < n
    · obtain ⟨b, o, ha, c0, c1, c2, c3⟩ := (HS1.out.below HK.out).at_ hlt
      subst ha
      have hRl := HRO.out k hlt
      obtain ⟨⟨K, F, E, T⟩, hR⟩ : ∃ x, R k = x := ⟨_, rfl⟩
      rw [hR] at c0 c1 c2 c3 hRl
      dsimp only at c0 c1 c2 c3
      have hK0 := hRl.k0
      have hK1 := hRl.k1
      dsimp only at hK0 hK1
      obtain ⟨q, rfl⟩ := Int.eq_ofNat_of_zero_le hK0
      have hq : q < 7 := by omega
      have hcC := HNr.out.cC hq
      obtain ⟨y, hy⟩ : ∃ y, C q = y := ⟨_, rfl⟩
      have hyb := HALL.out q hq
      rw [hy] at hcC hyb
      have hy0 := hyb.1
      have hy1 := hyb.2.1
      clear hyb
      have hmd : mdC C (R k).1 = y := by rw [hR, ← hy]; exact mdC_at C hq
      have hyes := rsL_yes (R := R) (made := mdC C) (m := k)
      have hno := rsL_no (R := R) (made := mdC C) (m := k)
      rw [hmd, hR] at hyes hno
      have HYES := Lib.hid hyes
      have HNO := Lib.hid hno
      have HRL := Lib.hid hRl
      have hF0 := hRl.f0
      have hF1 := hRl.f1
      have hE0 := hRl.e0
      have hE1 := hRl.e1
      have hT0 := hRl.t0
      have hT1 := hRl.t1
      dsimp only at hF0 hF1 hE0 hE1 hT0 hT1
      have hli : (q : Int) < 7 := by omega
      have hkn : (k : Int) < (n : Int) := by omega
      have hk0 : (0 : Int) ≤ (k : Int) := by omega
      have dl : decide (k < n) = true := by simpa using hlt
      have dl2 : decide ((k : Int) < (n : Int)) = true := by simp; omega
      clear hK1 hR hy hmd hRl hyes hno
      go_wp2
      obtain ⟨V, hV⟩ : ∃ V, V = wr := ⟨_, rfl⟩
      subst hV
      go_loopw [9] (fun s wx => ∃ (left : Bool) (F' T' : Int), s = .bool left ∧ 1 ≤ F' ∧ F' ≤ 1000012 ∧ 0 ≤ T' ∧ T' ≤ 1000 ∧ Hid (RsAt ((q : Int), F, E, T) y F' T' left) ∧ Hid (wx.heap[V.heap.size]? = some (.cells #[.int .i64 (q : Int), .int .i64 F', .int .i64 E, .int .i64 T'] 57 (0, 0))) ∧ Hid (Below V.heap.size V wx)) (fun s wx => rsM y V.heap.size s wx)
      case atStart => exact ⟨true, F, T, rfl, hF0, by omega, hT0, hT1, Lib.hid (RsAt.start HRL.out y), Lib.hid (heap_alloc_new V _), Lib.hid (below_box0 _ _)⟩
      case round =>
        obtain ⟨left, F', T', rfl, f0, f1, t0, t1, HAT, HBH, HBW⟩ := hrel
        have h0 : wr.cell? ⟨V.heap.size, 0, none⟩ = some (.int .i64 (q : Int)) := by rw [cell_of_block HBH.out]; rfl
        have h1 : wr.cell? ⟨V.heap.size, 1, none⟩ = some (.int .i64 F') := by rw [cell_of_block HBH.out]; rfl
        have h2 : wr.cell? ⟨V.heap.size, 2, none⟩ = some (.int .i64 E) := by rw [cell_of_block HBH.out]; rfl
        have h3 : wr.cell? ⟨V.heap.size, 3, none⟩ = some (.int .i64 T') := by rw [cell_of_block HBH.out]; rfl
        have hfr := unfrozen_of_block HBH.out
        cases left with
        | false =>
          have HY := Lib.hid (HNO.out HAT.out.none)
          go_wp2
          go_roundw
          case rel => exact ⟨k + 1, m, a', c', by go_num, by omega, Lib.hid (by rw [HY.out]; exact HM.out), by omega, Lib.hid ((HBW.out.block _ hgr).trans HBX.out), Lib.hid (by rw [HY.out]; exact own_below HO.out HBW.out), Lib.hid (HK.out.trans (HBW.out.mono (by omega)))⟩
          case measure => simp [intOf]; omega
        | true =>
         by_cases hle : F' ≤ y
         · have d1 : decide (F' ≤ y) = true := by simpa using hle
           have hst := HAT.out.step HRL.out hle
           obtain ⟨tb, dT⟩ : ∃ tb, (T' != 1) = tb := ⟨_, rfl⟩
           dsimp only at hst
           by_cases hE : 0 < E
           · have d2 : decide (0 < E) = true := by simpa using hE
             by_cases hT : 1 < T'
             · have d3 : decide (1 < T') = true := by simpa using hT
               rw [d2, dT, if_pos hT] at hst
               have HST := Lib.hid hst
               clear hst
               go_wp2
               go_roundw
               case rel => exact ⟨tb, F' + E, (T' - 1), rfl, by omega, by omega, by omega, by omega, Lib.hid HST.out, Lib.hid ((setCell_block ((setCell_block HBH.out _).trans rfl) _).trans (by simp)), Lib.hid ((HBW.out.setCell (p := ⟨V.heap.size, 1, none⟩) (Nat.le_refl _) _).setCell (p := ⟨V.heap.size, 3, none⟩) (Nat.le_refl _) _)⟩
               case measure => cases tb <;> (simp [rsM, h1, intOf, go_sem]; omega)
             · have d3 : decide (1 < T') = false := by simpa using hT
               rw [d2, dT, if_neg hT] at hst
               have HST := Lib.hid hst
               clear hst
               go_wp2
               go_roundw
               case rel => exact ⟨tb, F' + E, T', rfl, by omega, by omega, by omega, by omega, Lib.hid HST.out, Lib.hid ((setCell_block HBH.out _).trans (by simp)), Lib.hid (HBW.out.setCell (p := ⟨V.heap.size, 1, none⟩) (Nat.le_refl _) _)⟩
               case measure => cases tb <;> (simp [rsM, h1, intOf, go_sem]; omega)
           · have d2 : decide (0 < E) = false := by simpa using hE
             by_cases hT : 1 < T'
             · have d3 : decide (1 < T') = true := by simpa using hT
               rw [d2, if_pos hT] at hst
               have HST := Lib.hid hst
               clear hst
               go_wp2
               go_roundw
               case rel => exact ⟨false, F' + E, (T' - 1), rfl, by omega, by omega, by omega, by omega, Lib.hid (by simpa using HST.out), Lib.hid ((setCell_block ((setCell_block HBH.out _).trans rfl) _).trans (by simp)), Lib.hid ((HBW.out.setCell (p := ⟨V.heap.size, 1, none⟩) (Nat.le_refl _) _).setCell (p := ⟨V.heap.size, 3, none⟩) (Nat.le_refl _) _)⟩
               case measure => (simp [rsM, h1, intOf, go_sem]; omega)
             · have d3 : decide (1 < T') = false := by simpa using hT
               rw [d2, if_neg hT] at hst
               have HST := Lib.hid hst
               clear hst
               go_wp2
               go_roundw
               case rel => exact ⟨false, F' + E, T', rfl, by omega, by omega, by omega, by omega, Lib.hid (by simpa using HST.out), Lib.hid ((setCell_block HBH.out _).trans (by simp)), Lib.hid (HBW.out.setCell (p := ⟨V.heap.size, 1, none⟩) (Nat.le_refl _) _)⟩
               case measure => (simp [rsM, h1, intOf, go_sem]; omega)
         · skip
           have d1 : decide (F' ≤ y) = false := by simpa using hle
           obtain ⟨hnx, hrx⟩ := HAT.out.out HRL.out (by omega)
           have HY := Lib.hid (HYES.out (by rw [hnx]; omega))
           rw [hnx, hrx] at HY
           have hbg : BoxP wr w1.heap.size a' m c' := (HBW.out.block _ hgr).trans HBX.out
           have hg0 : wr.cell? ⟨w1.heap.size, 0, none⟩ = some (.slice a' m c') := by rw [cell_of_block hbg]; rfl
           have hgne : ¬ w1.heap.size = V.heap.size := by omega
           have hgne2 : ¬ V.heap.size = w1.heap.size := by omega
           have hs2 : V.heap.size < wr.heap.size := blk_lt HBH.out
           clear hbg hnx hrx hle
           go_wp2_with (at_builtin; refine wpList_append_own _ rfl (.tmp 70) (.tmp 72) 22 rfl (w1.heap.size + 1) 57 i0 (.agg #[.int .i64 0, .int .i64 0, .int .i64 0, .int .i64 0]) 4 32 Tryd.underlying22 hi hz0 hz1 hz2 rfl (by decide) _ _ _ rfl ((own_below HO.out ?cb).alloc _) ⟨wr.heap.size, 0, none⟩ 1 1 [.int .i64 (q : Int), .int .i64 (F' - y), .int .i64 E, .int .i64 T'] rfl rfl ?c1 ?c2 ?c3 ?c4 ?c5 ?_)
           case cb => exact HBW.out.setCell (p := ⟨V.heap.size, 1, none⟩) (Nat.le_refl _) _
           try case c1 => intro j u hu; match j with | 0 => (simp at hu; subst hu; simp [go_sem]) | 1 => (simp at hu; subst hu; simp [go_sem]) | 2 => (simp at hu; subst hu; simp [go_sem]) | 3 => (simp at hu; subst hu; simp [go_sem]) | j + 4 => simp at hu
           case c2 => exact ⟨rfl, rfl, rfl, rfl⟩
           case c3 => unfold maxLen; omega
           case c4 => omega
           case c5 => omega
           intro v' w3 hown hgrow _
           obtain ⟨a2, c2', rfl⟩ := own_slice hown
           have hb3 : Below (w1.heap.size + 1) V w3 := ((((HBW.out.setCell (p := ⟨V.heap.size, 1, none⟩) (Nat.le_refl _) _) : Below V.heap.size V _).mono (by omega)).alloc (by simp; omega) _).grown hgrow (by simp; omega) (fun r e => by have := (HO.out.lt r e).1; omega)
           have hbx3 : BoxP w3 w1.heap.size a' m c' := (hb3.block _ (by omega)).trans HBX.out
           have x0 : w3.cell? ⟨w1.heap.size, 0, none⟩ = some (.slice a' m c') := by rw [cell_of_block hbx3]; rfl
           have xf := unfrozen_of_block hbx3 0
           have HOW := Lib.hid hown
           have HB3 := Lib.hid hb3
           have HX3 := Lib.hid hbx3
           clear hown hgrow hb3 hbx3
           go_wp2
           go_roundw
           case rel =>
             have hne' : (Value.slice a2 (m + 1) c2').ownBlock ≠ some (⟨w1.heap.size, 0, none⟩ : Addr).block := fun e => by have := (HOW.out.lt _ e).1; dsimp only at this; omega
             refine ⟨k + 1, m + 1, a2, c2', by go_num, by omega, Lib.hid (by rw [HY.out, List.length_append, ← HM.out]; rfl), by omega, Lib.hid ((setCell_block HX3.out _).trans (by simp)), Lib.hid ?_, Lib.hid ((HK.out.trans (HB3.out.mono (by omega))).setCell (p := ⟨w1.heap.size, 0, none⟩) (Nat.le_refl _) _)⟩
             rw [HY.out, rlc_snoc]
             exact ownsRow_setCell_other HOW.out hne' _
           case measure => simp [intOf]; omega
    · have dl : decide (k < n) = false := by simpa using hlt
      have dl2 : decide ((k : Int) < (n : Int)) = false := by simp; omega
      obtain rfl : n = k := by omega
      have hbz : BoxP wr (w.heap.size + 1) none 0 0 := (HK.out.block _ hsz).trans HZ1.out
      have z0 : wr.cell? ⟨w.heap.size + 1, 0, none⟩ = some (.slice none 0 0) := by rw [cell_of_block hbz]; rfl
      have zf := unfrozen_of_block hbz 0
      have x0 : wr.cell? ⟨w1.heap.size, 0, none⟩ = some (.slice a' m c') := by rw [cell_of_block HBX.out]; rfl
      clear hbz
      go_wp2
      (try simp only [Exit.inBlock, Exit.then])
      refine bodyPost_ret (v := .tuple #[pV a' m c', .int .i64 0]) ?hres rfl ?_
      case hres => simp [results, Tryd.results29, go_sem, z0, x0]
      have hne' : (Value.slice a' m c').ownBlock ≠ some (⟨w.heap.size + 1, 0, none⟩ : Addr).block := fun e => by have := (HO.out.lt _ e).1; dsimp only at this; omega
      have hO2 := ownsRow_setCell_other HO.out hne' (.slice a' m c')
      refine ⟨a', c', by rw [← HM.out], ?_, (HB1.out.trans (HK.out.mono (by omega))).setCell (p := ⟨w.heap.size + 1, 0, none⟩) (by simp) _⟩
      have := SlR.of_own (L := rsL R (mdC C) n) (by rw [← HM.out]; exact hO2)
      rw [← HM.out] at this ⊢
      exact this
theorem rRest_ok (hS : SlR w a n R) (hn : n ≤ 9223372036854775807) :
    Calls Tryd.prog 29 #[sV a n c C H] w fun ex w' => ∃ a' c', ex = .returned (.tuple #[pV a' (rsO n R C H).length c', .int .i64 (csE n R C H)]) ∧ SlR w' a' (rsO n R C H).length (fun j => (rsO n R C H).getD j rl0) ∧ Below w.heap.size w w' := by
  by_cases he : csE n R C H = 0
  · have e : rsO n R C H = rsL R (mdC C) n := if_pos he
    rw [e, he]
    exact rRest_c2 hS hn he
  · have e : rsO n R C H = [] := if_neg he
    rw [e]
    refine (rRest_c1 hS hn _ he rfl).mono ?_
    rintro ex w' ⟨rfl, hb⟩
    exact ⟨none, 0, rfl, .inl rfl, hb⟩
end
end Go.Proofs.YtpjhedkloljpjaaDoorRR
