/- Refusals: RefusalsPrints returns true. -/
import Derived.Test.YtgbdhmdaefbglaaDoorR5J
import Derived.Test.YtgbdhmdaefbglaaDoorR5Lb
import Derived.Test.YtgbdhmdaefbglaaDoorR5Lc
import Derived.Test.YtgbdhmdaefbglaaDoorR5Sp
namespace Go.Proofs.YtgbdhmdaefbglaaDoor
open Go.RowKit Go.Sort Go.Joins Go.Shelf
attribute [local go_sem] cell_grow frozen_grow size_grow

theorem rlE_of {x : Rl} (h : RlOk x) : rlE x = 0 := by
  obtain ⟨h1, h2, h3, h4, h5, h6, h7, h8, h9⟩ := h
  exact (rlE_good (by omega) (by omega) (by rintro ⟨a, b⟩; exact b (h9 a))).symm
theorem mapR_getD {R : Nat → Rl} {n j : Nat} (hj : j < n) : ((List.range n).map R).getD j rl0 = R j := by simp [List.getD, hj]
/-- what is printed is read -/
theorem ps5_text {n : Nat} {R : Nat → Rl} (h : pE n R = 0) : ps5 (textB R n) = ((List.range n).map R, 0, 0) := by
  obtain ⟨hn, hR⟩ := pE_zero h
  obtain ⟨hE, hL⟩ := text_lines hn hR
  have hln : ∀ j, j < n → ((List.range n).map fun i => line0 (R i)).getD j [] = line0 (R j) := fun j hj => by simp [List.getD, hj]
  have hlen : (lnsL (textB R n)).length = n := by rw [hL]; simp
  have hall : ∀ j, j < (lnsL (textB R n)).length → lnP ((lnsL (textB R n)).getD j []) ≠ none := by
    intro j hj
    rw [hlen] at hj
    rw [hL, hln j hj, ln_line (hR j hj)]
    intro e; cases e
  have hrl : ∀ k, k ≤ n → rlsL (lnsL (textB R n)) k = (List.range k).map R := by
    intro k
    induction k with
    | zero => intro _; rfl
    | succ k ih =>
      intro hk
      rw [rls_step (x := R k) (by omega) (by rw [hL, hln k (by omega)]; exact ln_line (hR k (by omega))), ih (by omega), List.range_succ, List.map_append]
      rfl
  have hQ : (List.range n).map R = rlsL (lnsL (textB R n)) (lnsL (textB R n)).length := by rw [hlen, hrl n (Nat.le_refl _)]
  rw [ps5_good hE hall hQ]
  have hl2 : ((List.range n).map R).length = n := by simp
  rw [hl2, if_neg (by omega)]
  have hp : pE n (fun j => ((List.range n).map R).getD j rl0) = 0 := (p_good (by omega) (fun j hj => by rw [mapR_getD hj]; exact rlE_of (hR j hj))).2.symm
  rw [if_neg (fun hc => hc hp)]
theorem self_ne (S : ByteArray) : (S.toList == S.toList) = true := by simp
set_option maxRecDepth 100000 in
set_option maxHeartbeats 3200000 in
theorem law_prints {w : World} {a : Option Addr} {n c : Nat} {R : Nat → Rl} (hS : SlR w a n R) (hn : n ≤ 9223372036854775807) (hT : T5 w) (hTW : TW w) (hM : ML w) :
    Calls Tryd.prog 3 #[pV a n c] w fun e w' => e = .returned (.bool true) ∧ Below w.heap.size w w' := by
  have b0 := below_box0 w (.cells #[.slice a n c] 24)
  have HB := Lib.hid b0
  have HP := Lib.hid (heap_alloc_new w (.cells #[.slice a n c] 24))
  have k0 : (w.alloc (.cells #[.slice a n c] 24)).cell? ⟨w.heap.size, 0, none⟩ = some (.slice a n c) := by rw [cell_of_block HP.out]; rfl
  have HF := Lib.hid (far_ok a n c hn (w.alloc (.cells #[.slice a n c] 24)))
  have hfn := farB_no (n := n)
  obtain ⟨r, hr⟩ : ∃ r, farB n = r := ⟨_, rfl⟩
  rw [hr] at HF hfn
  have HT := Lib.hid hT
  have HTW := Lib.hid hTW
  have HM := Lib.hid hM
  have HS := Lib.hid hS
  clear b0 hr hT hTW hM hS
  go_enter Tryd.func3, Tryd.ntmps3
  go_wp2_with fail
  refine HF.out.mono ?_
  rintro e w1 ⟨rfl, b1⟩
  have HB1 := Lib.hid (below_tr HB.out b1)
  have HP1 := Lib.hid ((b1.block _ (blk_lt HP.out)).trans HP.out)
  clear b1 k0 HB HP HF
  have k1 : w1.cell? ⟨w.heap.size, 0, none⟩ = some (.slice a n c) := by rw [cell_of_block HP1.out]; rfl
  cases r
  · have hn2 := hfn rfl
    clear hfn
    by_cases hp : pE n R = 0
    · have hn50 := (pE_zero hp).1
      have HPR := Lib.hid (print_ok (c := c) (HS.out.below HB1.out) hn50 hp (HT.out.below HB1.out))
      have HPS := Lib.hid (ps5_text hp)
      have hp' := hp
      have HE := Lib.hid hp
      clear hp hp' hn2
      go_wp2_with fail
      refine HPR.out.mono ?_
      rintro e w2 ⟨rfl, b2⟩
      have HB2 := Lib.hid (below_tr HB1.out b2)
      have HP2 := Lib.hid ((b2.block _ (blk_lt HP1.out)).trans HP1.out)
      have k2 : w2.cell? ⟨w.heap.size, 0, none⟩ = some (.slice a n c) := by rw [cell_of_block HP2.out]; rfl
      have HRP := Lib.hid (rprint_ok (c := c) (HS.out.below HB2.out) hn50 HE.out)
      clear b2 k1 HPR HB1 HP1
      go_wp2_with fail
      refine HRP.out.mono ?_
      rintro e w3 ⟨rfl, b3⟩
      have HB3 := Lib.hid (below_tr HB2.out b3)
      have HP3 := Lib.hid ((b3.block _ (blk_lt HP2.out)).trans HP2.out)
      have k3 : w3.cell? ⟨w.heap.size, 0, none⟩ = some (.slice a n c) := by rw [cell_of_block HP3.out]; rfl
      have hpa := parse_ok ⟨(textB R n).toArray⟩ (textB R n) (by simp) w3 (HT.out.below HB3.out) (HTW.out.below HB3.out) (HM.out.below HB3.out)
      rw [HPS.out] at hpa
      have HPA := Lib.hid hpa
      have hsl := self_ne ⟨(textB R n).toArray⟩
      obtain ⟨TX, hTX⟩ : ∃ t : ByteArray, ⟨(textB R n).toArray⟩ = t := ⟨_, rfl⟩
      rw [hTX] at HPA hsl ⊢
      clear b3 k2 HRP HB2 HP2 hpa hTX HPS
      go_wp2_with fail
      refine HPA.out.mono ?_
      rintro e w4 ⟨a4, c4, rfl, hS4, b4⟩
      rw [show ((List.range n).map R).length = n by simp] at hS4 ⊢
      have bb := below_box0 w4 (.cells #[.slice a4 n c4] 24)
      have HB4 := Lib.hid (below_tr (below_tr HB3.out b4) bb)
      have hp4 := (bb.block _ (Nat.lt_of_lt_of_le (blk_lt HP3.out) b4.size)).trans ((b4.block _ (blk_lt HP3.out)).trans HP3.out)
      have k4 : (w4.alloc (.cells #[.slice a4 n c4] 24)).cell? ⟨w.heap.size, 0, none⟩ = some (.slice a n c) := by rw [cell_of_block hp4]; rfl
      have HSP := Lib.hid (samePlan_ok (c := c) (d := c4) (HS.out.below HB4.out) hn (hS4.below bb) hn)
      rw [spB_yes (fun j hj => (mapR_getD hj).symm)] at HSP
      clear b4 bb hp4 hS4 k3 HPA HB3 HP3
      go_wp2_with fail
      refine HSP.out.mono ?_
      rintro e w5 ⟨rfl, b5⟩
      have HB5 := Lib.hid (below_tr HB4.out b5)
      clear b5 k4 HSP HB4
      go_wp2_with fail
      refine (shown_ok _ (HT.out.below HB5.out)).mono ?_
      rintro e w6 ⟨rfl, b6⟩
      have HB6 := Lib.hid (below_tr HB5.out b6)
      go_wp2_with fail
      go_ret
      exact ⟨rfl, HB6.out⟩
    · have HPR := Lib.hid (print_bad (c := c) (HS.out.below HB1.out) hn hp)
      obtain ⟨E, hE⟩ : ∃ x, pE n R = x := ⟨_, rfl⟩
      have HRB := Lib.hid (fun W (h : Below w.heap.size w W) => rprint_bad (c := c) (HS.out.below h) hn hp)
      rw [hE] at HPR HRB hp
      have d0 : (E == 0) = false := by simpa using hp
      clear hE hn2
      go_wp2_with fail
      refine HPR.out.mono ?_
      rintro e w2 ⟨rfl, b2⟩
      have HB2 := Lib.hid (below_tr HB1.out b2)
      have HP2 := Lib.hid ((b2.block _ (blk_lt HP1.out)).trans HP1.out)
      have k2 : w2.cell? ⟨w.heap.size, 0, none⟩ = some (.slice a n c) := by rw [cell_of_block HP2.out]; rfl
      clear b2 k1 HPR HB1 HP1
      go_wp2_with fail
      refine (HRB.out _ HB2.out).mono ?_
      rintro e w3 ⟨rfl, b3⟩
      have HB3 := Lib.hid (below_tr HB2.out b3)
      clear b3 k2 HRB HB2 HP2
      go_wp2_with fail
      refine (shown_ok _ (HT.out.below HB3.out)).mono ?_
      rintro e w6 ⟨rfl, b6⟩
      have HB6 := Lib.hid (below_tr HB3.out b6)
      go_wp2_with fail
      go_ret
      exact ⟨rfl, HB6.out⟩
  · clear hfn
    go_wp2_with fail
    refine (shown_ok _ (HT.out.below HB1.out)).mono ?_
    rintro e w6 ⟨rfl, b6⟩
    have HB6 := Lib.hid (below_tr HB1.out b6)
    go_wp2_with fail
    go_ret
    exact ⟨rfl, HB6.out⟩
end Go.Proofs.YtgbdhmdaefbglaaDoor
