/- Clocks: ClockSpans returns true. -/
import Derived.Test.YtmgpdaljminipaaDoorC9L
import Derived.Test.YtmgpdaljminipaaDoorSpD
import Derived.Test.YtmgpdaljminipaaDoorSpG
namespace Go.Proofs.YtmgpdaljminipaaDoor
open Go.RowKit Go.Sort Go.Joins Go.Shelf
attribute [local go_sem] cell_grow frozen_grow size_grow

theorem spanL_len {n : Nat} (h : n ≤ 1000000000000) : (spanL n).length ≤ 84 := by
  unfold spanL
  split
  · decide
  · exact spF_len 4 n h
theorem ne_self (S : ByteArray) : (S.toList == S.toList) = true := by simp
set_option maxRecDepth 100000 in
set_option maxHeartbeats 3200000 in
theorem law_spans (t : Int) (s : ByteArray) (w : World) (hT : T9 w) (hTW : TW w) :
    Calls Tryd.prog 3 #[.int .i64 t, .string s] w fun e w' => e = .returned (.bool true) ∧ Below w.heap.size w w' := by
  have HT := Lib.hid hT
  have HTW := Lib.hid hTW
  clear hT hTW
  by_cases hlong : 1000 < s.size
  · have d1 : decide ((1000 : Int) < (s.size : Int)) = true := decide_eq_true (by omega)
    go_enter Tryd.func3, Tryd.ntmps3
    go_wp2_with fail
    refine (shown_ok w HT.out).mono ?_
    rintro e w1 ⟨rfl, b1⟩
    go_wp2_with fail
    go_ret
    exact ⟨rfl, b1⟩
  · have d1 : decide ((1000 : Int) < (s.size : Int)) = false := decide_eq_false (by omega)
    obtain ⟨L, hL⟩ : ∃ L, s.data.toList = L := ⟨_, rfl⟩
    have hspan := fun n e (h : psR L = (n, e)) (he : e = 0) => span_ps (s := L) (n := n) (by rw [h, he])
    have HPP := Lib.hid (fun W h h2 => psP_ok s L hL (by omega) W h h2)
    have HPR := Lib.hid (fun W => psR_ok s L hL (by omega) W)
    have HSP := Lib.hid (spanP_ok t)
    have HSR := Lib.hid (spanR_ok t)
    obtain ⟨Q, hQ⟩ : ∃ Q, psR L = Q := ⟨_, rfl⟩
    rw [hQ] at HPP HPR
    obtain ⟨n2, e2⟩ := Q
    have hspan := hspan n2 e2 hQ
    have HL := Lib.hid hL
    clear hL hQ
    dsimp only at HPP HPR
    obtain ⟨X, hX⟩ : ∃ X, (if tmB t = true then spanL t.toNat else []) = X := ⟨_, rfl⟩
    obtain ⟨E, hE⟩ : ∃ E : Int, (if tmB t = true then (0 : Int) else 7) = E := ⟨_, rfl⟩
    rw [hX, hE] at HSP HSR
    have hEw : (E = 0 ∧ ∃ n : Nat, n ≤ 1000000000000 ∧ t = (n : Int) ∧ X = spanL n) ∨ E = 7 := by
      cases ht : tmB t
      · right; rw [ht] at hE; rw [← hE]; rfl
      · left
        rw [ht] at hE hX
        obtain ⟨t0, t1⟩ := tmB_yes.1 ht
        exact ⟨by rw [← hE]; rfl, t.toNat, by omega, by omega, by rw [← hX]; rfl⟩
    clear hX hE
    go_enter Tryd.func3, Tryd.ntmps3
    go_wp2_with fail
    refine (HSP.out _ HT.out HTW.out).mono ?_
    rintro e w1 ⟨⟨S1, rfl, hS1⟩, b1⟩
    have HB1 := Lib.hid b1
    clear b1
    go_wp2_with fail
    refine (HSR.out _).mono ?_
    rintro e w2 ⟨⟨S2, rfl, hS2⟩, b2⟩
    have HB2 := Lib.hid (below_tr HB1.out b2)
    obtain rfl : S1 = S2 := ba_of (by rw [hS1, hS2])
    clear b2 hS2 HSR
    go_wp2_with fail
    refine (HPP.out _ (HT.out.below HB2.out) (HTW.out.below HB2.out)).mono ?_
    rintro e w3 ⟨rfl, b3⟩
    have HB3 := Lib.hid (below_tr HB2.out b3)
    clear b3 HPP HB2
    go_wp2_with fail
    refine (HPR.out _).mono ?_
    rintro e w4 ⟨rfl, b4⟩
    have HB4 := Lib.hid (below_tr HB3.out b4)
    have hself := ne_self S1
    have HS1 := Lib.hid hS1
    clear b4 HPR HB3 HB1 hS1
    rcases hEw with ⟨rfl, n, hn, rfl, rfl⟩ | rfl
    · have hlen := len_of HS1.out
      have hll := spanL_len hn
      have HP := fun W h h2 => psP_ok S1 (spanL n) HS1.out (by omega) W h h2
      rw [ps_span hn] at HP
      have HP := Lib.hid HP
      clear hlen hll
      go_wp2_with fail
      refine (HP.out _ (HT.out.below HB4.out) (HTW.out.below HB4.out)).mono ?_
      rintro e w5 ⟨rfl, b5⟩
      have HB5 := Lib.hid (below_tr HB4.out b5)
      clear b5 HP HB4
      by_cases he : e2 = 0
      · obtain ⟨h1, h2⟩ := hspan he
        subst he
        have HSP2 := spanP_ok (n2 : Int)
        rw [show tmB (n2 : Int) = true from tmB_yes.2 ⟨by omega, by omega⟩] at HSP2
        have HSP2 := Lib.hid HSP2
        have H1 := Lib.hid h1
        clear hspan h1
        go_wp2_with fail
        refine (HSP2.out _ (HT.out.below HB5.out) (HTW.out.below HB5.out)).mono ?_
        rintro e w6 ⟨⟨S3, rfl, hS3⟩, b6⟩
        have HB6 := Lib.hid (below_tr HB5.out b6)
        obtain rfl : S3 = s := ba_of (by rw [hS3, if_pos trivial, Int.toNat_natCast, H1.out, HL.out])
        have hself2 := ne_self S3
        clear b6 hS3 HB5
        go_wp2_with fail
        refine (shown_ok _ (HT.out.below HB6.out)).mono ?_
        rintro e w7 ⟨rfl, b7⟩
        have HB7 := Lib.hid (below_tr HB6.out b7)
        go_wp2_with fail
        go_ret
        exact ⟨rfl, HB7.out⟩
      · have d2 : ((e2 : Int) == 0) = false := by simp; omega
        clear hspan
        go_wp2_with fail
        refine (shown_ok _ (HT.out.below HB5.out)).mono ?_
        rintro e w7 ⟨rfl, b7⟩
        have HB7 := Lib.hid (below_tr HB5.out b7)
        go_wp2_with fail
        go_ret
        exact ⟨rfl, HB7.out⟩
    · by_cases he : e2 = 0
      · obtain ⟨h1, h2⟩ := hspan he
        subst he
        have HSP2 := spanP_ok (n2 : Int)
        rw [show tmB (n2 : Int) = true from tmB_yes.2 ⟨by omega, by omega⟩] at HSP2
        have HSP2 := Lib.hid HSP2
        have H1 := Lib.hid h1
        clear hspan h1
        go_wp2_with fail
        refine (HSP2.out _ (HT.out.below HB4.out) (HTW.out.below HB4.out)).mono ?_
        rintro e w6 ⟨⟨S3, rfl, hS3⟩, b6⟩
        have HB6 := Lib.hid (below_tr HB4.out b6)
        obtain rfl : S3 = s := ba_of (by rw [hS3, if_pos trivial, Int.toNat_natCast, H1.out, HL.out])
        have hself2 := ne_self S3
        clear b6 hS3 HB4
        go_wp2_with fail
        refine (shown_ok _ (HT.out.below HB6.out)).mono ?_
        rintro e w7 ⟨rfl, b7⟩
        have HB7 := Lib.hid (below_tr HB6.out b7)
        go_wp2_with fail
        go_ret
        exact ⟨rfl, HB7.out⟩
      · have d2 : ((e2 : Int) == 0) = false := by simp; omega
        clear hspan
        go_wp2_with fail
        refine (shown_ok _ (HT.out.below HB4.out)).mono ?_
        rintro e w7 ⟨rfl, b7⟩
        have HB7 := Lib.hid (below_tr HB4.out b7)
        go_wp2_with fail
        go_ret
        exact ⟨rfl, HB7.out⟩
end Go.Proofs.YtmgpdaljminipaaDoor
