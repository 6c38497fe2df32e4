/- Refusals: RefusalsSame returns true. -/
import Derived.Test.YtpjhedkloljpjaaDoorRRR5K
import Derived.Test.YtpjhedkloljpjaaDoorRRR5J
namespace Go.Proofs.YtpjhedkloljpjaaDoorRR
open Go.RowKit Go.Sort Go.Joins Go.Shelf
attribute [local go_sem] cell_grow frozen_grow size_grow
section
variable {a b : Option Addr} {n c m d : Nat} {R Q : Nat → Rl}
set_option maxRecDepth 100000 in
set_option maxHeartbeats 3200000 in
theorem rSame_ok (w : World) (hS : SlR w a n R) (hn : n ≤ 9223372036854775807) (hQ : SlR w b m Q) (hm : m ≤ 9223372036854775807) :
    Calls Tryd.prog 19 #[pV a n c, pV b m d] w fun e w' => e = .returned (.tuple #[.bool (smV n R m Q), .int .i64 (smE n R m Q)]) ∧ Below w.heap.size w w' := by
  have b2 : Below w.heap.size w ((w.alloc (.cells #[.slice a n c] 24)).alloc (.cells #[.slice b m d] 24)) := ((Below.refl _ w).alloc (Nat.le_refl _) _).alloc (by simp) _
  have HS := Lib.hid (hS.below b2)
  have HQ := Lib.hid (hQ.below b2)
  have HB := Lib.hid b2
  have HC := Lib.hid (rchk_ok (c := c) HS.out hn)
  clear b2 hS hQ
  obtain ⟨p, hp⟩ : ∃ p, pE n R = p := ⟨_, rfl⟩
  obtain ⟨q, hq⟩ : ∃ q, pE m Q = q := ⟨_, rfl⟩
  rw [hp] at HC
  by_cases hp0 : p = 0
  · subst hp0
    by_cases hq0 : q = 0
    · subst hq0
      have HSM := Lib.hid (sm_ok hp hq)
      have HR := Lib.hid (pE_zero hp).2
      have hn50 := (pE_zero hp).1
      have HRQ := Lib.hid (pE_zero hq).2
      have hm50 := (pE_zero hq).1
      have Hq := Lib.hid hq
      clear hp hq
      go_enter Tryd.func19, Tryd.ntmps19
      go_wp2_with fail
      refine HC.out.mono ?_
      rintro e w1 ⟨rfl, b1⟩
      have k0 : w1.cell? ⟨w.heap.size, 0, none⟩ = some (.slice a n c) := cell_later b1 (by simp [go_sem])
      have k1 : w1.cell? ⟨w.heap.size + 1, 0, none⟩ = some (.slice b m d) := cell_later b1 (by simp [go_sem])
      have HB1 := Lib.hid (below_tr HB.out b1)
      have HS1 := Lib.hid (HS.out.below b1)
      have HQ1 := Lib.hid (HQ.out.below b1)
      clear b1
      go_wp2_with fail
      refine (rchk_ok (c := d) HQ1.out hm).mono ?_
      rw [Hq.out]
      rintro e w2 ⟨rfl, b2⟩
      have j0 := cell_later b2 k0
      have j1 := cell_later b2 k1
      have HB2 := Lib.hid (below_tr HB1.out b2)
      have HS2 := Lib.hid (HS1.out.below b2)
      have HQ2 := Lib.hid (HQ1.out.below b2)
      clear b2 k0 k1
      go_wp2_with fail
      refine (rsame_ok HS2.out hn50 HR.out HQ2.out hm50 HRQ.out).mono ?_
      rintro e w3 ⟨rfl, b3⟩
      have HB3 := Lib.hid (below_tr HB2.out b3)
      clear b3
      go_wp2
      go_ret2
      exact ⟨ret_be HSM.out, HB3.out⟩
    · have HSM := Lib.hid (sm_err2 (m := m) (Q := Q) hp (by rw [hq]; exact hq0))
      have hq1 := bne0_true hq0
      have hq2 : (q == 0) = false := by simpa using hq0
      have Hq := Lib.hid hq
      clear hp hq hq0
      go_enter Tryd.func19, Tryd.ntmps19
      go_wp2_with fail
      refine HC.out.mono ?_
      rintro e w1 ⟨rfl, b1⟩
      have k1 : w1.cell? ⟨w.heap.size + 1, 0, none⟩ = some (.slice b m d) := cell_later b1 (by simp [go_sem])
      have HB1 := Lib.hid (below_tr HB.out b1)
      have HQ1 := Lib.hid (HQ.out.below b1)
      clear b1
      go_wp2_with fail
      refine (rchk_ok (c := d) HQ1.out hm).mono ?_
      rw [Hq.out]
      rintro e w2 ⟨rfl, b2⟩
      have HB2 := Lib.hid (below_tr HB1.out b2)
      clear b2
      go_wp2
      go_ret2
      exact ⟨ret_be ⟨HSM.out.1, by rw [← HSM.out.2, Hq.out]⟩, HB2.out⟩
  · have HSM := Lib.hid (sm_err1 (n := n) (R := R) (m := m) (Q := Q) (by rw [hp]; exact hp0))
    have hp1 := bne0_true hp0
    have hp2 : (p == 0) = false := by simpa using hp0
    have Hp := Lib.hid hp
    clear hp hq hp0
    go_enter Tryd.func19, Tryd.ntmps19
    go_wp2_with fail
    refine HC.out.mono ?_
    rintro e w1 ⟨rfl, b1⟩
    have HB1 := Lib.hid (below_tr HB.out b1)
    clear b1
    go_wp2
    go_ret2
    exact ⟨ret_be ⟨HSM.out.1, by rw [← HSM.out.2, Hp.out]⟩, HB1.out⟩
set_option maxRecDepth 100000 in
set_option maxHeartbeats 3200000 in
theorem law_same (w : World) (hS : SlR w a n R) (hn : n ≤ 9223372036854775807) (hQ : SlR w b m Q) (hm : m ≤ 9223372036854775807) (hT : T5 w) :
    Calls Tryd.prog 4 #[pV a n c, pV b m d] w fun e w' => e = .returned (.bool true) ∧ Below w.heap.size w w' := by
  have b2 : Below w.heap.size w ((w.alloc (.cells #[.slice a n c] 24)).alloc (.cells #[.slice b m d] 24)) := ((Below.refl _ w).alloc (Nat.le_refl _) _).alloc (by simp) _
  have HS0 := Lib.hid (hS.below b2)
  have HQ0 := Lib.hid (hQ.below b2)
  have HT0 := Lib.hid (hT.below b2)
  have HB0 := Lib.hid b2
  have HF := Lib.hid (far_ok a n c hn)
  have HG := Lib.hid (far_ok b m d hm)
  obtain ⟨fa, hfa⟩ : ∃ fb, farB n = fb := ⟨_, rfl⟩
  obtain ⟨fb, hfb⟩ : ∃ fb, farB m = fb := ⟨_, rfl⟩
  obtain ⟨v, hv⟩ : ∃ v, smV n R m Q = v := ⟨_, rfl⟩
  obtain ⟨x, hx⟩ : ∃ v, smE n R m Q = v := ⟨_, rfl⟩
  rw [hfa] at HF
  rw [hfb] at HG
  have HV := Lib.hid hv
  have HX := Lib.hid hx
  clear b2 hS hQ hT hfa hfb hv hx
  cases fa with
  | true =>
    go_enter Tryd.func4, Tryd.ntmps4
    go_wp2_with fail
    refine (HF.out _).mono ?_
    rintro e w1 ⟨rfl, b1⟩
    have HB1 := Lib.hid (below_tr HB0.out b1)
    have HT1 := Lib.hid (HT0.out.below b1)
    clear b1
    go_wp2_with fail
    refine (shown_ok _ HT1.out).mono ?_
    rintro e w2 ⟨rfl, b2⟩
    have HB2 := Lib.hid (below_tr HB1.out b2)
    clear b2
    go_wp2
    go_ret
    exact ⟨rfl, HB2.out⟩
  | false =>
    go_enter Tryd.func4, Tryd.ntmps4
    go_wp2_with fail
    refine (HF.out _).mono ?_
    rintro e w1 ⟨rfl, b1⟩
    have k0 : w1.cell? ⟨w.heap.size, 0, none⟩ = some (.slice a n c) := cell_later b1 (by simp [go_sem])
    have k1 : w1.cell? ⟨w.heap.size + 1, 0, none⟩ = some (.slice b m d) := cell_later b1 (by simp [go_sem])
    have HB1 := Lib.hid (below_tr HB0.out b1)
    have HT1 := Lib.hid (HT0.out.below b1)
    have HS1 := Lib.hid (HS0.out.below b1)
    have HQ1 := Lib.hid (HQ0.out.below b1)
    clear b1
    go_wp2_with fail
    refine (HG.out _).mono ?_
    rintro e w2 ⟨rfl, b2⟩
    have j0 := cell_later b2 k0
    have j1 := cell_later b2 k1
    have HB2 := Lib.hid (below_tr HB1.out b2)
    have HT2 := Lib.hid (HT1.out.below b2)
    have HS2 := Lib.hid (HS1.out.below b2)
    have HQ2 := Lib.hid (HQ1.out.below b2)
    clear b2 k0 k1
    cases fb with
    | true =>
      go_wp2_with fail
      refine (shown_ok _ HT2.out).mono ?_
      rintro e w3 ⟨rfl, b3⟩
      have HB3 := Lib.hid (below_tr HB2.out b3)
      clear b3
      go_wp2
      go_ret
      exact ⟨rfl, HB3.out⟩
    | false =>
      go_wp2_with fail
      refine (Same_ok (c := c) (d := d) HS2.out hn HQ2.out hm).mono ?_
      rw [HV.out, HX.out]
      rintro e w3 ⟨rfl, b3⟩
      have i0 := cell_later b3 j0
      have i1 := cell_later b3 j1
      have HB3 := Lib.hid (below_tr HB2.out b3)
      have HT3 := Lib.hid (HT2.out.below b3)
      have HS3 := Lib.hid (HS2.out.below b3)
      have HQ3 := Lib.hid (HQ2.out.below b3)
      clear b3 j0 j1
      go_wp2_with fail
      refine (rSame_ok (c := c) (d := d) _ HS3.out hn HQ3.out hm).mono ?_
      rw [HV.out, HX.out]
      rintro e w4 ⟨rfl, b4⟩
      have HB4 := Lib.hid (below_tr HB3.out b4)
      have HT4 := Lib.hid (HT3.out.below b4)
      clear b4
      go_wp2_with fail
      refine (shown_ok _ HT4.out).mono ?_
      rintro e w5 ⟨rfl, b5⟩
      have HB5 := Lib.hid (below_tr HB4.out b5)
      clear b5
      go_wp2
      go_ret
      exact ⟨rfl, HB5.out⟩
end
end Go.Proofs.YtpjhedkloljpjaaDoorRR
