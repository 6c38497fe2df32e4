/- Refusals: RefusalsAsks returns true. -/
import Derived.Test.YtpjhedkloljpjaaDoorRRR5J
namespace Go.Proofs.YtpjhedkloljpjaaDoorRR
open Go.RowKit Go.Sort Go.Joins Go.Shelf
attribute [local go_sem] cell_grow frozen_grow size_grow
section
variable {a : Option Addr} {n c : Nat} {R : Nat → Rl}
set_option maxRecDepth 100000 in
set_option maxHeartbeats 3200000 in
theorem law_asks (q m : Int) (w : World) (hS : SlR w a n R) (hn : n ≤ 9223372036854775807) (hT : T5 w) :
    Calls Tryd.prog 3 #[pV a n c, .int .i64 q, .int .i64 m] w fun e w' => e = .returned (.bool true) ∧ Below w.heap.size w w' := by
  have b0 := below_box0 w (.cells #[.slice a n c] 24)
  have HS0 := Lib.hid (hS.below b0)
  have HT0 := Lib.hid (hT.below b0)
  have HB0 := Lib.hid b0
  obtain ⟨v1, hv1⟩ : ∃ v, pI n R = v := ⟨_, rfl⟩
  obtain ⟨v2, hv2⟩ : ∃ v, pE n R = v := ⟨_, rfl⟩
  obtain ⟨v3, hv3⟩ : ∃ v, rfdV n R q m = v := ⟨_, rfl⟩
  obtain ⟨v4, hv4⟩ : ∃ v, askE n R q m 1 = v := ⟨_, rfl⟩
  obtain ⟨v5, hv5⟩ : ∃ v, htV n R q m = v := ⟨_, rfl⟩
  obtain ⟨v6, hv6⟩ : ∃ v, askE n R q m 0 = v := ⟨_, rfl⟩
  obtain ⟨v7, hv7⟩ : ∃ v, afV n R q m = v := ⟨_, rfl⟩
  obtain ⟨v8, hv8⟩ : ∃ v, afE n R q m = v := ⟨_, rfl⟩
  have HV := Lib.hid (And.intro hv1 (And.intro hv2 (And.intro hv3 (And.intro hv4 (And.intro hv5 (And.intro hv6 (And.intro hv7 hv8)))))))
  clear b0 hS hT hv1 hv2 hv3 hv4 hv5 hv6 hv7 hv8
  obtain ⟨fb, hfb⟩ : ∃ fb, farB n = fb := ⟨_, rfl⟩
  have HF := Lib.hid (far_ok a n c hn)
  rw [hfb] at HF
  clear hfb
  go_enter Tryd.func3, Tryd.ntmps3
  go_wp2_with fail
  refine (HF.out _).mono ?_
  rintro e w1 ⟨rfl, b1⟩
  have k1 : w1.cell? ⟨w.heap.size, 0, none⟩ = some (.slice a n c) := cell_later b1 (by simp [go_sem])
  have HB1 := Lib.hid (below_tr HB0.out b1)
  have HS1 := Lib.hid (HS0.out.below b1)
  have HT1 := Lib.hid (HT0.out.below b1)
  clear b1
  cases fb with
  | true =>
    go_wp2_with fail
    refine (shown_ok _ HT1.out).mono ?_
    rintro e w2 ⟨rfl, b2⟩
    have HB2 := Lib.hid (below_tr HB1.out b2)
    clear b2
    go_wp2
    go_ret
    exact ⟨rfl, HB2.out⟩
  | false =>
    go_wp2_with fail
    refine (rfchk_ok (c := c) HS1.out hn).mono ?_
    obtain ⟨hv1, hv2, hv3, hv4, hv5, hv6, hv7, hv8⟩ := HV.out
    simp only [hv1, hv2, hv3, hv4, hv5, hv6, hv7, hv8]
    clear hv1 hv2 hv3 hv4 hv5 hv6 hv7 hv8
    rintro e w2 ⟨rfl, b2⟩
    have k2 : w2.cell? ⟨w.heap.size, 0, none⟩ = some (.slice a n c) := cell_later b2 k1
    have HB2 := Lib.hid (below_tr HB1.out b2)
    have HS2 := Lib.hid (HS1.out.below b2)
    have HT2 := Lib.hid (HT1.out.below b2)
    clear b2 k1
    go_wp2_with fail
    refine (rchk_ok (c := c) HS2.out hn).mono ?_
    obtain ⟨hv1, hv2, hv3, hv4, hv5, hv6, hv7, hv8⟩ := HV.out
    simp only [hv1, hv2, hv3, hv4, hv5, hv6, hv7, hv8]
    clear hv1 hv2 hv3 hv4 hv5 hv6 hv7 hv8
    rintro e w3 ⟨rfl, b3⟩
    have k3 : w3.cell? ⟨w.heap.size, 0, none⟩ = some (.slice a n c) := cell_later b3 k2
    have HB3 := Lib.hid (below_tr HB2.out b3)
    have HS3 := Lib.hid (HS2.out.below b3)
    have HT3 := Lib.hid (HT2.out.below b3)
    clear b3 k2
    go_wp2_with fail
    refine (Refused_ok (c := c) HS3.out hn q m).mono ?_
    obtain ⟨hv1, hv2, hv3, hv4, hv5, hv6, hv7, hv8⟩ := HV.out
    simp only [hv1, hv2, hv3, hv4, hv5, hv6, hv7, hv8]
    clear hv1 hv2 hv3 hv4 hv5 hv6 hv7 hv8
    rintro e w4 ⟨rfl, b4⟩
    have k4 : w4.cell? ⟨w.heap.size, 0, none⟩ = some (.slice a n c) := cell_later b4 k3
    have HB4 := Lib.hid (below_tr HB3.out b4)
    have HS4 := Lib.hid (HS3.out.below b4)
    have HT4 := Lib.hid (HT3.out.below b4)
    clear b4 k3
    go_wp2_with fail
    refine (rRefused_ok (c := c) HS4.out hn q m).mono ?_
    obtain ⟨hv1, hv2, hv3, hv4, hv5, hv6, hv7, hv8⟩ := HV.out
    simp only [hv1, hv2, hv3, hv4, hv5, hv6, hv7, hv8]
    clear hv1 hv2 hv3 hv4 hv5 hv6 hv7 hv8
    rintro e w5 ⟨rfl, b5⟩
    have k5 : w5.cell? ⟨w.heap.size, 0, none⟩ = some (.slice a n c) := cell_later b5 k4
    have HB5 := Lib.hid (below_tr HB4.out b5)
    have HS5 := Lib.hid (HS4.out.below b5)
    have HT5 := Lib.hid (HT4.out.below b5)
    clear b5 k4
    go_wp2_with fail
    refine (Hits_ok (c := c) HS5.out hn q m).mono ?_
    obtain ⟨hv1, hv2, hv3, hv4, hv5, hv6, hv7, hv8⟩ := HV.out
    simp only [hv1, hv2, hv3, hv4, hv5, hv6, hv7, hv8]
    clear hv1 hv2 hv3 hv4 hv5 hv6 hv7 hv8
    rintro e w6 ⟨rfl, b6⟩
    have k6 : w6.cell? ⟨w.heap.size, 0, none⟩ = some (.slice a n c) := cell_later b6 k5
    have HB6 := Lib.hid (below_tr HB5.out b6)
    have HS6 := Lib.hid (HS5.out.below b6)
    have HT6 := Lib.hid (HT5.out.below b6)
    clear b6 k5
    go_wp2_with fail
    refine (rHits_ok (c := c) HS6.out hn q m).mono ?_
    obtain ⟨hv1, hv2, hv3, hv4, hv5, hv6, hv7, hv8⟩ := HV.out
    simp only [hv1, hv2, hv3, hv4, hv5, hv6, hv7, hv8]
    clear hv1 hv2 hv3 hv4 hv5 hv6 hv7 hv8
    rintro e w7 ⟨rfl, b7⟩
    have k7 : w7.cell? ⟨w.heap.size, 0, none⟩ = some (.slice a n c) := cell_later b7 k6
    have HB7 := Lib.hid (below_tr HB6.out b7)
    have HS7 := Lib.hid (HS6.out.below b7)
    have HT7 := Lib.hid (HT6.out.below b7)
    clear b7 k6
    go_wp2_with fail
    refine (After_ok (c := c) HS7.out hn q m).mono ?_
    obtain ⟨hv1, hv2, hv3, hv4, hv5, hv6, hv7, hv8⟩ := HV.out
    simp only [hv1, hv2, hv3, hv4, hv5, hv6, hv7, hv8]
    clear hv1 hv2 hv3 hv4 hv5 hv6 hv7 hv8
    rintro e w8 ⟨rfl, b8⟩
    have k8 : w8.cell? ⟨w.heap.size, 0, none⟩ = some (.slice a n c) := cell_later b8 k7
    have HB8 := Lib.hid (below_tr HB7.out b8)
    have HS8 := Lib.hid (HS7.out.below b8)
    have HT8 := Lib.hid (HT7.out.below b8)
    clear b8 k7
    go_wp2_with fail
    refine (rAfter_ok (c := c) HS8.out hn q m).mono ?_
    obtain ⟨hv1, hv2, hv3, hv4, hv5, hv6, hv7, hv8⟩ := HV.out
    simp only [hv1, hv2, hv3, hv4, hv5, hv6, hv7, hv8]
    clear hv1 hv2 hv3 hv4 hv5 hv6 hv7 hv8
    rintro e w9 ⟨rfl, b9⟩
    have k9 : w9.cell? ⟨w.heap.size, 0, none⟩ = some (.slice a n c) := cell_later b9 k8
    have HB9 := Lib.hid (below_tr HB8.out b9)
    have HS9 := Lib.hid (HS8.out.below b9)
    have HT9 := Lib.hid (HT8.out.below b9)
    clear b9 k8
    go_wp2_with fail
    refine (shown_ok _ HT9.out).mono ?_
    rintro e w10 ⟨rfl, b10⟩
    have HB10 := Lib.hid (below_tr HB9.out b10)
    clear b10
    go_wp2
    go_ret
    exact ⟨rfl, HB10.out⟩
end
end Go.Proofs.YtpjhedkloljpjaaDoorRR
