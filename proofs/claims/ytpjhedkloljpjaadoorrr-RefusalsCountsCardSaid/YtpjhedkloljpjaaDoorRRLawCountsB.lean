/- Refusals: RefusalsCounts returns true: what is not examined, and all. -/
import Derived.Test.YtpjhedkloljpjaaDoorRRLawCounts
namespace Go.Proofs.YtpjhedkloljpjaaDoorRR
open Go.RowKit Go.Sort Go.Joins Go.Shelf
attribute [local go_sem] cell_grow frozen_grow size_grow
section
variable {a : Option Addr} {n c : Nat} {R : Nat → Rl}
set_option maxRecDepth 100000 in
set_option maxHeartbeats 1600000 in
theorem law_counts_far (au : Option Addr) (m cu : Nat) (w : World) (hn : n ≤ 9223372036854775807) (hm : m ≤ 9223372036854775807) (hT : T5 w) (hf : farB n = true ∨ 60 < m) :
    Calls Tryd.prog 6 #[pV a n c, .slice au m cu] w fun e w' => e = .returned (.bool true) ∧ Below w.heap.size w w' := by
  have b0 := below_box0 w (.cells #[.slice a n c] 24)
  have HB0 := Lib.hid b0
  have HT0 := Lib.hid (hT.below b0)
  have HF := Lib.hid (far_ok a n c hn)
  obtain ⟨r, hr⟩ : ∃ r, farB n = r := ⟨_, rfl⟩
  rw [hr] at HF hf
  clear b0 hT hr
  cases r with
  | true =>
    clear hf
    go_enter Tryd.func6, Tryd.ntmps6
    go_wp2_with fail
    refine (HF.out _).mono ?_
    rintro e w1 ⟨rfl, b1⟩
    have HB1 := Lib.hid (below_tr HB0.out b1)
    have HT1 := Lib.hid (HT0.out.below b1)
    clear b1
    go_wp2_with fail
    refine (shown_ok _ HT1.out).mono ?_
    rintro e w2 ⟨rfl, b2⟩
    have HB2 := Lib.hid (below_tr HB1.out b2)
    clear b2
    go_wp2
    go_ret
    exact ⟨rfl, HB2.out⟩
  | false =>
    have d60 : decide ((60 : Int) < (m : Int)) = true := by
      rcases hf with h | h
      · cases h
      · simp; omega
    clear hf
    go_enter Tryd.func6, Tryd.ntmps6
    go_wp2_with fail
    refine (HF.out _).mono ?_
    rintro e w1 ⟨rfl, b1⟩
    have HB1 := Lib.hid (below_tr HB0.out b1)
    have HT1 := Lib.hid (HT0.out.below b1)
    clear b1
    go_wp2_with fail
    refine (shown_ok _ HT1.out).mono ?_
    rintro e w2 ⟨rfl, b2⟩
    have HB2 := Lib.hid (below_tr HB1.out b2)
    clear b2
    go_wp2
    go_ret
    exact ⟨rfl, HB2.out⟩
set_option maxRecDepth 100000 in
set_option maxHeartbeats 1600000 in
theorem law_counts_err (au : Option Addr) (m cu : Nat) (w : World) (hS : SlR w a n R) (hn : n ≤ 9223372036854775807) (hT : T5 w) (hf : farB n = false) (hm : m ≤ 60) (hp : pE n R ≠ 0) :
    Calls Tryd.prog 6 #[pV a n c, .slice au m cu] w fun e w' => e = .returned (.bool true) ∧ Below w.heap.size w w' := by
  have d60 : decide ((60 : Int) < (m : Int)) = false := by simp; omega
  have b0 := below_box0 w (.cells #[.slice a n c] 24)
  have HS0 := Lib.hid (hS.below b0)
  have HT0 := Lib.hid (hT.below b0)
  have HB0 := Lib.hid b0
  have HP0 : Hid (BoxP (w.alloc (.cells #[.slice a n c] 24)) w.heap.size a n c) := Lib.hid (heap_alloc_new w _)
  have HF := Lib.hid (far_ok a n c hn)
  rw [hf] at HF
  have HST : Hid (∀ (w : World), SlR w a n R → _) := Lib.hid (fun w h => Start_ok (w := w) (c := c) h hn)
  rw [stN_err hp] at HST
  obtain ⟨p, hp1⟩ : ∃ p, pE n R = p := ⟨_, rfl⟩
  rw [hp1] at HST hp
  have d1 := bne0_true hp
  clear b0 hS hT hf hp hp1
  go_enter Tryd.func6, Tryd.ntmps6
  go_wp2_with fail
  refine (HF.out _).mono ?_
  rintro e w1 ⟨rfl, b1⟩
  have HB1 := Lib.hid (below_tr HB0.out b1)
  have HP1 := Lib.hid (boxP_below HP0.out b1)
  have HS1 := Lib.hid (HS0.out.below b1)
  have HT1 := Lib.hid (HT0.out.below b1)
  have k0 := boxP_c0 HP1.out
  clear b1
  go_wp2_with fail
  refine (HST.out _ HS1.out).mono ?_
  rintro e w2 ⟨a5, c5, rfl, hS5, b2⟩
  have b3 := below_box0 w2 (.cells (sA a5 0 c5 Z7 Z7) 38)
  have HB3 := Lib.hid (below_tr (below_tr HB1.out b2) b3)
  have HT3 := Lib.hid ((HT1.out.below b2).below b3)
  clear b2 b3 hS5 k0
  go_wp2_with fail
  refine (shown_ok _ HT3.out).mono ?_
  rintro e w4 ⟨rfl, b4⟩
  have HB4 := Lib.hid (below_tr HB3.out b4)
  clear b4
  go_wp2
  go_ret
  exact ⟨rfl, HB4.out⟩
theorem law_counts (au : Option Addr) (m cu : Nat) (U : Nat → Int) (w : World) (hS : SlR w a n R) (hn : n ≤ 9223372036854775807) (hU : SlZ .u8 w au m U) (hm : m ≤ 9223372036854775807) (hub : ∀ j, j < m → 0 ≤ U j ∧ U j ≤ 255) (hT : T5 w) :
    Calls Tryd.prog 6 #[pV a n c, .slice au m cu] w fun e w' => e = .returned (.bool true) ∧ Below w.heap.size w w' := by
  cases hf : farB n with
  | true => exact law_counts_far au m cu w hn hm hT (.inl hf)
  | false =>
    by_cases h60 : 60 < m
    · exact law_counts_far au m cu w hn hm hT (.inr h60)
    · by_cases hp : pE n R = 0
      · exact law_counts_main au m cu U w hS hn hU hub hT hf (by omega) hp
      · exact law_counts_err au m cu w hS hn hT hf (by omega) hp
end
end Go.Proofs.YtpjhedkloljpjaaDoorRR
