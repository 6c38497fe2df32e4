/- Refusals: RefusalsSteps returns true: states that are not examined, and all. -/
import Derived.Test.YtpjhedkloljpjaaDoorRRLawStepsE
namespace Go.Proofs.YtpjhedkloljpjaaDoorRR
open Go.RowKit Go.Sort Go.Joins Go.Shelf
attribute [local go_sem] cell_grow frozen_grow size_grow
section
variable {a : Option Addr} {n c : Nat} {R : Nat → Rl} {C H : Nat → Int}
set_option maxRecDepth 100000 in
set_option maxHeartbeats 1600000 in
theorem law_steps_wide (q : Int) (w : World) (hn : n ≤ 9223372036854775807) (hT : T5 w) (hw : wideB n C = true) :
    Calls Tryd.prog 7 #[sV a n c C H, .int .i64 q] w fun e w' => e = .returned (.bool true) ∧ Below w.heap.size w w' := by
  have b0 := below_box0 w (.cells (sA a n c C H) 38)
  have HT0 := Lib.hid (hT.below b0)
  have HB0 := Lib.hid b0
  have HW := Lib.hid (wide_ok a n c C H hn)
  rw [hw] at HW
  clear b0 hT hw
  go_enter Tryd.func7, Tryd.ntmps7
  go_wp2_with fail
  refine (HW.out _).mono ?_
  rintro e w1 ⟨rfl, b1⟩
  have HB1 := Lib.hid (below_tr HB0.out b1)
  have HT1 := Lib.hid (HT0.out.below b1)
  clear b1
  go_wp2_with fail
  refine (shown_ok _ HT1.out).mono ?_
  rintro e w2 ⟨rfl, b2⟩
  have HB2 := Lib.hid (below_tr HB1.out b2)
  clear b2
  go_wp2
  go_ret
  exact ⟨rfl, HB2.out⟩
theorem law_steps_all (q : Int) (w : World) (hS : SlR w a n R) (hn : n ≤ 9223372036854775807) (hT : T5 w) :
    Calls Tryd.prog 7 #[sV a n c C H, .int .i64 q] w fun e w' => e = .returned (.bool true) ∧ Below w.heap.size w w' := by
  cases hw : wideB n C with
  | true => exact law_steps_wide q w hn hT hw
  | false => exact law_steps q w hS hn hT hw
end
end Go.Proofs.YtpjhedkloljpjaaDoorRR
