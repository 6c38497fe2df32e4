/- Package bits: awake returns true. -/
import Derived.Test.YtikdgnfcckenmaaDoorBitsV
import Derived.Test.YtikdgnfcckenmaaDoorBitsK
namespace Go.Proofs.YtikdgnfcckenmaaDoor
open Go.RowKit Go.Sort Go.Joins
attribute [local go_sem] cell_grow frozen_grow size_grow

theorem Tab.lt {w : World} (h : Tab w) : 0 < w.heap.size := World.block_lt_of_cell? _ _ (h 0 (by decide))

theorem ten_ok (w : World) : Calls Tryd.prog 49 #[] w fun e w' => ∃ a, e = .returned (.agg #[.int .i64 10, .slice a 1 1]) ∧ SlK .u64 w' a 1 [531] ∧ (∀ A, a = some A → A.block < w'.heap.size) ∧ Below w.heap.size w w' := by
  go_enter Tryd.func49, Tryd.ntmps49
  go_wp2
  refine bodyPost_ret (v := .agg #[.int .i64 10, .slice (some ⟨w.heap.size + 1, 0, none⟩) 1 1]) (by simp [results, Tryd.f49, go_sem]) rfl ?_
  refine ⟨_, rfl, ⟨rfl, .inr ⟨_, _, rfl, fun j hj => ?_⟩⟩, fun A e => by cases e; simp, ?_⟩
  · obtain rfl : j = 0 := by omega
    simp [go_sem]
  · exact ((Below.refl _ w).alloc (Nat.le_refl _) _).alloc (by simp) _

theorem ten_chk : chk (10 : Nat) [531] = 0 := by decide +kernel
theorem ten_w : ∀ x ∈ [531], x < 18446744073709551616 := by decide
section
variable {a : Option Addr} {w : World}
theorem tcount (hs : SlK .u64 w a 1 [531]) : Calls Tryd.prog 22 #[.agg #[.int .i64 10, .slice a 1 1], .int .i64 1, .int .i64 5] w fun e w' => e = .returned (.tuple #[.int .i64 2, .int .i64 0]) ∧ Below w.heap.size w w' :=
  (bCount_ok 10 1 5 a 1 1 [531] w hs ten_w (by decide)).mono fun _ _ h => ⟨h.1.trans (ret_two (by decide +kernel) (by decide +kernel)), h.2⟩
theorem tsel (hT : Tab w) (hs : SlK .u64 w a 1 [531]) : Calls Tryd.prog 27 #[.agg #[.int .i64 10, .slice a 1 1], .int .i64 2, .bool false] w fun e w' => e = .returned (.tuple #[.int .i64 5, .int .i64 0]) ∧ Below w.heap.size w w' :=
  (bSelect_ok 10 2 false a 1 1 [531] w hT hs ten_w ten_chk (by decide)).mono fun _ _ h => ⟨h.1.trans (by rw [show selP (look [531] false) 10 2 = 5 by decide +kernel]; rfl), h.2⟩
theorem tfit (hT : Tab w) (hs : SlK .u64 w a 1 [531]) : Calls Tryd.prog 15 #[.agg #[.int .i64 10, .slice a 1 1], .int .i64 3, .int .i64 0] w fun e w' => e = .returned (.tuple #[.int .i64 5, .int .i64 0]) ∧ Below w.heap.size w w' :=
  (bFit_ok 10 3 0 a 1 1 [531] w hT hT.lt hs ten_w ten_chk (by decide) (by decide) (by decide)).mono fun _ _ h => ⟨h.1.trans (by rw [show fitR (gMax 0) 3 (runsL (look [531] false) 10) = some (5, 9) by decide +kernel]; rfl), h.2⟩
theorem tbest (hT : Tab w) (hs : SlK .u64 w a 1 [531]) : Calls Tryd.prog 17 #[.agg #[.int .i64 10, .slice a 1 1], .int .i64 2] w fun e w' => e = .returned (.tuple #[.int .i64 2, .int .i64 0]) ∧ Below w.heap.size w w' :=
  (bBest_ok 10 2 a 1 1 [531] w hT hT.lt hs ten_w ten_chk (by decide) (by decide)).mono fun _ _ h => ⟨h.1.trans (by rw [show bestF 2 (runsL (look [531] false) 10) = (2, 4) by decide +kernel]; rfl), h.2⟩
theorem tblock (hT : Tab w) (hs : SlK .u64 w a 1 [531]) : Calls Tryd.prog 19 #[.agg #[.int .i64 10, .slice a 1 1], .int .i64 2] w fun e w' => e = .returned (.tuple #[.int .i64 0, .int .i64 4]) ∧ Below w.heap.size w w' :=
  (bBlock_ok 10 2 a 1 1 [531] w hT hT.lt hs ten_w ten_chk (by decide)).mono fun _ _ h => ⟨h.1.trans (by rw [show fitR (gAl (2 ^ 2)) (2 ^ 2) (runsL (look [531] false) 10) = none by decide +kernel]; rfl), h.2⟩
end

set_option maxRecDepth 100000 in
set_option maxHeartbeats 1600000 in
theorem awake_ok (w : World) (hT : Tab w) :
    Calls Tryd.prog 14 #[] w fun e w' => e = .returned (.bool true) ∧ Below w.heap.size w w' := by
  have HT := Lib.hid hT
  clear hT
  go_enter Tryd.func14, Tryd.ntmps14
  go_wp2_with (go_at_call 49; refine (ten_ok _).mono ?_; rintro e w1 ⟨a1, rfl, s1, l1, b1⟩)
  refine (tcount s1).mono ?_
  rintro e w2 ⟨rfl, b2⟩
  have HB1 := Lib.hid (b1.trans (b2.mono b1.size))
  clear b1 b2 s1 l1
  go_wp2_with (go_at_call 49; refine (ten_ok _).mono ?_; rintro e w1 ⟨a1, rfl, s1, l1, b1⟩)
  refine (tsel ((HT.out.below HB1.out).below b1) s1).mono ?_
  rintro e w3 ⟨rfl, b2⟩
  have HB2 := Lib.hid (HB1.out.trans ((b1.trans (b2.mono b1.size)).mono HB1.out.size))
  clear b1 b2 s1 l1
  go_wp2_with (go_at_call 49; refine (ten_ok _).mono ?_; rintro e w1 ⟨a1, rfl, s1, l1, b1⟩)
  refine (tfit ((HT.out.below HB2.out).below b1) s1).mono ?_
  rintro e w4 ⟨rfl, b2⟩
  have HB3 := Lib.hid (HB2.out.trans ((b1.trans (b2.mono b1.size)).mono HB2.out.size))
  clear b1 b2 s1 l1
  go_wp2_with (go_at_call 49; refine (ten_ok _).mono ?_; rintro e w1 ⟨a1, rfl, s1, l1, b1⟩)
  refine (tbest ((HT.out.below HB3.out).below b1) s1).mono ?_
  rintro e w5 ⟨rfl, b2⟩
  have HB4 := Lib.hid (HB3.out.trans ((b1.trans (b2.mono b1.size)).mono HB3.out.size))
  clear b1 b2 s1 l1
  go_wp2_with (go_at_call 49; refine (ten_ok _).mono ?_; rintro e w1 ⟨a1, rfl, s1, l1, b1⟩)
  refine (tblock ((HT.out.below HB4.out).below b1) s1).mono ?_
  rintro e w6 ⟨rfl, b2⟩
  have HB5 := Lib.hid (HB4.out.trans ((b1.trans (b2.mono b1.size)).mono HB4.out.size))
  clear b1 b2 s1 l1
  go_wp2
  go_ret
  exact ⟨rfl, HB5.out⟩
end Go.Proofs.YtikdgnfcckenmaaDoor
