/- Clocks: the examples: calls that end early, numbers. -/
import Derived.Test.YtmgpdaljminipaaDoorC9NA
import Derived.Test.YtmgpdaljminipaaDoorC9FD
import Derived.Test.YtmgpdaljminipaaDoorC9T
import Derived.Test.YtmgpdaljminipaaDoorSpD
namespace Go.Proofs.YtmgpdaljminipaaDoor
open Go.RowKit Go.Sort Go.Joins Go.Shelf
attribute [local go_sem] cell_grow frozen_grow size_grow Oper.semAt_some

theorem ex_plok : PlOk 2 exR := cE_zero (by decide +kernel)
theorem ex_next {w : World} {b : Nat} (hS : SlA w (some ⟨b, 0, none⟩) 2 exR) :
    Calls Tryd.prog 13 #[pV (some ⟨b, 0, none⟩) 2 2] w fun e w' => e = .returned (.tuple #[.agg #[.string ⟨#[97]⟩, .int .i64 5], .int .i64 0]) ∧ Below w.heap.size w w' := by
  refine (nextF_ok hS (by decide) ex_alB).mono ?_
  rintro e w' ⟨rfl, h⟩
  refine ⟨?_, h⟩
  have h1 : nextV 2 exR = (⟨#[97]⟩, 5) := by decide +kernel
  have h2 : nextE 2 exR = 0 := by decide +kernel
  rw [h1, h2]
theorem ex_count {w : World} {b : Nat} (hS : SlA w (some ⟨b, 0, none⟩) 2 exR) :
    Calls Tryd.prog 15 #[pV (some ⟨b, 0, none⟩) 2 2, .int .i64 1000000000000] w fun e w' => e = .returned (.tuple #[.int .i64 100000000001, .int .i64 0]) ∧ Below w.heap.size w w' := by
  have h := count_ok (c := 2) hS (by decide) ex_alB 1000000000000
  rw [show ctV 2 exR 1000000000000 = 100000000001 by decide +kernel, show ctE 2 exR 1000000000000 = 0 by decide +kernel] at h
  exact h
/-- the boxes of Add and of Cancel at the example -/
structure KA (w : World) (a : Option Addr) (W : World) : Prop where
  k : Below w.heap.size w W
  p : BoxA W w.heap.size a 2 2
  x : W.heap[w.heap.size + 1]? = some (.cells #[.string ⟨#[97]⟩, .int .i64 1, .int .i64 0] 50 (0, 0))
  o : BoxA W (w.heap.size + 1 + 1) none 0 0
theorem KA.below {w W W' : World} {a : Option Addr} (h : KA w a W) (hb : Below W.heap.size W W') : KA w a W' :=
  ⟨below_tr h.k hb, (hb.block _ (blk_lt h.p)).trans h.p, (hb.block _ (blk_lt h.x)).trans h.x, (hb.block _ (blk_lt h.o)).trans h.o⟩
theorem KA.new {w : World} {a : Option Addr} : KA w a (((w.alloc (.cells #[.slice a 2 2] 44)).alloc (.cells #[.string ⟨#[97]⟩, .int .i64 1, .int .i64 0] 50)).alloc (.cells #[.slice none 0 0] 44)) := by
  refine ⟨(((Below.refl _ w).alloc (Nat.le_refl _) _).alloc (by simp) _).alloc (by simp; omega) _, ?_, ?_, ?_⟩
  · exact (Below.heap_alloc _ _ _ (by simp; omega)).trans ((Below.heap_alloc _ _ _ (by simp)).trans (heap_alloc_new w _))
  · have := heap_alloc_new (w.alloc (.cells #[.slice a 2 2] 44)) (.cells #[.string ⟨#[97]⟩, .int .i64 1, .int .i64 0] 50)
    rw [World.size_alloc] at this
    exact (Below.heap_alloc _ _ _ (by simp)).trans this
  · have := heap_alloc_new ((w.alloc (.cells #[.slice a 2 2] 44)).alloc (.cells #[.string ⟨#[97]⟩, .int .i64 1, .int .i64 0] 50)) (.cells #[.slice none 0 0] 44)
    rw [World.size_alloc, World.size_alloc] at this
    exact this
section
variable {w W : World} {a : Option Addr}
theorem KA.cp (h : KA w a W) : W.cell? ⟨w.heap.size, 0, none⟩ = some (.slice a 2 2) := by rw [cell_of_block h.p]; rfl
theorem KA.c0 (h : KA w a W) : W.cell? ⟨w.heap.size + 1, 0, none⟩ = some (.string ⟨#[97]⟩) := by rw [cell_of_block h.x]; rfl
theorem KA.c1 (h : KA w a W) : W.cell? ⟨w.heap.size + 1, 1, none⟩ = some (.int .i64 1) := by rw [cell_of_block h.x]; rfl
theorem KA.c2 (h : KA w a W) : W.cell? ⟨w.heap.size + 1, 2, none⟩ = some (.int .i64 0) := by rw [cell_of_block h.x]; rfl
theorem KA.co (h : KA w a W) : W.cell? ⟨w.heap.size + 1 + 1, 0, none⟩ = some (.slice none 0 0) := by rw [cell_of_block h.o]; rfl
theorem KA.fo (h : KA w a W) (q : Nat) : W.frozen? ⟨w.heap.size + 1 + 1, q, none⟩ = false := unfrozen_of_block h.o q
theorem KA.lo (h : KA w a W) : w.heap.size + 1 + 1 < W.heap.size := blk_lt h.o
end
set_option maxRecDepth 100000 in
set_option maxHeartbeats 1600000 in
theorem ex_add {w : World} {b : Nat} (hS : SlA w (some ⟨b, 0, none⟩) 2 exR) :
    Calls Tryd.prog 16 #[pV (some ⟨b, 0, none⟩) 2 2, .agg #[.string ⟨#[97]⟩, .int .i64 1, .int .i64 0]] w fun e w' => e = .returned (.tuple #[.agg #[.slice none 0 0], .int .i64 8]) ∧ Below w.heap.size w w' := by
  have hab := KA.new (w := w) (a := some ⟨b, 0, none⟩)
  have HAB := Lib.hid hab
  have hC := check_ok (c := 2) (hS.below hab.k) (by decide) ex_alB
  rw [show cE 2 exR = 0 by decide +kernel] at hC
  have HC := Lib.hid hC
  have hX := checkAlarm_ok (⟨#[97]⟩, 1, 0) (by decide)
  rw [show alE (⟨#[97]⟩, 1, 0) = 0 by decide +kernel] at hX
  have HX := Lib.hid hX
  have HS := Lib.hid hS
  clear hS hab hC hX
  go_enter Tryd.func16, Tryd.ntmps16
  go_wp2_with fail
  refine HC.out.mono ?_
  rintro e w0 ⟨rfl, b0⟩
  have HB0 := Lib.hid (HAB.out.below b0)
  have q0 := HB0.out.c0
  have q1 := HB0.out.c1
  have q2 := HB0.out.c2
  clear b0
  go_wp2_with fail
  refine (HX.out _).mono ?_
  clear q0 q1 q2
  rintro e w1 ⟨rfl, b1⟩
  have HB1 := Lib.hid (HB0.out.below b1)
  have hF := find_ok (c := 2) (HS.out.below HB1.out.k) ex_plok ⟨#[97]⟩
  rw [show (decide (lowI 2 exR ⟨#[97]⟩ < 2) && decide ((exR (lowI 2 exR ⟨#[97]⟩)).1 = ⟨#[97]⟩)) = true by decide +kernel] at hF
  have HF := Lib.hid hF
  have k0 := HB1.out.cp
  have q0 := HB1.out.c0
  clear b1 hF
  go_wp2_with fail
  refine HF.out.mono ?_
  clear k0 q0
  rintro e w2 ⟨rfl, b2⟩
  have HB2 := Lib.hid (HB1.out.below b2)
  have k5 := HB2.out.co
  have f5 := HB2.out.fo
  have l5 := HB2.out.lo
  clear b2
  go_wp2
  exact bodyPost_ret (v := .tuple #[pV none 0 0, .int .i64 8]) (by simp [results, Tryd.results16, go_sem, k5, f5]) rfl ⟨rfl, HB2.out.k.setCell (p := ⟨w.heap.size + 1 + 1, 0, none⟩) (by dsimp only; omega) _⟩
structure KB (w : World) (a : Option Addr) (W : World) : Prop where
  k : Below w.heap.size w W
  p : BoxA W w.heap.size a 2 2
  o : BoxA W (w.heap.size + 1) none 0 0
section
variable {w W : World} {a : Option Addr}
theorem KB.below {W' : World} (h : KB w a W) (hb : Below W.heap.size W W') : KB w a W' :=
  ⟨below_tr h.k hb, (hb.block _ (blk_lt h.p)).trans h.p, (hb.block _ (blk_lt h.o)).trans h.o⟩
theorem KB.cp (h : KB w a W) : W.cell? ⟨w.heap.size, 0, none⟩ = some (.slice a 2 2) := by rw [cell_of_block h.p]; rfl
theorem KB.co (h : KB w a W) : W.cell? ⟨w.heap.size + 1, 0, none⟩ = some (.slice none 0 0) := by rw [cell_of_block h.o]; rfl
theorem KB.fo (h : KB w a W) (q : Nat) : W.frozen? ⟨w.heap.size + 1, q, none⟩ = false := unfrozen_of_block h.o q
theorem KB.lo (h : KB w a W) : w.heap.size + 1 < W.heap.size := blk_lt h.o
theorem KB.new : KB w a ((w.alloc (.cells #[.slice a 2 2] 44)).alloc (.cells #[.slice none 0 0] 44)) := by
  refine ⟨((Below.refl _ w).alloc (Nat.le_refl _) _).alloc (by simp) _, (Below.heap_alloc _ _ _ (by simp)).trans (heap_alloc_new w _), ?_⟩
  have := heap_alloc_new (w.alloc (.cells #[.slice a 2 2] 44)) (.cells #[.slice none 0 0] 44)
  rwa [World.size_alloc] at this
end
set_option maxRecDepth 100000 in
set_option maxHeartbeats 1600000 in
theorem ex_cancel {w : World} {b : Nat} (hS : SlA w (some ⟨b, 0, none⟩) 2 exR) :
    Calls Tryd.prog 17 #[pV (some ⟨b, 0, none⟩) 2 2, .string ⟨#[99]⟩] w fun e w' => e = .returned (.tuple #[.agg #[.slice none 0 0], .int .i64 4]) ∧ Below w.heap.size w w' := by
  have hab := KB.new (w := w) (a := some ⟨b, 0, none⟩)
  have HAB := Lib.hid hab
  have hC := check_ok (c := 2) (hS.below hab.k) (by decide) ex_alB
  rw [show cE 2 exR = 0 by decide +kernel] at hC
  have HC := Lib.hid hC
  have HS := Lib.hid hS
  clear hS hab hC
  go_enter Tryd.func17, Tryd.ntmps17
  go_wp2_with fail
  refine HC.out.mono ?_
  rintro e w1 ⟨rfl, b1⟩
  have HB1 := Lib.hid (HAB.out.below b1)
  have hF := find_ok (c := 2) (HS.out.below HB1.out.k) ex_plok ⟨#[99]⟩
  rw [show (decide (lowI 2 exR ⟨#[99]⟩ < 2) && decide ((exR (lowI 2 exR ⟨#[99]⟩)).1 = ⟨#[99]⟩)) = false by decide +kernel] at hF
  have HF := Lib.hid hF
  have k0 := HB1.out.cp
  clear b1 hF
  go_wp2_with fail
  refine HF.out.mono ?_
  clear k0
  rintro e w2 ⟨rfl, b2⟩
  have HB2 := Lib.hid (HB1.out.below b2)
  have k5 := HB2.out.co
  have f5 := HB2.out.fo
  have l5 := HB2.out.lo
  clear b2
  go_wp2
  exact bodyPost_ret (v := .tuple #[pV none 0 0, .int .i64 4]) (by simp [results, Tryd.results17, go_sem, k5, f5]) rfl ⟨rfl, HB2.out.k.setCell (p := ⟨w.heap.size + 1, 0, none⟩) (by dsimp only; omega) _⟩
end Go.Proofs.YtmgpdaljminipaaDoor
