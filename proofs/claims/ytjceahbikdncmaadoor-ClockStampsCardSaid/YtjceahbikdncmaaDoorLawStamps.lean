/- Clocks: ClockStamps returns true. -/
import Derived.Test.YtjceahbikdncmaaDoorC9U
import Derived.Deep.Cut
namespace Go.Proofs.YtjceahbikdncmaaDoor
open Go.RowKit Go.Sort Go.Joins Go.Shelf
attribute [local go_sem] cell_grow frozen_grow size_grow Oper.semAt_some
attribute [local go_sem ↓] Go.wp_at_zero Go.wp_at_succ
theorem eql_clock (x y : Int) (w : World) : Sem.run Tryd.prog (binOp .eql 38 (.agg #[.int .i64 x]) (.agg #[.int .i64 y])) w = .ok (.bool (decide (x = y))) w := by
  have u3 := Tryd.underlying2
  have hS : Tryd.prog.underlying 38 = some (.struct (Tryd.prog.fieldsOf 38)) := by kernel_rfl
  have hp : Tryd.prog.stoodInHeld 38 = false := by kernel_rfl
  rw [run_eql_struct, show (10000 : Nat) = 9999 + 1 from rfl, run_equalIn_agg w 9999 38 _ _ hS hp]
  simp only [Program.fieldsOf, Tryd.underlying38]
  go_simp
  by_cases h1 : x = y <;> simp [h1]
theorem guardC : Tryd.prog.eqGuardType Tryd.prog.depth 38 = false := by kernel_rfl
section
variable {w : World} {a b : Option Addr} {n c d : Nat} {G : Nat → Int}
set_option maxRecDepth 100000 in
set_option maxHeartbeats 1600000 in
theorem ints_ok (hS : SlZ .i64 w a n G) (hn : n ≤ 9223372036854775807) (hQ : SlZ .i64 w b n G) :
    Calls Tryd.prog 24 #[.slice a n c, .slice b n d] w fun e w' => e = .returned (.bool true) ∧ Below w.heap.size w w' := by
  have hne : ((n : Int) != (n : Int)) = false := by simp
  have HS := Lib.hid hS
  have HQ := Lib.hid hQ
  clear hS hQ
  go_enter Tryd.func24, Tryd.ntmps24
  go_wp2
  go_loopw [5] (fun i wr => ∃ k : Nat, i = .int .i64 k ∧ k ≤ n ∧ Hid (Below w.heap.size w wr)) (fun i _ => n - (intOf i).toNat)
  case atStart => exact ⟨0, rfl, Nat.zero_le _, Lib.hid (Below.refl _ _)⟩
  case round =>
    obtain ⟨k, rfl, hk, HBr⟩ := hrel
    clear hne
    by_cases hlt : k < n
    · obtain ⟨ba, oa, rfl, g0⟩ := (HS.out.below HBr.out).at_ hlt
      obtain ⟨bb, ob, rfl, h0⟩ := (HQ.out.below HBr.out).at_ hlt
      have hli : (k : Int) < (n : Int) := by omega
      have hk0 : (0 : Int) ≤ (k : Int) := by omega
      obtain ⟨y, hy⟩ : ∃ y, G k = y := ⟨_, rfl⟩
      rw [hy] at g0 h0
      have hyy : (y != y) = false := by simp
      clear hy
      go_wp2_with fail
      go_quiet (fail)
      go_wp2
      go_roundw
      case rel => exact ⟨k + 1, by go_num, by omega, Lib.hid (HBr.out.trans ((below_draw _ _).mono HBr.out.size))⟩
      case measure => simp [intOf]; omega
    · obtain rfl : k = n := by omega
      go_wp2
      go_ret
      exact ⟨rfl, HBr.out⟩
end
set_option maxRecDepth 100000 in
set_option maxHeartbeats 3200000 in
theorem law_stamps (y0 : Int) (a : Option Addr) (m cu : Nat) (U : Nat → Int) (t : Int) (w : World) (hU : SlZ .i64 w a m U) (hm : m ≤ 9223372036854775807) (hT : T9 w) :
    Calls Tryd.prog 7 #[.agg #[.int .i64 y0], .slice a m cu, .int .i64 t] w fun e w' => e = .returned (.bool true) ∧ Below w.heap.size w w' := by
  have b0 := below_box0 w (.cells #[.int .i64 y0] 38)
  have HB0 := Lib.hid b0
  have HT := Lib.hid hT
  have HU := Lib.hid hU
  have HX0 : Hid ((w.alloc (.cells #[.int .i64 y0] 38)).heap[w.heap.size]? = some (.cells #[.int .i64 y0] 38 (0, 0))) := Lib.hid (heap_alloc_new w _)
  clear b0 hU hT
  by_cases h1 : 1100 < m
  · have d1 : decide ((1100 : Int) < (m : Int)) = true := by simp; omega
    clear h1
    go_enter Tryd.func7, Tryd.ntmps7
    go_wp2_with fail
    refine (shown_ok _ (HT.out.below HB0.out)).mono ?_
    rintro e w1 ⟨rfl, b1⟩
    have HB1 := Lib.hid (below_tr HB0.out b1)
    clear b1
    go_wp2
    go_ret
    exact ⟨rfl, HB1.out⟩
  · have d1 : decide ((1100 : Int) < (m : Int)) = false := by simp; omega
    have HS1 := Lib.hid (set_ok y0 t)
    have HS2 := Lib.hid (rSet_ok y0 t)
    have HA1 := Lib.hid (age_ok y0 t)
    have HA2 := Lib.hid (rAge_ok y0 t)
    have HOld := Lib.hid (fun (W : World) (hb : Below w.heap.size w W) => old_ok (c := cu) (HU.out.below hb) hm y0 t)
    have HROld := Lib.hid (fun (W : World) (hb : Below w.heap.size w W) => rOld_ok (c := cu) (HU.out.below hb) hm y0 t)
    obtain ⟨sv, hsv⟩ : ∃ v, setV y0 t = v := ⟨_, rfl⟩
    obtain ⟨se, hse⟩ : ∃ v, setE y0 t = v := ⟨_, rfl⟩
    obtain ⟨av, hav⟩ : ∃ v, ageV y0 t = v := ⟨_, rfl⟩
    obtain ⟨ae, hae⟩ : ∃ v, ageE y0 t = v := ⟨_, rfl⟩
    obtain ⟨oe, hoe⟩ : ∃ v, oldE m U y0 t = v := ⟨_, rfl⟩
    rw [hsv, hse] at HS1 HS2
    rw [hav, hae] at HA1 HA2
    have q1 : (se == se) = true := by simp
    have q2 : (av == av) = true := by simp
    have q3 : (ae == ae) = true := by simp
    have q4 : (oe == oe) = true := by simp
    have HLen : Hid ((oldR m U y0 t).length ≤ 1100) := Lib.hid (by
      unfold oldR
      split
      · have := oldL_len U y0 t m; omega
      · simp)
    clear h1 hsv hse hav hae
    go_enter Tryd.func7, Tryd.ntmps7
    go_wp2_with fail
    refine (HS1.out _).mono ?_
    rintro e w1 ⟨rfl, b1⟩
    have b2 := below_box0 w1 (.cells #[.int .i64 sv] 38)
    have b12 := below_tr b1 b2
    have HB2 := Lib.hid (below_tr HB0.out b12)
    have HX1 := Lib.hid ((b1.block _ (blk_lt HX0.out)).trans HX0.out)
    have k0 : w1.cell? ⟨w.heap.size, 0, none⟩ = some (.int .i64 y0) := by rw [cell_of_block HX1.out]; rfl
    have l0 := blk_lt HX1.out
    have HX2 := Lib.hid ((b12.block _ (blk_lt HX0.out)).trans HX0.out)
    have HY2 : Hid ((w1.alloc (.cells #[.int .i64 sv] 38)).heap[w1.heap.size]? = some (.cells #[.int .i64 sv] 38 (0, 0))) := Lib.hid (heap_alloc_new w1 _)
    clear b1 b2 b12
    go_wp2_with fail
    clear k0 l0 HX1
    obtain ⟨W2, hW2⟩ : ∃ W, w1.alloc (.cells #[.int .i64 sv] 38) = W := ⟨_, rfl⟩
    rw [hW2] at HB2 HX2 HY2 ⊢
    obtain ⟨g7, hg7⟩ : ∃ g, w1.heap.size = g := ⟨_, rfl⟩
    rw [hg7] at HY2 ⊢
    clear hW2 hg7
    refine (HS2.out _).mono ?_
    rintro e w3 ⟨rfl, b3⟩
    have b4 := below_box0 w3 (.cells #[.int .i64 sv] 38)
    have b34 := below_tr b3 b4
    have HB4 := Lib.hid (below_tr HB2.out b34)
    have HX3 := Lib.hid ((b3.block _ (blk_lt HX2.out)).trans HX2.out)
    have k0 : w3.cell? ⟨w.heap.size, 0, none⟩ = some (.int .i64 y0) := by rw [cell_of_block HX3.out]; rfl
    have l0 := blk_lt HX3.out
    have HX4 := Lib.hid ((b34.block _ (blk_lt HX2.out)).trans HX2.out)
    have HY4 := Lib.hid ((b34.block _ (blk_lt HY2.out)).trans HY2.out)
    have HZ4 : Hid ((w3.alloc (.cells #[.int .i64 sv] 38)).heap[w3.heap.size]? = some (.cells #[.int .i64 sv] 38 (0, 0))) := Lib.hid (heap_alloc_new w3 _)
    clear b3 b4 b34 HX2 HY2
    go_wp2_with fail
    clear k0 l0 HX3
    obtain ⟨W4, hW4⟩ : ∃ W, w3.alloc (.cells #[.int .i64 sv] 38) = W := ⟨_, rfl⟩
    rw [hW4] at HB4 HX4 HY4 HZ4 ⊢
    obtain ⟨g9, hg9⟩ : ∃ g, w3.heap.size = g := ⟨_, rfl⟩
    rw [hg9] at HZ4 ⊢
    clear hW4 hg9
    refine (HA1.out _).mono ?_
    rintro e w5 ⟨rfl, b5⟩
    have HB5 := Lib.hid (below_tr HB4.out b5)
    have HX5 := Lib.hid ((b5.block _ (blk_lt HX4.out)).trans HX4.out)
    have HY5 := Lib.hid ((b5.block _ (blk_lt HY4.out)).trans HY4.out)
    have HZ5 := Lib.hid ((b5.block _ (blk_lt HZ4.out)).trans HZ4.out)
    have k0 : w5.cell? ⟨w.heap.size, 0, none⟩ = some (.int .i64 y0) := by rw [cell_of_block HX5.out]; rfl
    clear b5 HX4 HY4 HZ4
    go_wp2_with fail
    refine (HA2.out _).mono ?_
    clear k0
    rintro e w6 ⟨rfl, b6⟩
    have HB6 := Lib.hid (below_tr HB5.out b6)
    have HX6 := Lib.hid ((b6.block _ (blk_lt HX5.out)).trans HX5.out)
    have HY6 := Lib.hid ((b6.block _ (blk_lt HY5.out)).trans HY5.out)
    have HZ6 := Lib.hid ((b6.block _ (blk_lt HZ5.out)).trans HZ5.out)
    have k0 : w6.cell? ⟨w.heap.size, 0, none⟩ = some (.int .i64 y0) := by rw [cell_of_block HX6.out]; rfl
    clear b6 HX5 HY5 HZ5
    go_wp2_with fail
    refine (HOld.out _ HB6.out).mono ?_
    clear k0
    rintro e w7 ⟨a7, c7, L, rfl, hL, hs7, b7⟩
    rw [hoe]
    have HL := hL
    have HQ7 := Lib.hid hs7
    have HB7 := Lib.hid (below_tr HB6.out b7)
    have HX7 := Lib.hid ((b7.block _ (blk_lt HX6.out)).trans HX6.out)
    have HY7 := Lib.hid ((b7.block _ (blk_lt HY6.out)).trans HY6.out)
    have HZ7 := Lib.hid ((b7.block _ (blk_lt HZ6.out)).trans HZ6.out)
    have k0 : w7.cell? ⟨w.heap.size, 0, none⟩ = some (.int .i64 y0) := by rw [cell_of_block HX7.out]; rfl
    clear b7 HX6 HY6 HZ6 hL hs7
    go_wp2_with fail
    refine (HROld.out _ HB7.out).mono ?_
    clear k0
    rintro e w8 ⟨a8, c8, M, rfl, hM, hs8, b8⟩
    rw [hoe]
    have hML : M = L := hM.out.trans HL.out.symm
    subst hML
    have HQ8 := Lib.hid (HQ7.out.below b8)
    have HR8 := Lib.hid hs8
    have HB8 := Lib.hid (below_tr HB7.out b8)
    have HY8 := (b8.block _ (blk_lt HY7.out)).trans HY7.out
    have HZ8 := (b8.block _ (blk_lt HZ7.out)).trans HZ7.out
    have k7 : w8.cell? ⟨g7, 0, none⟩ = some (.int .i64 sv) := by rw [cell_of_block HY8]; rfl
    have k9 : w8.cell? ⟨g9, 0, none⟩ = some (.int .i64 sv) := by rw [cell_of_block HZ8]; rfl
    have HI := Lib.hid (ints_ok (c := c7) (d := c8) HQ8.out (by have := HLen.out; rw [← HL.out] at this; omega) HR8.out)
    have hgd := guardC
    have heq := eql_clock sv sv
    rw [decide_eq_true (rfl : sv = sv)] at heq
    clear b8 HX7 HY7 HZ7 hM hs8 HY8 HZ8 HL HLen hoe HQ7 HQ8 HR8
    go_wp2_with fail
    refine HI.out.mono ?_
    clear k7 k9 hgd heq HI
    rintro e w9 ⟨rfl, b9⟩
    have HB9 := Lib.hid (below_tr HB8.out b9)
    clear b9
    go_wp2_with fail
    refine (shown_ok _ (HT.out.below HB9.out)).mono ?_
    rintro e w10 ⟨rfl, b10⟩
    have HB10 := Lib.hid (below_tr HB9.out b10)
    clear b10
    go_wp2
    go_ret
    exact ⟨rfl, HB10.out⟩
end Go.Proofs.YtjceahbikdncmaaDoor
