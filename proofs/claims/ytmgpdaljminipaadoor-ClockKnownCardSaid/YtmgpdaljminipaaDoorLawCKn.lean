/- Clocks: ClockKnown returns true. -/
import Derived.Test.YtmgpdaljminipaaDoorCKn
namespace Go.Proofs.YtmgpdaljminipaaDoor
open Go.RowKit Go.Sort Go.Joins Go.Shelf
attribute [local go_sem] cell_grow frozen_grow size_grow Oper.semAt_some
section
variable {w : World} {a b : Option Addr} {n c d : Nat} {G : Nat → Int}
set_option maxRecDepth 100000 in
set_option maxHeartbeats 1600000 in
theorem ints_ok (hS : SlZ .i64 w a n G) (hn : n ≤ 9223372036854775807) (hQ : SlZ .i64 w b n G) :
    Calls Tryd.prog 18 #[.slice a n c, .slice b n d] w fun e w' => e = .returned (.bool true) ∧ Below w.heap.size w w' := by
  have hne : ((n : Int) != (n : Int)) = false := by simp
  have HS := Lib.hid hS
  have HQ := Lib.hid hQ
  clear hS hQ
  go_enter Tryd.func18, Tryd.ntmps18
  go_wp2
  go_loopw [5] (fun i wr => ∃ k : Nat, i = .int .i64 k ∧ k ≤ n ∧ Hid (Below w.heap.size w wr)) (fun i _ => n - (intOf i).toNat)
  case atStart => exact ⟨0, rfl, Nat.zero_le _, Lib.hid (Below.refl _ _)⟩
  case round =>
    obtain ⟨k, rfl, hk, HBr⟩ := hrel
    clear hne
    by_cases hlt : k < n
    · obtain ⟨ba, oa, rfl, g0⟩ := (HS.out.below HBr.out).at_ hlt
      obtain ⟨bb, ob, rfl, h0⟩ := (HQ.out.below HBr.out).at_ hlt
      have hli : (k : Int) < (n : Int) := by omega
      have hk0 : (0 : Int) ≤ (k : Int) := by omega
      obtain ⟨y, hy⟩ : ∃ y, G k = y := ⟨_, rfl⟩
      rw [hy] at g0 h0
      have hyy : (y != y) = false := by simp
      clear hy
      go_wp2_with fail
      go_quiet (fail)
      go_wp2
      go_roundw
      case rel => exact ⟨k + 1, by go_num, by omega, Lib.hid (HBr.out.trans ((below_draw _ _).mono HBr.out.size))⟩
      case measure => simp [intOf]; omega
    · obtain rfl : k = n := by omega
      go_wp2
      go_ret
      exact ⟨rfl, HBr.out⟩
end
theorem kept {W W' : World} {k : Nat} {o : Obj} (h : W.heap[k]? = some o) (b : Below W.heap.size W W') : W'.heap[k]? = some o := (b.block _ (blk_lt h)).trans h
/-- a text that ParseSpan refuses, or reads -/
theorem ps_at (s : ByteArray) (n e : Nat) (h : psR s.data.toList = (n, e)) (hs : s.size ≤ 1000000) (w : World) (hT : T9 w) (hTW : TW w) : Calls Tryd.prog 8 #[.string s] w fun x w' => x = .returned (.tuple #[.int .i64 (n : Int), .int .i64 (e : Int)]) ∧ Below w.heap.size w w' := by
  have := psP_ok s _ rfl hs w hT hTW
  rw [h] at this
  exact this
theorem sp_at (t : Int) (ht : tmB t = true) (S : ByteArray) (h : spanL t.toNat = S.data.toList) (w : World) (hT : T9 w) (hTW : TW w) : Calls Tryd.prog 6 #[.int .i64 t] w fun x w' => x = .returned (.tuple #[.string S, .int .i64 0]) ∧ Below w.heap.size w w' := by
  refine (spanP_ok t w hT hTW).mono ?_
  rintro e w' ⟨⟨S1, rfl, h1⟩, h2⟩
  rw [if_pos ht] at h1
  refine ⟨?_, h2⟩
  rw [if_pos ht, ba_of (h1.trans h)]
set_option maxRecDepth 100000 in
set_option maxHeartbeats 6400000 in
theorem law_known9 (w : World) (hT : T9 w) (hTW : TW w) : Calls Tryd.prog 4 #[] w fun e w' => e = .returned (.bool true) ∧ Below w.heap.size w w' := by
  have HT := Lib.hid hT
  have HTW := Lib.hid hTW
  have HS := Lib.hid (set_ok 7 9)
  rw [show setV 7 9 = 9 by decide, show setE 7 9 = 0 by decide] at HS
  have HA5 := Lib.hid (age_ok 7 5)
  rw [show ageV 7 5 = 2 by decide, show ageE 7 5 = 0 by decide] at HA5
  have HA8 := Lib.hid (age_ok 7 8)
  rw [show ageV 7 8 = 0 by decide, show ageE 7 8 = 7 by decide] at HA8
  clear hT hTW
  have h1 : (w.alloc (.cells #[.int .i64 7] 30)).heap[w.heap.size]? = some (.cells #[.int .i64 7] 30 (0, 0)) := heap_alloc_new w _
  have HB0 := Lib.hid (below_box0 w (.cells #[.int .i64 7] 30))
  have H10 := Lib.hid h1
  clear h1
  go_enter Tryd.func4, Tryd.ntmps4
  go_wp2_with fail
  refine (HS.out _).mono ?_
  rintro e w1 ⟨rfl, b1⟩
  have bb := below_box0 w1 (.cells #[.int .i64 9] 30)
  have H1 := Lib.hid (kept (kept H10.out b1) bb)
  have H2 := Lib.hid (heap_alloc_new w1 (.cells #[.int .i64 9] 30))
  have HB1 := Lib.hid (below_tr (below_tr HB0.out b1) bb)
  have k1 : (w1.alloc (.cells #[.int .i64 9] 30)).cell? ⟨w.heap.size, 0, none⟩ = some (.int .i64 7) := by rw [cell_of_block H1.out]; rfl
  clear b1 bb H10 HB0 HS
  go_wp2_with fail
  refine (HA5.out _).mono ?_
  rintro e w2 ⟨rfl, b2⟩
  have H12 := Lib.hid (kept H1.out b2)
  have H22 := Lib.hid (kept H2.out b2)
  have HB2 := Lib.hid (below_tr HB1.out b2)
  clear k1
  have k1 : w2.cell? ⟨w.heap.size, 0, none⟩ = some (.int .i64 7) := by rw [cell_of_block H12.out]; rfl
  clear b2 H1 H2 HB1 HA5
  go_wp2_with fail
  refine (HA8.out _).mono ?_
  rintro e w3 ⟨rfl, b3⟩
  have H13 := Lib.hid (kept H12.out b3)
  have H23 := Lib.hid (kept H22.out b3)
  have HB3 := Lib.hid (below_tr HB2.out b3)
  clear k1
  have k1 : w3.cell? ⟨w.heap.size, 0, none⟩ = some (.int .i64 7) := by rw [cell_of_block H13.out]; rfl
  clear b3 H12 H22 HB2 HA8
  have bb := below_box0 w3 (.cells #[.int .i64 1, .int .i64 7, .int .i64 3] 2)
  have H2a := Lib.hid (kept H23.out bb)
  have HBa := Lib.hid (below_tr HB3.out bb)
  have hU : SlZ .i64 (w3.alloc (.cells #[.int .i64 1, .int .i64 7, .int .i64 3] 2)) (some ⟨w3.heap.size, 0, none⟩) 3 (fun j => [1, 7, 3].getD j 0) := by
    refine .inr ⟨_, _, rfl, fun j hj => ?_⟩
    rw [cell_of_block (heap_alloc_new w3 _)]
    have hj3 : j = 0 ∨ j = 1 ∨ j = 2 := by omega
    rcases hj3 with rfl | rfl | rfl <;> rfl
  have HO := Lib.hid (old_ok (c := 3) hU (by decide) 7 4)
  clear bb hU
  go_wp2_with fail
  refine HO.out.mono ?_
  rintro e w4 ⟨aL, cL, L, rfl, hL, hSL, b4⟩
  have hL2 : L = [0, 2] := hL.out.trans (by decide +kernel)
  subst hL2
  have hE : oldE 3 (fun j => [1, 7, 3].getD j 0) 7 4 = 0 := by decide +kernel
  rw [hE]
  have HSL := Lib.hid hSL
  have H24 := Lib.hid (kept H2a.out b4)
  have HB4 := Lib.hid (below_tr HBa.out b4)
  clear k1 b4 hSL hL hE HO H2a HBa H13 H23 HB3
  go_wp2_with fail
  refine (example_ok _).mono ?_
  rintro e w5 ⟨be, rfl, hE5, b5⟩
  have H25 := Lib.hid (kept H24.out b5)
  have HSL5 := Lib.hid (HSL.out.below b5)
  have HB5 := Lib.hid (below_tr HB4.out b5)
  have HX := Lib.hid (ex_next hE5)
  clear b5 hE5 H24 HSL HB4
  go_wp2_with fail
  refine HX.out.mono ?_
  rintro e w6 ⟨rfl, b6⟩
  have bb := below_box0 w6 (.cells #[.string ⟨#[97]⟩, .int .i64 5] 39)
  have H26 := Lib.hid (kept (kept H25.out b6) bb)
  have HSL6 := Lib.hid ((HSL5.out.below b6).below bb)
  have HR6 := Lib.hid (heap_alloc_new w6 (.cells #[.string ⟨#[97]⟩, .int .i64 5] 39))
  have HB6 := Lib.hid (below_tr (below_tr HB5.out b6) bb)
  clear b6 bb HX H25 HSL5 HB5
  go_wp2_with fail
  refine (example_ok _).mono ?_
  rintro e w7 ⟨be7, rfl, hE7, b7⟩
  have H27 := Lib.hid (kept H26.out b7)
  have HR7 := Lib.hid (kept HR6.out b7)
  have HSL7 := Lib.hid (HSL6.out.below b7)
  have HB7 := Lib.hid (below_tr HB6.out b7)
  have HX := Lib.hid (ex_count hE7)
  clear b7 hE7 H26 HR6 HSL6 HB6
  go_wp2_with fail
  refine HX.out.mono ?_
  rintro e w8 ⟨rfl, b8⟩
  have H28 := Lib.hid (kept H27.out b8)
  have HR8 := Lib.hid (kept HR7.out b8)
  have HSL8 := Lib.hid (HSL7.out.below b8)
  have HB8 := Lib.hid (below_tr HB7.out b8)
  clear b8 HX H27 HR7 HSL7 HB7
  go_wp2_with fail
  refine (example_ok _).mono ?_
  rintro e w9 ⟨be9, rfl, hE9, b9⟩
  have H29 := Lib.hid (kept H28.out b9)
  have HR9 := Lib.hid (kept HR8.out b9)
  have HSL9 := Lib.hid (HSL8.out.below b9)
  have HB9 := Lib.hid (below_tr HB8.out b9)
  have HX := Lib.hid (ex_add hE9)
  clear b9 hE9 H28 HR8 HSL8 HB8
  go_wp2_with fail
  refine HX.out.mono ?_
  rintro e w10 ⟨rfl, b10⟩
  have bb := below_box0 w10 (.cells #[.slice none 0 0] 44)
  have H2x := Lib.hid (kept (kept H29.out b10) bb)
  have HRx := Lib.hid (kept (kept HR9.out b10) bb)
  have HSLx := Lib.hid ((HSL9.out.below b10).below bb)
  have HBx := Lib.hid (below_tr (below_tr HB9.out b10) bb)
  clear b10 bb HX H29 HR9 HSL9 HB9
  go_wp2_with fail
  refine (example_ok _).mono ?_
  rintro e w11 ⟨be11, rfl, hE11, b11⟩
  have H2y := Lib.hid (kept H2x.out b11)
  have HRy := Lib.hid (kept HRx.out b11)
  have HSLy := Lib.hid (HSLx.out.below b11)
  have HBy := Lib.hid (below_tr HBx.out b11)
  have HX := Lib.hid (ex_cancel hE11)
  clear b11 hE11 H2x HRx HSLx HBx
  go_wp2_with fail
  refine HX.out.mono ?_
  rintro e w12 ⟨rfl, b12⟩
  have bb := below_box0 w12 (.cells #[.slice none 0 0] 44)
  have h2z := kept (kept H2y.out b12) bb
  have hrz := kept (kept HRy.out b12) bb
  have hslz := (HSLy.out.below b12).below bb
  have HBz := Lib.hid (below_tr (below_tr HBy.out b12) bb)
  have k2 : (w12.alloc (.cells #[.slice none 0 0] 44)).cell? ⟨w1.heap.size, 0, none⟩ = some (.int .i64 9) := by rw [cell_of_block h2z]; rfl
  have bc := below_box0 (w12.alloc (.cells #[.slice none 0 0] 44)) (.cells #[.int .i64 0, .int .i64 2] 3)
  have hnew := heap_alloc_new (w12.alloc (.cells #[.slice none 0 0] 44)) (.cells #[.int .i64 0, .int .i64 2] 3)
  rw [World.size_alloc] at hnew
  have hQ : SlZ .i64 ((w12.alloc (.cells #[.slice none 0 0] 44)).alloc (.cells #[.int .i64 0, .int .i64 2] 3)) (some ⟨w12.heap.size + 1, 0, none⟩) 2 (fun j => [0, 2].getD j 0) := by
    refine .inr ⟨_, _, rfl, fun j hj => ?_⟩
    rw [cell_of_block hnew]
    have hj3 : j = 0 ∨ j = 1 := by omega
    rcases hj3 with rfl | rfl <;> rfl
  have HI := Lib.hid (ints_ok (c := cL) (d := 2) (hslz.below bc) (by decide) hQ)
  have HRz := Lib.hid (kept hrz bc)
  have HBw := Lib.hid (below_tr HBz.out bc)
  clear b12 bb bc HX H2y HRy HSLy HBy h2z hrz hslz hQ HBz hnew
  go_wp2_with fail
  refine HI.out.mono ?_
  rintro e w13 ⟨rfl, b13⟩
  have hr13 := kept HRz.out b13
  have HB13 := Lib.hid (below_tr HBw.out b13)
  have kr0 : w13.cell? ⟨w6.heap.size, 0, none⟩ = some (.string ⟨#[97]⟩) := by rw [cell_of_block hr13]; rfl
  have kr1 : w13.cell? ⟨w6.heap.size, 1, none⟩ = some (.int .i64 5) := by rw [cell_of_block hr13]; rfl
  have hneq := neq_ring (⟨#[97]⟩, 5) (⟨#[97]⟩, 5)
  rw [decide_eq_true rfl] at hneq
  have hgd := guardG
  clear b13 hr13 HRz HBw HI k2
  go_wp2_with fail
  have HB14 := Lib.hid (below_tr HB13.out (below_box0 w13 (.cells #[.string ⟨#[49, 104, 54, 48, 109]⟩, .string ⟨#[49, 109, 49, 104]⟩, .string ⟨#[48, 53, 115]⟩] 53)))
  have HA14 := Lib.hid (heap_alloc_new w13 (.cells #[.string ⟨#[49, 104, 54, 48, 109]⟩, .string ⟨#[49, 109, 49, 104]⟩, .string ⟨#[48, 53, 115]⟩] 53))
  clear kr0 kr1 hneq hgd HB13
  go_loopw [19] (fun i wr => ∃ k : Nat, i = .int .i64 (k : Int) ∧ k ≤ 3 ∧ Hid (Below w.heap.size w wr) ∧ Hid (wr.heap[w13.heap.size]? = some (.cells #[.string ⟨#[49, 104, 54, 48, 109]⟩, .string ⟨#[49, 109, 49, 104]⟩, .string ⟨#[48, 53, 115]⟩] 53 (0, 0)))) (fun i _ => 3 - (intOf i).toNat)
  case atStart => exact ⟨0, rfl, Nat.zero_le _, HB14, HA14⟩
  case round =>
    clear HB14 HA14
    obtain ⟨k, rfl, hk, HB, HA⟩ := hrel
    have h4 : k = 0 ∨ k = 1 ∨ k = 2 ∨ k = 3 := by omega
    rcases h4 with rfl | rfl | rfl | rfl
    all_goals clear hk
    · have kc : wr.cell? ⟨w13.heap.size, 0, none⟩ = some (.string ⟨#[49, 104, 54, 48, 109]⟩) := by rw [cell_of_block HA.out]; rfl
      have HP := Lib.hid (ps_at ⟨#[49, 104, 54, 48, 109]⟩ 0 6 (by decide +kernel) (by decide) wr (HT.out.below HB.out) (HTW.out.below HB.out))
      go_wp2_with fail
      refine HP.out.mono ?_
      rintro e wx ⟨rfl, bx⟩
      have HBx := Lib.hid (below_tr HB.out bx)
      have HAx := Lib.hid (kept HA.out bx)
      clear HP bx kc
      go_wp2_with fail
      go_roundw
      case rel => exact ⟨1, by go_num, by decide, HBx, HAx⟩
      case measure => simp [intOf]
    · have kc : wr.cell? ⟨w13.heap.size, 1, none⟩ = some (.string ⟨#[49, 109, 49, 104]⟩) := by rw [cell_of_block HA.out]; rfl
      have HP := Lib.hid (ps_at ⟨#[49, 109, 49, 104]⟩ 0 6 (by decide +kernel) (by decide) wr (HT.out.below HB.out) (HTW.out.below HB.out))
      go_wp2_with fail
      refine HP.out.mono ?_
      rintro e wx ⟨rfl, bx⟩
      have HBx := Lib.hid (below_tr HB.out bx)
      have HAx := Lib.hid (kept HA.out bx)
      clear HP bx kc
      go_wp2_with fail
      go_roundw
      case rel => exact ⟨2, by go_num, by decide, HBx, HAx⟩
      case measure => simp [intOf]
    · have kc : wr.cell? ⟨w13.heap.size, 2, none⟩ = some (.string ⟨#[48, 53, 115]⟩) := by rw [cell_of_block HA.out]; rfl
      have HP := Lib.hid (ps_at ⟨#[48, 53, 115]⟩ 0 6 (by decide +kernel) (by decide) wr (HT.out.below HB.out) (HTW.out.below HB.out))
      go_wp2_with fail
      refine HP.out.mono ?_
      rintro e wx ⟨rfl, bx⟩
      have HBx := Lib.hid (below_tr HB.out bx)
      have HAx := Lib.hid (kept HA.out bx)
      clear HP bx kc
      go_wp2_with fail
      go_roundw
      case rel => exact ⟨3, by go_num, by decide, HBx, HAx⟩
      case measure => simp [intOf]
    · have HP := Lib.hid (ps_at ⟨#[49, 49, 53, 55, 52, 48, 55, 52, 100, 49, 104, 52, 54, 109, 52, 48, 115]⟩ 1000000000000 0 (by decide +kernel) (by decide) wr (HT.out.below HB.out) (HTW.out.below HB.out))
      go_wp2_with fail
      refine HP.out.mono ?_
      rintro e wa ⟨rfl, ba⟩
      have HBa := Lib.hid (below_tr HB.out ba)
      clear HP ba HB HA
      have HQ := Lib.hid (sp_at 0 (by decide +kernel) ⟨#[48, 115]⟩ (by decide +kernel) wa (HT.out.below HBa.out) (HTW.out.below HBa.out))
      go_wp2_with fail
      refine HQ.out.mono ?_
      rintro e wb ⟨rfl, bb⟩
      have HBb := Lib.hid (below_tr HBa.out bb)
      clear HQ bb HBa
      have HQ := Lib.hid (sp_at 3600 (by decide +kernel) ⟨#[49, 104]⟩ (by decide +kernel) wb (HT.out.below HBb.out) (HTW.out.below HBb.out))
      go_wp2_with fail
      refine HQ.out.mono ?_
      rintro e wc ⟨rfl, bc⟩
      have HBc := Lib.hid (below_tr HBb.out bc)
      clear HQ bc HBb
      go_wp2_with fail
      refine (shown_ok _ (HT.out.below HBc.out)).mono ?_
      rintro e wd ⟨rfl, bd⟩
      have HBd := Lib.hid (below_tr HBc.out bd)
      go_wp2_with fail
      go_ret
      exact ⟨rfl, HBd.out⟩
end Go.Proofs.YtmgpdaljminipaaDoor
