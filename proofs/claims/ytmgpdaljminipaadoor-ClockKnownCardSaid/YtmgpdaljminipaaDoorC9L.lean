/- Clocks: shown: some calls return what the document says of them. -/
import Derived.Test.YtmgpdaljminipaaDoorC9J
import Derived.Test.YtmgpdaljminipaaDoorC9K
namespace Go.Proofs.YtmgpdaljminipaaDoor
open Go.RowKit Go.Sort Go.Joins Go.Shelf
attribute [local go_sem] cell_grow frozen_grow size_grow

theorem ex_ok : PlOk 2 exR := cE_zero (by decide +kernel)
theorem ex_rnE : rnE 2 exR 25 = 0 := by decide +kernel
theorem ex_rst : rstA exR 25 2 = [(⟨#[97]⟩, 35, 10)] := by decide +kernel
theorem ex_run : RunOk 2 exR 25 [(5, 0), (15, 0), (15, 1), (25, 0)] := by
  have hal : ∀ i, i < 2 → AlOk (alP exR i) := ex_ok.ok
  have h1 := (RgAt.start 2 (alP exR) 25).step hal (b := 0) (by decide +kernel) (by decide +kernel)
  have h2 := h1.step hal (b := 0) (by decide +kernel) (by decide +kernel)
  have h3 := h2.step hal (b := 1) (by decide +kernel) (by decide +kernel)
  have h4 := h3.step hal (b := 0) (by decide +kernel) (by decide +kernel)
  have h5 := h4.run hal (by decide) (.inr ⟨0, by decide +kernel, by decide +kernel⟩)
  exact h5
theorem ex_alB : ∀ j, j < 2 → AlB (exR j) := fun j hj => by
  match j, hj with
  | 0, _ => exact ⟨by decide, ⟨by decide, by decide⟩, by decide, by decide⟩
  | 1, _ => exact ⟨by decide, ⟨by decide, by decide⟩, by decide, by decide⟩
/-- the rings of the example -/
def exG (j : Nat) : Rn := ([(⟨#[97]⟩, 5), (⟨#[97]⟩, 15), (⟨#[98]⟩, 15), (⟨#[97]⟩, 25)] : List Rn).getD j rn0
def exQ (j : Nat) : Al := ([(⟨#[97]⟩, 35, 10)] : List Al).getD j al0
/-- Run of the example -/
theorem exrun_ok {w : World} {b : Nat} (hS : SlA w (some ⟨b, 0, none⟩) 2 exR) :
    Calls Tryd.prog 19 #[pV (some ⟨b, 0, none⟩) 2 2, .int .i64 25] w fun e w' => ∃ (aL : Option Addr) (cL : Nat) (aR : Option Addr) (cR : Nat), e = .returned (.tuple #[.slice aL 4 cL, .agg #[.slice aR 1 cR], .int .i64 0]) ∧ SlG w' aL 4 exG ∧ SlA w' aR 1 exQ ∧ Below w.heap.size w w' := by
  refine (run_good hS (by decide) ex_alB ex_rnE).mono ?_
  rintro e w' ⟨aL, cL, aR, cR, L, rfl, h1, h2, h3, _, h5⟩
  obtain rfl := h3.eq ex_run
  rw [ex_rst] at h2 ⊢
  refine ⟨aL, cL, aR, cR, rfl, h1.congr fun j hj => ?_, h2, h5⟩
  have hj4 : j = 0 ∨ j = 1 ∨ j = 2 ∨ j = 3 := by simp at hj; omega
  rcases hj4 with rfl | rfl | rfl | rfl <;> rfl
set_option maxRecDepth 100000 in
set_option maxHeartbeats 3200000 in
theorem shown_ok (w : World) (hT : T9 w) : Calls Tryd.prog 5 #[] w fun e w' => e = .returned (.bool true) ∧ Below w.heap.size w w' := by
  have HS := Lib.hid (set_ok 7 5)
  rw [show setV 7 5 = 7 by decide, show setE 7 5 = 0 by decide] at HS
  have HT := Lib.hid hT
  clear hT
  go_enter Tryd.func5, Tryd.ntmps5
  go_wp2_with fail
  refine (HS.out _).mono ?_
  rintro e w1 ⟨rfl, b1⟩
  have b2 := below_box0 w1 (.cells #[.int .i64 7] 30)
  have h1 : (w1.alloc (.cells #[.int .i64 7] 30)).heap[w1.heap.size]? = some (.cells #[.int .i64 7] 30 (0, 0)) := heap_alloc_new w1 _
  have HB2 := Lib.hid (below_tr b1 b2)
  have H1 := Lib.hid h1
  clear b1 b2 h1
  go_wp2_with fail
  refine (example_ok _).mono ?_
  rintro e w3 ⟨be, rfl, hE, b3⟩
  have HB3 := Lib.hid (below_tr HB2.out b3)
  have H13 := Lib.hid ((b3.block _ (blk_lt H1.out)).trans H1.out)
  have HE := Lib.hid hE
  clear b3 hE
  go_wp2_with fail
  refine (exrun_ok HE.out).mono ?_
  rintro e w4 ⟨aL, cL, aR, cR, rfl, hL, hR, b4⟩
  have b5 := below_box0 w4 (.cells #[.slice aR 1 cR] 44)
  have h4 : (w4.alloc (.cells #[.slice aR 1 cR] 44)).heap[w4.heap.size]? = some (.cells #[.slice aR 1 cR] 44 (0, 0)) := heap_alloc_new w4 _
  have HB5 := Lib.hid (below_tr (below_tr HB3.out b4) b5)
  have H15 := Lib.hid ((b5.block _ (Nat.lt_of_lt_of_le (blk_lt H13.out) b4.size)).trans ((b4.block _ (blk_lt H13.out)).trans H13.out))
  have H45 := Lib.hid h4
  have HL5 := Lib.hid (hL.below b5)
  have HR5 := Lib.hid (hR.below b5)
  clear b4 b5 h4 hL hR
  go_wp2_with fail
  refine (span_ok _ (HT.out.below HB5.out)).mono ?_
  rintro e w6 ⟨rfl, b6⟩
  have HB6 := Lib.hid (below_tr HB5.out b6)
  have H16 := Lib.hid ((b6.block _ (blk_lt H15.out)).trans H15.out)
  have H46 := Lib.hid ((b6.block _ (blk_lt H45.out)).trans H45.out)
  have HL6 := Lib.hid (HL5.out.below b6)
  have HR6 := Lib.hid (HR5.out.below b6)
  have k1 : w6.cell? ⟨w1.heap.size, 0, none⟩ = some (.int .i64 7) := by rw [cell_of_block H16.out]; rfl
  clear b6
  go_wp2_with fail
  have b7 := below_box0 w6 (.cells #[.string ⟨#[97]⟩, .int .i64 5, .string ⟨#[97]⟩, .int .i64 15, .string ⟨#[98]⟩, .int .i64 15, .string ⟨#[97]⟩, .int .i64 25] 39)
  have hlit : SlG (w6.alloc (.cells #[.string ⟨#[97]⟩, .int .i64 5, .string ⟨#[97]⟩, .int .i64 15, .string ⟨#[98]⟩, .int .i64 15, .string ⟨#[97]⟩, .int .i64 25] 39)) (some ⟨w6.heap.size, 0, none⟩) 4 exG := by
    refine .inr ⟨_, _, rfl, fun j hj => ?_⟩
    have hj4 : j = 0 ∨ j = 1 ∨ j = 2 ∨ j = 3 := by omega
    rcases hj4 with rfl | rfl | rfl | rfl <;> refine ⟨?_, ?_⟩ <;> simp [go_sem, exG]
  have HQ := Lib.hid (ringsEq_ok (c := cL) (d := 4) (HL6.out.below b7) (by decide) hlit (by decide))
  rw [sqB_yes (fun _ _ => rfl)] at HQ
  have HB7 := Lib.hid (below_tr HB6.out b7)
  have H47 := Lib.hid ((b7.block _ (blk_lt H46.out)).trans H46.out)
  have HR7 := Lib.hid (HR6.out.below b7)
  clear b7 hlit
  refine HQ.out.mono ?_
  clear k1
  rintro e w8 ⟨rfl, b8⟩
  have HB8 := Lib.hid (below_tr HB7.out b8)
  have h48 := (b8.block _ (blk_lt H47.out)).trans H47.out
  have k4 : w8.cell? ⟨w4.heap.size, 0, none⟩ = some (.slice aR 1 cR) := by rw [cell_of_block h48]; rfl
  have HR8 := Lib.hid (HR7.out.below b8)
  clear b8 h48
  go_wp2_with fail
  have b9 := below_box0 w8 (.cells #[.string ⟨#[97]⟩, .int .i64 35, .int .i64 10] 50)
  have hlit : SlA (w8.alloc (.cells #[.string ⟨#[97]⟩, .int .i64 35, .int .i64 10] 50)) (some ⟨w8.heap.size, 0, none⟩) 1 exQ := by
    refine .inr ⟨_, _, rfl, fun j hj => ?_⟩
    obtain rfl : j = 0 := by omega
    refine ⟨?_, ?_, ?_⟩ <;> simp [go_sem, exQ]
  have HQ2 := Lib.hid (samePlan_ok (c := cR) (d := 1) (HR8.out.below b9) (by decide) hlit (by decide))
  rw [sqB_yes (fun _ _ => rfl)] at HQ2
  have HB9 := Lib.hid (below_tr HB8.out b9)
  clear b9 hlit k4
  refine HQ2.out.mono ?_
  rintro e w10 ⟨rfl, b10⟩
  have HB10 := Lib.hid (below_tr HB9.out b10)
  clear b10
  go_wp2
  go_ret
  exact ⟨rfl, HB10.out⟩
end Go.Proofs.YtmgpdaljminipaaDoor
