/- Refusals: is a call refused: program and reference. -/
import Derived.Test.YtgbdhmdaefbglaaDoorR5B
import Derived.Deep.RegionHeld3
import Derived.Deep.DrawnRows
import Derived.Shelf.Abstract
namespace Go.Proofs.YtgbdhmdaefbglaaDoor
open Go.RowKit Go.Sort Go.Joins Go.Shelf
attribute [local go_sem] cell_grow frozen_grow size_grow
attribute [local go_sem ↓] Go.wp_at_zero Go.wp_at_succ

theorem rfP_no {n : Nat} {R : Nat → Rl} {k c : Int} (h : ∀ j, j < n → rfz (R j) k c = false) : rfP n R k c = false := by
  rw [Bool.eq_false_iff]
  intro e
  obtain ⟨i, hi, hr⟩ := rfP_iff.1 e
  rw [h i hi] at hr
  cases hr
theorem rfP_yes {n i : Nat} {R : Nat → Rl} {k c : Int} (hi : i < n) (h : rfz (R i) k c = true) : rfP n R k c = true := rfP_iff.2 ⟨i, hi, h⟩
section
variable {w : World} {a : Option Addr} {n c : Nat} {R : Nat → Rl}
theorem nxc_eqb {x : Rl} (h : RlOk x) {q m : Int} (hk : x.1 = q) (hm : 1 ≤ m) : (nxc x (m - 1) == m) = rfz x q m := by
  rw [Bool.eq_iff_iff, ← hk, ← nxc_rfz h m hm]
  simp
set_option maxRecDepth 100000 in
set_option maxHeartbeats 1600000 in
/-- the closure that asks a rule -/
theorem refcl_ok (x : Rl) (hx : RlOk x) (q m : Int) (B1 B2 : Nat) (w : World) (c1 : w.cell? ⟨B1, 0, none⟩ = some (.int .i64 q)) (c2 : w.cell? ⟨B2, 0, none⟩ = some (.int .i64 m)) (h0 : 1 ≤ m) (h1 : m ≤ 1000000) :
    Calls Tryd.prog 48 #[rV x, .pointer (some ⟨B1, 0, none⟩), .pointer (some ⟨B2, 0, none⟩)] w fun e w' => e = .returned (.bool (rfz x q m)) ∧ Below w.heap.size w w' := by
  have l1 := World.block_lt_of_cell? _ _ c1
  have l2 := World.block_lt_of_cell? _ _ c2
  dsimp only at l1 l2
  by_cases hk : x.1 = q
  · have hr := nxc_eqb hx hk h0
    have HC := Lib.hid (fun W' => next_ok x hx (m - 1) W' (by omega) (by omega))
    obtain ⟨y, hy⟩ : ∃ y, nxc x (m - 1) = y := ⟨_, rfl⟩
    rw [hy] at hr HC
    obtain ⟨r, hr'⟩ : ∃ r, rfz x q m = r := ⟨_, rfl⟩
    rw [hr'] at hr ⊢
    clear hy hr' hx
    obtain ⟨K, F, E, T⟩ := x
    dsimp only at hk
    have d1 : (K == q) = true := by simpa using hk
    have HK := Lib.hid hk
    clear hk
    have hw1 : IntKind.i64.wrap (m - 1) = m - 1 := IntWalk.i64_in _ (by omega)
    obtain ⟨W, hW⟩ : ∃ W, w.alloc (.cells #[.int .i64 K, .int .i64 F, .int .i64 E, .int .i64 T] 45) = W := ⟨_, rfl⟩
    have b0 := below_box0 w (.cells #[.int .i64 K, .int .i64 F, .int .i64 E, .int .i64 T] 45)
    rw [hW] at b0
    have e0 : W.cell? ⟨w.heap.size, 0, none⟩ = some (.int .i64 K) := by rw [← hW]; simp [go_sem]
    have e1 : W.cell? ⟨w.heap.size, 1, none⟩ = some (.int .i64 F) := by rw [← hW]; simp [go_sem]
    have e2 : W.cell? ⟨w.heap.size, 2, none⟩ = some (.int .i64 E) := by rw [← hW]; simp [go_sem]
    have e3 : W.cell? ⟨w.heap.size, 3, none⟩ = some (.int .i64 T) := by rw [← hW]; simp [go_sem]
    have e4 := (b0.cell (p := ⟨B1, 0, none⟩) l1).trans c1
    have e5 := (b0.cell (p := ⟨B2, 0, none⟩) l2).trans c2
    have HC2 : Hid (∀ w', Below W.heap.size W w' → w'.cell? ⟨w.heap.size, 0, none⟩ = some (.int .i64 K) ∧ w'.cell? ⟨w.heap.size, 1, none⟩ = some (.int .i64 F) ∧ w'.cell? ⟨w.heap.size, 2, none⟩ = some (.int .i64 E) ∧ w'.cell? ⟨w.heap.size, 3, none⟩ = some (.int .i64 T) ∧ w'.cell? ⟨B1, 0, none⟩ = some (.int .i64 q) ∧ w'.cell? ⟨B2, 0, none⟩ = some (.int .i64 m)) :=
      Lib.hid (fun w' hb => ⟨cell_later hb e0, cell_later hb e1, cell_later hb e2, cell_later hb e3, cell_later hb e4, cell_later hb e5⟩)
    have HB0 := Lib.hid b0
    clear c1 c2 b0
    go_enter Tryd.func48, Tryd.ntmps48
    go_wp2_with fail
    try rw [hW]
    have HW := Lib.hid hW
    clear hW
    go_region_held3 (fun w' => Below W.heap.size W w' ∧ w'.cell? ⟨w.heap.size, 0, none⟩ = some (.int .i64 K) ∧ w'.cell? ⟨w.heap.size, 1, none⟩ = some (.int .i64 F) ∧ w'.cell? ⟨w.heap.size, 2, none⟩ = some (.int .i64 E) ∧ w'.cell? ⟨w.heap.size, 3, none⟩ = some (.int .i64 T) ∧ w'.cell? ⟨B1, 0, none⟩ = some (.int .i64 q) ∧ w'.cell? ⟨B2, 0, none⟩ = some (.int .i64 m))
      ((refine keepN HC2 ?_; first | exact (Below.refl _ _).drew | exact And.left (by assumption) | exact bel_call (by assumption) (by assumption)))
      ((go_at_call 31; (refine (HC.out _).mono ?_); rintro e w2 ⟨rfl, b2⟩; have g2 : Below W.heap.size W w2 := bel_call (by assumption) b2))
    all_goals
      go_wp2
      go_ret
      exact ⟨rfl, HB0.out.trans (g2.mono HB0.out.size)⟩
  · have hr : rfz x q m = false := by
      rw [Bool.eq_false_iff]; exact fun e => hk (rfz_kind e)
    rw [hr]
    clear hr hx
    obtain ⟨K, F, E, T⟩ := x
    dsimp only at hk
    have d1 : (K == q) = false := by simpa using hk
    clear hk
    have HB0 := Lib.hid (below_box0 w (.cells #[.int .i64 K, .int .i64 F, .int .i64 E, .int .i64 T] 45))
    go_enter Tryd.func48, Tryd.ntmps48
    go_wp2
    go_quiet (fail)
    go_wp2
    go_ret
    exact ⟨rfl, below_tr HB0.out (below_draw _ _)⟩
end
end Go.Proofs.YtgbdhmdaefbglaaDoor
