/- Refusals: RefusalsSteps: Start and CheckState. -/
import Derived.Test.YtpjhedkloljpjaaDoorRRR5J
import Derived.Test.YtpjhedkloljpjaaDoorRRR5O
import Derived.Test.YtpjhedkloljpjaaDoorRRR5S
import Derived.Test.YtpjhedkloljpjaaDoorRRR5T
import Derived.Test.YtpjhedkloljpjaaDoorRRR5V
namespace Go.Proofs.YtpjhedkloljpjaaDoorRR
open Go.RowKit Go.Sort Go.Joins Go.Shelf
attribute [local go_sem] cell_grow frozen_grow size_grow
theorem ssB_self (n : Nat) (R : Nat → Rl) (C H : Nat → Int) : ssB n R n R C H C H = true := by
  unfold ssB
  rw [spB_yes (fun _ _ => rfl)]
  simp [eq7B]
section
variable {a : Option Addr} {n c : Nat} {R : Nat → Rl} {C H : Nat → Int}
theorem stc15 {W : World} {B B' : Nat} {a : Option Addr} {n c : Nat} {C H : Nat → Int} (h : StC W B a n c C H) (hne : B ≠ B') (v0 v1 v2 v3 v4 v5 v6 v7 v8 v9 v10 v11 v12 v13 v14 : Value) : StC (((((((((((((((W.setCell ⟨B', 0, none⟩ v0).setCell ⟨B', 1, none⟩ v1).setCell ⟨B', 2, none⟩ v2).setCell ⟨B', 3, none⟩ v3).setCell ⟨B', 4, none⟩ v4).setCell ⟨B', 5, none⟩ v5).setCell ⟨B', 6, none⟩ v6).setCell ⟨B', 7, none⟩ v7).setCell ⟨B', 8, none⟩ v8).setCell ⟨B', 9, none⟩ v9).setCell ⟨B', 10, none⟩ v10).setCell ⟨B', 11, none⟩ v11).setCell ⟨B', 12, none⟩ v12).setCell ⟨B', 13, none⟩ v13).setCell ⟨B', 14, none⟩ v14) B a n c C H := (((((((((((((((h.other hne 0 v0).other hne 1 v1).other hne 2 v2).other hne 3 v3).other hne 4 v4).other hne 5 v5).other hne 6 v6).other hne 7 v7).other hne 8 v8).other hne 9 v9).other hne 10 v10).other hne 11 v11).other hne 12 v12).other hne 13 v13).other hne 14 v14)
theorem nxN_sub (n : Nat) (R : Nat → Rl) (C H : Nat → Int) (q : Int) : nxN n R C H q ≤ n := by unfold nxN; split <;> omega
theorem stN_le (n : Nat) (R : Nat → Rl) (h : n ≤ 9223372036854775807) : stN n R ≤ 9223372036854775807 := by unfold stN; split <;> omega
theorem nxN_le (n : Nat) (R : Nat → Rl) (C H : Nat → Int) (q : Int) (h : n ≤ 9223372036854775807) : nxN n R C H q ≤ 9223372036854775807 := by unfold nxN; split <;> omega
theorem rsO_le (n : Nat) (R : Nat → Rl) (C H : Nat → Int) (h : n ≤ 9223372036854775807) : (rsO n R C H).length ≤ 9223372036854775807 := by
  unfold rsO
  split
  · exact Nat.le_trans (rsL_len R (mdC C) n) h
  · simp
/-- the walk's continuation, written out: so that a proof may be cut there -/
theorem wp_then_mono {P : Program} {x y : Code} {K : Act → World → Prop} {Q : Exit → Act → World → Prop} {a : Act} {w : World} (hK : ∀ a w, y.wp P Q a w → K a w) (h : x.wp P (Exit.then (y.wp P Q) Q) a w) : x.wp P (Exit.then K Q) a w :=
  wp_mono h fun e a w hq => by
    cases e with
    | normal => exact hK _ _ hq
    | exit i => exact hq
    | goto i => exact hq
    | ret => exact hq
    | panic c => exact hq
    | outgrown => exact hq
/-- where the walk stands behind the checks -/
structure StpA (w w6 : World) (a : Option Addr) (n c : Nat) (R : Nat → Rl) (C H : Nat → Int) (g5 g7 : Nat) (a5 : Option Addr) (c5 : Nat) (a7 : Option Addr) (c7 : Nat) (N : Nat) : Prop where
  b : Below w.heap.size w w6
  n : StC w6 w.heap.size a n c C H
  x : StC w6 g5 a5 N c5 Z7 Z7
  y : StC w6 g7 a7 N c7 Z7 Z7
  l5 : w.heap.size < g5
  l7 : g5 < g7
set_option maxRecDepth 100000 in
set_option maxHeartbeats 6400000 in
noncomputable def stepsA (a : Option Addr) (n c : Nat) (R : Nat → Rl) (C H : Nat → Int) (q : Int) (w : World) : { G : World → Nat → Nat → Option Addr → Nat → Option Addr → Nat → Nat → Int → Int → Prop //
    (∀ w6 g5 g7 a5 c5 a7 c7 N v1 v2, StpA w w6 a n c R C H g5 g7 a5 c5 a7 c7 N → G w6 g5 g7 a5 c5 a7 c7 N v1 v2) → SlR w a n R → n ≤ 9223372036854775807 → T5 w → wideB n C = false → Calls Tryd.prog 7 #[sV a n c C H, .int .i64 q] w fun e w' => e = .returned (.bool true) ∧ Below w.heap.size w w' } := by
  apply Subtype.mk
  case property =>
    intro hG hS hn hT hw
    have HG := Lib.hid hG
    clear hG
    have b0 := below_box0 w (.cells (sA a n c C H) 38)
    have HS0 := Lib.hid (hS.below b0)
    have HT0 := Lib.hid (hT.below b0)
    have HB0 := Lib.hid b0
    have HN0 := Lib.hid (StC.new (a := a) (n := n) (c := c) (C := C) (H := H) w)
    have HW := Lib.hid (wide_ok a n c C H hn)
    rw [hw] at HW
    have hN := stN_le n R hn
    have HST : Hid (∀ (w : World), SlR w a n R → _) := Lib.hid (fun w h => Start_ok (w := w) (c := c) h hn)
    have HRST : Hid (∀ (w : World), SlR w a n R → _) := Lib.hid (fun w h => rStart_ok (w := w) (c := c) h hn)
    have HCS : Hid (∀ (w : World), SlR w a n R → _) := Lib.hid (fun w h => chkst_ok (w := w) (c := c) (C := C) (H := H) h hn)
    have HRCS : Hid (∀ (w : World), SlR w a n R → _) := Lib.hid (fun w h => rchkst_ok (w := w) (c := c) (C := C) (H := H) h hn)
    obtain ⟨N, hN0⟩ : ∃ N, stN n R = N := ⟨_, rfl⟩
    obtain ⟨v1, hv1⟩ : ∃ v, pE n R = v := ⟨_, rfl⟩
    obtain ⟨v2, hv2⟩ : ∃ v, csE n R C H = v := ⟨_, rfl⟩
    rw [hN0] at hN
    rw [hN0, hv1] at HST HRST
    rw [hv2] at HCS HRCS
    clear b0 hS hT hw hN0 hv1 hv2
    go_enter Tryd.func7, Tryd.ntmps7
    go_wp2_with fail
    refine (HW.out _).mono ?_
    rintro e w1 ⟨rfl, b1⟩
    have HB1 := Lib.hid (below_tr HB0.out b1)
    have HT1 := Lib.hid (HT0.out.below b1)
    have HS1 := Lib.hid (HS0.out.below b1)
    have HN1 := Lib.hid (HN0.out.below b1)
    have k0 := HN1.out.c0
    clear b1
    go_wp2_with fail
    refine (HST.out _ HS1.out).mono ?_
    clear k0
    rintro e w2 ⟨a5, c5, rfl, hS5, b2⟩
    have HB2 := Lib.hid (below_tr HB1.out b2)
    have HT2 := Lib.hid (HT1.out.below b2)
    have HS2 := Lib.hid (HS1.out.below b2)
    have HN2 := Lib.hid (HN1.out.below b2)
    have b3 := below_box0 w2 (.cells (sA a5 N c5 Z7 Z7) 38)
    have HB3 := Lib.hid (below_tr HB2.out b3)
    have HT3 := Lib.hid (HT2.out.below b3)
    have HS3 := Lib.hid (HS2.out.below b3)
    have HN3 := Lib.hid (HN2.out.below b3)
    have HA3 := Lib.hid (hS5.below b3)
    have HX3 := Lib.hid (StC.new (a := a5) (n := N) (c := c5) (C := Z7) (H := Z7) w2)
    have k0 := HN2.out.c0
    have hl2 : w.heap.size < w2.heap.size := HN2.out.lt
    clear b2 b3 hS5
    go_wp2_with fail
    refine (HRST.out _ HS3.out).mono ?_
    clear k0
    rintro e w4 ⟨a7, c7, rfl, hS7, b4⟩
    have HB4 := Lib.hid (below_tr HB3.out b4)
    have HT4 := Lib.hid (HT3.out.below b4)
    have HS4 := Lib.hid (HS3.out.below b4)
    have HN4 := Lib.hid (HN3.out.below b4)
    have HA4 := Lib.hid (HA3.out.below b4)
    have HX4 := Lib.hid (HX3.out.below b4)
    have b5 := below_box0 w4 (.cells (sA a7 N c7 Z7 Z7) 38)
    have HB5 := Lib.hid (below_tr HB4.out b5)
    have HT5 := Lib.hid (HT4.out.below b5)
    have HS5 := Lib.hid (HS4.out.below b5)
    have HN5 := Lib.hid (HN4.out.below b5)
    have HA5 := Lib.hid (HA4.out.below b5)
    have HX5 := Lib.hid (HX4.out.below b5)
    have HY5 := Lib.hid (StC.new (a := a7) (n := N) (c := c7) (C := Z7) (H := Z7) w4)
    have HC5 := Lib.hid (hS7.below b5)
    have h24 : w2.heap.size < w4.heap.size := HX4.out.lt
    clear b4 b5 hS7
    go_upto_region 5 with fail
    obtain ⟨V, hV⟩ : ∃ V, w4.alloc (.cells (sA a7 N c7 Z7 Z7) 38) = V := ⟨_, rfl⟩
    rw [hV] at HB5 HT5 HS5 HN5 HA5 HX5 HY5 HC5 ⊢
    obtain ⟨g5, hg5⟩ : ∃ g, w2.heap.size = g := ⟨_, rfl⟩
    obtain ⟨g7, hg7⟩ : ∃ g, w4.heap.size = g := ⟨_, rfl⟩
    rw [hg5] at HX5 hl2 h24 ⊢
    rw [hg7] at HY5 h24 ⊢
    clear hV
    have HKC : Hid (∀ w', Below V.heap.size V w' → (w'.cell? ⟨w.heap.size, 0, none⟩ = some (.slice a n c) ∧ w'.cell? ⟨w.heap.size, 1, none⟩ = some (.int .i64 (C 0)) ∧ w'.cell? ⟨w.heap.size, 2, none⟩ = some (.int .i64 (C 1)) ∧ w'.cell? ⟨w.heap.size, 3, none⟩ = some (.int .i64 (C 2)) ∧ w'.cell? ⟨w.heap.size, 4, none⟩ = some (.int .i64 (C 3)) ∧ w'.cell? ⟨w.heap.size, 5, none⟩ = some (.int .i64 (C 4)) ∧ w'.cell? ⟨w.heap.size, 6, none⟩ = some (.int .i64 (C 5)) ∧ w'.cell? ⟨w.heap.size, 7, none⟩ = some (.int .i64 (C 6)) ∧ w'.cell? ⟨w.heap.size, 8, none⟩ = some (.int .i64 (H 0)) ∧ w'.cell? ⟨w.heap.size, 9, none⟩ = some (.int .i64 (H 1)) ∧ w'.cell? ⟨w.heap.size, 10, none⟩ = some (.int .i64 (H 2)) ∧ w'.cell? ⟨w.heap.size, 11, none⟩ = some (.int .i64 (H 3)) ∧ w'.cell? ⟨w.heap.size, 12, none⟩ = some (.int .i64 (H 4)) ∧ w'.cell? ⟨w.heap.size, 13, none⟩ = some (.int .i64 (H 5)) ∧ w'.cell? ⟨w.heap.size, 14, none⟩ = some (.int .i64 (H 6))) ∧ (w'.cell? ⟨g5, 0, none⟩ = some (.slice a5 N c5) ∧ w'.cell? ⟨g5, 1, none⟩ = some (.int .i64 (Z7 0)) ∧ w'.cell? ⟨g5, 2, none⟩ = some (.int .i64 (Z7 1)) ∧ w'.cell? ⟨g5, 3, none⟩ = some (.int .i64 (Z7 2)) ∧ w'.cell? ⟨g5, 4, none⟩ = some (.int .i64 (Z7 3)) ∧ w'.cell? ⟨g5, 5, none⟩ = some (.int .i64 (Z7 4)) ∧ w'.cell? ⟨g5, 6, none⟩ = some (.int .i64 (Z7 5)) ∧ w'.cell? ⟨g5, 7, none⟩ = some (.int .i64 (Z7 6)) ∧ w'.cell? ⟨g5, 8, none⟩ = some (.int .i64 (Z7 0)) ∧ w'.cell? ⟨g5, 9, none⟩ = some (.int .i64 (Z7 1)) ∧ w'.cell? ⟨g5, 10, none⟩ = some (.int .i64 (Z7 2)) ∧ w'.cell? ⟨g5, 11, none⟩ = some (.int .i64 (Z7 3)) ∧ w'.cell? ⟨g5, 12, none⟩ = some (.int .i64 (Z7 4)) ∧ w'.cell? ⟨g5, 13, none⟩ = some (.int .i64 (Z7 5)) ∧ w'.cell? ⟨g5, 14, none⟩ = some (.int .i64 (Z7 6))) ∧ w'.cell? ⟨g7, 0, none⟩ = some (.slice a7 N c7) ∧ w'.cell? ⟨g7, 1, none⟩ = some (.int .i64 (Z7 0)) ∧ w'.cell? ⟨g7, 2, none⟩ = some (.int .i64 (Z7 1)) ∧ w'.cell? ⟨g7, 3, none⟩ = some (.int .i64 (Z7 2)) ∧ w'.cell? ⟨g7, 4, none⟩ = some (.int .i64 (Z7 3)) ∧ w'.cell? ⟨g7, 5, none⟩ = some (.int .i64 (Z7 4)) ∧ w'.cell? ⟨g7, 6, none⟩ = some (.int .i64 (Z7 5)) ∧ w'.cell? ⟨g7, 7, none⟩ = some (.int .i64 (Z7 6)) ∧ w'.cell? ⟨g7, 8, none⟩ = some (.int .i64 (Z7 0)) ∧ w'.cell? ⟨g7, 9, none⟩ = some (.int .i64 (Z7 1)) ∧ w'.cell? ⟨g7, 10, none⟩ = some (.int .i64 (Z7 2)) ∧ w'.cell? ⟨g7, 11, none⟩ = some (.int .i64 (Z7 3)) ∧ w'.cell? ⟨g7, 12, none⟩ = some (.int .i64 (Z7 4)) ∧ w'.cell? ⟨g7, 13, none⟩ = some (.int .i64 (Z7 5)) ∧ w'.cell? ⟨g7, 14, none⟩ = some (.int .i64 (Z7 6))) := Lib.hid (fun w' h => ⟨(HN5.out.below h).cells, (HX5.out.below h).cells, (HY5.out.below h).cells⟩)
    have HSS := Lib.hid (fun W' (h : Below V.heap.size V W') => sameState_ok (c := c5) (d := c7) (C := Z7) (H := Z7) (D := Z7) (J := Z7) (HA5.out.below h) hN (HC5.out.below h) hN)
    rw [ssB_self] at HSS
    have HC1 := Lib.hid (fun W' (h : Below V.heap.size V W') => HCS.out W' (HS5.out.below h))
    have HC2 := Lib.hid (fun W' (h : Below V.heap.size V W') => HRCS.out W' (HS5.out.below h))
    go_region_held3 (fun w' => Below V.heap.size V w' ∧ (w'.cell? ⟨w.heap.size, 0, none⟩ = some (.slice a n c) ∧ w'.cell? ⟨w.heap.size, 1, none⟩ = some (.int .i64 (C 0)) ∧ w'.cell? ⟨w.heap.size, 2, none⟩ = some (.int .i64 (C 1)) ∧ w'.cell? ⟨w.heap.size, 3, none⟩ = some (.int .i64 (C 2)) ∧ w'.cell? ⟨w.heap.size, 4, none⟩ = some (.int .i64 (C 3)) ∧ w'.cell? ⟨w.heap.size, 5, none⟩ = some (.int .i64 (C 4)) ∧ w'.cell? ⟨w.heap.size, 6, none⟩ = some (.int .i64 (C 5)) ∧ w'.cell? ⟨w.heap.size, 7, none⟩ = some (.int .i64 (C 6)) ∧ w'.cell? ⟨w.heap.size, 8, none⟩ = some (.int .i64 (H 0)) ∧ w'.cell? ⟨w.heap.size, 9, none⟩ = some (.int .i64 (H 1)) ∧ w'.cell? ⟨w.heap.size, 10, none⟩ = some (.int .i64 (H 2)) ∧ w'.cell? ⟨w.heap.size, 11, none⟩ = some (.int .i64 (H 3)) ∧ w'.cell? ⟨w.heap.size, 12, none⟩ = some (.int .i64 (H 4)) ∧ w'.cell? ⟨w.heap.size, 13, none⟩ = some (.int .i64 (H 5)) ∧ w'.cell? ⟨w.heap.size, 14, none⟩ = some (.int .i64 (H 6))) ∧ (w'.cell? ⟨g5, 0, none⟩ = some (.slice a5 N c5) ∧ w'.cell? ⟨g5, 1, none⟩ = some (.int .i64 (Z7 0)) ∧ w'.cell? ⟨g5, 2, none⟩ = some (.int .i64 (Z7 1)) ∧ w'.cell? ⟨g5, 3, none⟩ = some (.int .i64 (Z7 2)) ∧ w'.cell? ⟨g5, 4, none⟩ = some (.int .i64 (Z7 3)) ∧ w'.cell? ⟨g5, 5, none⟩ = some (.int .i64 (Z7 4)) ∧ w'.cell? ⟨g5, 6, none⟩ = some (.int .i64 (Z7 5)) ∧ w'.cell? ⟨g5, 7, none⟩ = some (.int .i64 (Z7 6)) ∧ w'.cell? ⟨g5, 8, none⟩ = some (.int .i64 (Z7 0)) ∧ w'.cell? ⟨g5, 9, none⟩ = some (.int .i64 (Z7 1)) ∧ w'.cell? ⟨g5, 10, none⟩ = some (.int .i64 (Z7 2)) ∧ w'.cell? ⟨g5, 11, none⟩ = some (.int .i64 (Z7 3)) ∧ w'.cell? ⟨g5, 12, none⟩ = some (.int .i64 (Z7 4)) ∧ w'.cell? ⟨g5, 13, none⟩ = some (.int .i64 (Z7 5)) ∧ w'.cell? ⟨g5, 14, none⟩ = some (.int .i64 (Z7 6))) ∧ w'.cell? ⟨g7, 0, none⟩ = some (.slice a7 N c7) ∧ w'.cell? ⟨g7, 1, none⟩ = some (.int .i64 (Z7 0)) ∧ w'.cell? ⟨g7, 2, none⟩ = some (.int .i64 (Z7 1)) ∧ w'.cell? ⟨g7, 3, none⟩ = some (.int .i64 (Z7 2)) ∧ w'.cell? ⟨g7, 4, none⟩ = some (.int .i64 (Z7 3)) ∧ w'.cell? ⟨g7, 5, none⟩ = some (.int .i64 (Z7 4)) ∧ w'.cell? ⟨g7, 6, none⟩ = some (.int .i64 (Z7 5)) ∧ w'.cell? ⟨g7, 7, none⟩ = some (.int .i64 (Z7 6)) ∧ w'.cell? ⟨g7, 8, none⟩ = some (.int .i64 (Z7 0)) ∧ w'.cell? ⟨g7, 9, none⟩ = some (.int .i64 (Z7 1)) ∧ w'.cell? ⟨g7, 10, none⟩ = some (.int .i64 (Z7 2)) ∧ w'.cell? ⟨g7, 11, none⟩ = some (.int .i64 (Z7 3)) ∧ w'.cell? ⟨g7, 12, none⟩ = some (.int .i64 (Z7 4)) ∧ w'.cell? ⟨g7, 13, none⟩ = some (.int .i64 (Z7 5)) ∧ w'.cell? ⟨g7, 14, none⟩ = some (.int .i64 (Z7 6)))
      ((refine keepN HKC ?_; first | exact (Below.refl _ _).drew | exact And.left (by assumption) | exact bel_call (by assumption) (by assumption)))
      (first
        | (go_at_call 26; (refine (HSS.out _ (And.left (by assumption))).mono ?_); rintro e w6 ⟨rfl, b6⟩; have g6 := Lib.hid (bel_call (by assumption) b6))
        | (go_at_call 22; (refine (HC1.out _ (And.left (by assumption))).mono ?_); rintro e w6 ⟨rfl, b6⟩; have g6 := Lib.hid (bel_call (by assumption) b6))
        | (go_at_call 27; (refine (HC2.out _ (And.left (by assumption))).mono ?_); rintro e w6 ⟨rfl, b6⟩; have g6 := Lib.hid (bel_call (by assumption) b6)))
    have HB6 := Lib.hid (HB5.out.trans (g6.out.mono HB5.out.size))
    have HN6 := Lib.hid (HN5.out.below g6.out)
    have HX6 := Lib.hid (HX5.out.below g6.out)
    have HY6 := Lib.hid (HY5.out.below g6.out)
    go_upto_region 7 with fail
    refine wp_then_mono (by assumption) ?_
    dsimp +zetaDelta only
    exact HG.out w6 g5 g7 a5 c5 a7 c7 N v1 v2 ⟨HB6.out, HN6.out, HX6.out, HY6.out, hl2, h24⟩
end
end Go.Proofs.YtpjhedkloljpjaaDoorRR
