/- Refusals: RefusalsSteps: Next, program and reference. -/
import Derived.Test.YtpjhedkloljpjaaDoorRRLawSteps
namespace Go.Proofs.YtpjhedkloljpjaaDoorRR
open Go.RowKit Go.Sort Go.Joins Go.Shelf
attribute [local go_sem] cell_grow frozen_grow size_grow
/-- where the walk stands behind Next -/
structure StpB (w V : World) (a : Option Addr) (n c : Nat) (R : Nat → Rl) (C H : Nat → Int) (g5 g7 : Nat) (aa : Option Addr) (ca : Nat) (bb : Option Addr) (cb M : Nat) (D J : Nat → Int) : Prop where
  b : Below w.heap.size w V
  o : StC V w.heap.size a n c C H
  x : StC V g5 aa M ca D J
  y : StC V g7 bb M cb D J
  l5 : w.heap.size < g5
  l7 : g5 < g7
  ra : SlR V aa M R
  rb : SlR V bb M R
  m : M ≤ n
set_option maxRecDepth 100000 in
set_option maxHeartbeats 6400000 in
noncomputable def stepsB (a : Option Addr) (n c : Nat) (R : Nat → Rl) (C H : Nat → Int) (q : Int) (w : World) (w6 : World) (g5 g7 : Nat) (a5 : Option Addr) (c5 : Nat) (a7 : Option Addr) (c7 N : Nat) (v1 v2 : Int) : { G : World → World → World → Option Addr → Nat → Option Addr → Nat → Nat → (Nat → Int) → (Nat → Int) → Bool → Int → Prop //
    (∀ w7 w9 V aa ca bb cb M D J v3 v4, StpB w V a n c R C H g5 g7 aa ca bb cb M D J → G w7 w9 V aa ca bb cb M D J v3 v4) → SlR w a n R → n ≤ 9223372036854775807 → T5 w → StpA w w6 a n c R C H g5 g7 a5 c5 a7 c7 N →
    (stepsA a n c R C H q w).1 w6 g5 g7 a5 c5 a7 c7 N v1 v2 } := by
  apply Subtype.mk
  case property =>
    intro hG hS hn hT hA
    have hM := nxN_le n R C H q hn
    have hMn := nxN_sub n R C H q
    have HS00 := Lib.hid hS
    have HT00 := Lib.hid hT
    have HNX : Hid (∀ (w : World), SlR w a n R → _) := Lib.hid (fun w h => Next_ok (w := w) (c := c) (C := C) (H := H) h hn q)
    have HRNX : Hid (∀ (w : World), SlR w a n R → _) := Lib.hid (fun w h => rNext_ok (w := w) (c := c) (C := C) (H := H) h hn q)
    obtain ⟨M, hM0⟩ : ∃ M, nxN n R C H q = M := ⟨_, rfl⟩
    obtain ⟨D, hD0⟩ : ∃ D, nxC n R C H q = D := ⟨_, rfl⟩
    obtain ⟨J, hJ0⟩ : ∃ J, nxH n R C H q = J := ⟨_, rfl⟩
    obtain ⟨v3, hv3⟩ : ∃ v, nxB n R C H q = v := ⟨_, rfl⟩
    obtain ⟨v4, hv4⟩ : ∃ v, nxE n R C H q = v := ⟨_, rfl⟩
    rw [hM0] at hM hMn
    rw [hM0, hD0, hJ0, hv3, hv4] at HNX HRNX
    have HB6 := Lib.hid hA.b
    have HT6 := Lib.hid (hT.below hA.b)
    have HS6 := Lib.hid (hS.below hA.b)
    have HN6 := Lib.hid hA.n
    have HX6 := Lib.hid hA.x
    have HY6 := Lib.hid hA.y
    have hl2 := hA.l5
    have h24 := hA.l7
    have HG := Lib.hid hG
    clear hG hS hT hA hM0 hD0 hJ0 hv3 hv4
    unfold stepsA
    dsimp only
    have h56 : g5 < w6.heap.size := HX6.out.lt
    have h76 : g7 < w6.heap.size := HY6.out.lt
    obtain ⟨s0, s1, s2, s3, s4, s5, s6, s7, s8, s9, s10, s11, s12, s13, s14⟩ := HN6.out.cells
    go_wp2_with fail
    refine (HNX.out _ HS6.out).mono ?_
    clear s0 s1 s2 s3 s4 s5 s6 s7 s8 s9 s10 s11 s12 s13 s14
    rintro e w7 ⟨aa, ca, rfl, hSa, b7, hfr⟩
    have HB7 := Lib.hid (below_tr HB6.out b7)
    have HT7 := Lib.hid (HT6.out.below b7)
    have HS7 := Lib.hid (HS6.out.below b7)
    have HN7 := Lib.hid (HN6.out.below b7)
    have HX7 := Lib.hid (HX6.out.below b7)
    have HY7 := Lib.hid (HY6.out.below b7)
    have HFA : Hid (∀ g, aa = some g → g.block ≠ g5 ∧ g.block ≠ g7) := Lib.hid (fun g e => by have := hfr g e; omega)
    have HSA := Lib.hid hSa
    obtain ⟨r0, r1, r2, r3, r4, r5, r6, r7, r8, r9, r10, r11, r12, r13, r14⟩ := HX7.out.cells
    have hf := HX7.out.fz
    clear b7 hSa hfr
    go_upto_region 8 with fail
    have HX8 := Lib.hid (HX7.out.store (a' := aa) (n' := M) (c' := ca) (D := D) (J := J))
    have HB8 := Lib.hid (below15 HB7.out (B := g5) (by omega) (.slice aa M ca) (.int .i64 (D 0)) (.int .i64 (D 1)) (.int .i64 (D 2)) (.int .i64 (D 3)) (.int .i64 (D 4)) (.int .i64 (D 5)) (.int .i64 (D 6)) (.int .i64 (J 0)) (.int .i64 (J 1)) (.int .i64 (J 2)) (.int .i64 (J 3)) (.int .i64 (J 4)) (.int .i64 (J 5)) (.int .i64 (J 6)))
    have HN8 := Lib.hid (stc15 HN7.out (by omega : w.heap.size ≠ g5) (.slice aa M ca) (.int .i64 (D 0)) (.int .i64 (D 1)) (.int .i64 (D 2)) (.int .i64 (D 3)) (.int .i64 (D 4)) (.int .i64 (D 5)) (.int .i64 (D 6)) (.int .i64 (J 0)) (.int .i64 (J 1)) (.int .i64 (J 2)) (.int .i64 (J 3)) (.int .i64 (J 4)) (.int .i64 (J 5)) (.int .i64 (J 6)))
    have HY8 := Lib.hid (stc15 HY7.out (by omega : g7 ≠ g5) (.slice aa M ca) (.int .i64 (D 0)) (.int .i64 (D 1)) (.int .i64 (D 2)) (.int .i64 (D 3)) (.int .i64 (D 4)) (.int .i64 (D 5)) (.int .i64 (D 6)) (.int .i64 (J 0)) (.int .i64 (J 1)) (.int .i64 (J 2)) (.int .i64 (J 3)) (.int .i64 (J 4)) (.int .i64 (J 5)) (.int .i64 (J 6)))
    have HA8 := Lib.hid (slr15 HSA.out (fun g e => (HFA.out g e).1) (.slice aa M ca) (.int .i64 (D 0)) (.int .i64 (D 1)) (.int .i64 (D 2)) (.int .i64 (D 3)) (.int .i64 (D 4)) (.int .i64 (D 5)) (.int .i64 (D 6)) (.int .i64 (J 0)) (.int .i64 (J 1)) (.int .i64 (J 2)) (.int .i64 (J 3)) (.int .i64 (J 4)) (.int .i64 (J 5)) (.int .i64 (J 6)))
    obtain ⟨V8, hV8⟩ : ∃ V8, (((((((((((((((w7.setCell ⟨g5, 0, none⟩ (.slice aa M ca)).setCell ⟨g5, 1, none⟩ (.int .i64 (D 0))).setCell ⟨g5, 2, none⟩ (.int .i64 (D 1))).setCell ⟨g5, 3, none⟩ (.int .i64 (D 2))).setCell ⟨g5, 4, none⟩ (.int .i64 (D 3))).setCell ⟨g5, 5, none⟩ (.int .i64 (D 4))).setCell ⟨g5, 6, none⟩ (.int .i64 (D 5))).setCell ⟨g5, 7, none⟩ (.int .i64 (D 6))).setCell ⟨g5, 8, none⟩ (.int .i64 (J 0))).setCell ⟨g5, 9, none⟩ (.int .i64 (J 1))).setCell ⟨g5, 10, none⟩ (.int .i64 (J 2))).setCell ⟨g5, 11, none⟩ (.int .i64 (J 3))).setCell ⟨g5, 12, none⟩ (.int .i64 (J 4))).setCell ⟨g5, 13, none⟩ (.int .i64 (J 5))).setCell ⟨g5, 14, none⟩ (.int .i64 (J 6))) = V8 := ⟨_, rfl⟩
    rw [hV8] at HX8 HB8 HN8 HY8 HA8 ⊢
    have HT8 := Lib.hid (HT00.out.below HB8.out)
    have HS8 := Lib.hid (HS00.out.below HB8.out)
    clear hV8 hf r0 r1 r2 r3 r4 r5 r6 r7 r8 r9 r10 r11 r12 r13 r14
    obtain ⟨s0, s1, s2, s3, s4, s5, s6, s7, s8, s9, s10, s11, s12, s13, s14⟩ := HN8.out.cells
    go_wp2_with fail
    refine (HRNX.out _ HS8.out).mono ?_
    clear s0 s1 s2 s3 s4 s5 s6 s7 s8 s9 s10 s11 s12 s13 s14
    rintro e w9 ⟨bb, cb, rfl, hSb, b9, hfr⟩
    have HB9 := Lib.hid (below_tr HB8.out b9)
    have HT9 := Lib.hid (HT8.out.below b9)
    have HS9 := Lib.hid (HS8.out.below b9)
    have HN9 := Lib.hid (HN8.out.below b9)
    have HX9 := Lib.hid (HX8.out.below b9)
    have HY9 := Lib.hid (HY8.out.below b9)
    have HA9 := Lib.hid (HA8.out.below b9)
    have hSb' : M = 0 ∨ ∀ g, bb = some g → g.block ≠ g7 := by
      by_cases hM0 : M = 0
      · exact .inl hM0
      · refine .inr fun g e => ?_
        rcases HS00.out with h0 | ⟨b, o, ha, hc⟩
        · omega
        · have hlt := World.block_lt_of_cell? _ _ (hc 0 (by omega)).1
          dsimp only at hlt
          rcases hfr with hh | hh
          · rw [hh] at e; cases e
          · rw [hh, ha] at e; cases e; dsimp only; omega
    have HSB := Lib.hid (And.intro hSb hSb')
    obtain ⟨r0, r1, r2, r3, r4, r5, r6, r7, r8, r9, r10, r11, r12, r13, r14⟩ := HY9.out.cells
    have hf := HY9.out.fz
    clear b9 hSb hSb' hfr
    go_upto_region 9 with fail
    have HY10 := Lib.hid (HY9.out.store (a' := bb) (n' := M) (c' := cb) (D := D) (J := J))
    have HB10 := Lib.hid (below15 HB9.out (B := g7) (by omega) (.slice bb M cb) (.int .i64 (D 0)) (.int .i64 (D 1)) (.int .i64 (D 2)) (.int .i64 (D 3)) (.int .i64 (D 4)) (.int .i64 (D 5)) (.int .i64 (D 6)) (.int .i64 (J 0)) (.int .i64 (J 1)) (.int .i64 (J 2)) (.int .i64 (J 3)) (.int .i64 (J 4)) (.int .i64 (J 5)) (.int .i64 (J 6)))
    have HN10 := Lib.hid (stc15 HN9.out (by omega : w.heap.size ≠ g7) (.slice bb M cb) (.int .i64 (D 0)) (.int .i64 (D 1)) (.int .i64 (D 2)) (.int .i64 (D 3)) (.int .i64 (D 4)) (.int .i64 (D 5)) (.int .i64 (D 6)) (.int .i64 (J 0)) (.int .i64 (J 1)) (.int .i64 (J 2)) (.int .i64 (J 3)) (.int .i64 (J 4)) (.int .i64 (J 5)) (.int .i64 (J 6)))
    have HX10 := Lib.hid (stc15 HX9.out (by omega : g5 ≠ g7) (.slice bb M cb) (.int .i64 (D 0)) (.int .i64 (D 1)) (.int .i64 (D 2)) (.int .i64 (D 3)) (.int .i64 (D 4)) (.int .i64 (D 5)) (.int .i64 (D 6)) (.int .i64 (J 0)) (.int .i64 (J 1)) (.int .i64 (J 2)) (.int .i64 (J 3)) (.int .i64 (J 4)) (.int .i64 (J 5)) (.int .i64 (J 6)))
    have HA10 := Lib.hid (slr15 HA9.out (fun g e => (HFA.out g e).2) (.slice bb M cb) (.int .i64 (D 0)) (.int .i64 (D 1)) (.int .i64 (D 2)) (.int .i64 (D 3)) (.int .i64 (D 4)) (.int .i64 (D 5)) (.int .i64 (D 6)) (.int .i64 (J 0)) (.int .i64 (J 1)) (.int .i64 (J 2)) (.int .i64 (J 3)) (.int .i64 (J 4)) (.int .i64 (J 5)) (.int .i64 (J 6)))
    have HC10 : Hid (SlR (((((((((((((((w9.setCell ⟨g7, 0, none⟩ (.slice bb M cb)).setCell ⟨g7, 1, none⟩ (.int .i64 (D 0))).setCell ⟨g7, 2, none⟩ (.int .i64 (D 1))).setCell ⟨g7, 3, none⟩ (.int .i64 (D 2))).setCell ⟨g7, 4, none⟩ (.int .i64 (D 3))).setCell ⟨g7, 5, none⟩ (.int .i64 (D 4))).setCell ⟨g7, 6, none⟩ (.int .i64 (D 5))).setCell ⟨g7, 7, none⟩ (.int .i64 (D 6))).setCell ⟨g7, 8, none⟩ (.int .i64 (J 0))).setCell ⟨g7, 9, none⟩ (.int .i64 (J 1))).setCell ⟨g7, 10, none⟩ (.int .i64 (J 2))).setCell ⟨g7, 11, none⟩ (.int .i64 (J 3))).setCell ⟨g7, 12, none⟩ (.int .i64 (J 4))).setCell ⟨g7, 13, none⟩ (.int .i64 (J 5))).setCell ⟨g7, 14, none⟩ (.int .i64 (J 6))) bb M R) := Lib.hid (HSB.out.2.elim (fun h => .inl h) (fun h => slr15 HSB.out.1 h (.slice bb M cb) (.int .i64 (D 0)) (.int .i64 (D 1)) (.int .i64 (D 2)) (.int .i64 (D 3)) (.int .i64 (D 4)) (.int .i64 (D 5)) (.int .i64 (D 6)) (.int .i64 (J 0)) (.int .i64 (J 1)) (.int .i64 (J 2)) (.int .i64 (J 3)) (.int .i64 (J 4)) (.int .i64 (J 5)) (.int .i64 (J 6))))
    obtain ⟨V10, hV10⟩ : ∃ V10, (((((((((((((((w9.setCell ⟨g7, 0, none⟩ (.slice bb M cb)).setCell ⟨g7, 1, none⟩ (.int .i64 (D 0))).setCell ⟨g7, 2, none⟩ (.int .i64 (D 1))).setCell ⟨g7, 3, none⟩ (.int .i64 (D 2))).setCell ⟨g7, 4, none⟩ (.int .i64 (D 3))).setCell ⟨g7, 5, none⟩ (.int .i64 (D 4))).setCell ⟨g7, 6, none⟩ (.int .i64 (D 5))).setCell ⟨g7, 7, none⟩ (.int .i64 (D 6))).setCell ⟨g7, 8, none⟩ (.int .i64 (J 0))).setCell ⟨g7, 9, none⟩ (.int .i64 (J 1))).setCell ⟨g7, 10, none⟩ (.int .i64 (J 2))).setCell ⟨g7, 11, none⟩ (.int .i64 (J 3))).setCell ⟨g7, 12, none⟩ (.int .i64 (J 4))).setCell ⟨g7, 13, none⟩ (.int .i64 (J 5))).setCell ⟨g7, 14, none⟩ (.int .i64 (J 6))) = V10 := ⟨_, rfl⟩
    rw [hV10] at HX10 HB10 HN10 HY10 HA10 HC10 ⊢
    have HT10 := Lib.hid (HT00.out.below HB10.out)
    have HS10 := Lib.hid (HS00.out.below HB10.out)
    clear hV10 hf r0 r1 r2 r3 r4 r5 r6 r7 r8 r9 r10 r11 r12 r13 r14
    refine wp_then_mono (by assumption) ?_
    try dsimp +zetaDelta only
    exact HG.out w7 w9 V10 aa ca bb cb M D J v3 v4 ⟨HB10.out, HN10.out, HX10.out, HY10.out, hl2, h24, HA10.out, HC10.out, hMn⟩
end Go.Proofs.YtpjhedkloljpjaaDoorRR
