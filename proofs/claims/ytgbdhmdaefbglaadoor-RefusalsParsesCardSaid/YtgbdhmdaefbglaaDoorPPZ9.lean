/- Refusals: a line of a rule, by the reference: of 4 fields, to its end. | Refusals: a line of a rule, by the reference: of 6 fields. | Refusals: a line of a rule, by the reference: of 6 fields, to its end. -/
import Derived.Test.YtgbdhmdaefbglaaDoorPPZ8
namespace Go.Proofs.YtgbdhmdaefbglaaDoor
open Go.RowKit Go.Sort Go.Joins Go.Shelf
attribute [local go_sem] cell_grow frozen_grow size_grow

set_option maxRecDepth 100000 in
set_option maxHeartbeats 12800000 in
theorem rln4T (s : ByteArray) (L : List UInt8) (w : World) (fs : List Fl) (hE : splE L = 0) (hfs : splR L = fs) (hn : fs.length = 4) (W : World) (b o c z : Nat) (S1 : ByteArray) (u38 u39 u40 u41 u42 u43 u44 u45 u46 u47 u48 u49 u50 u51 : Value)
    (hA : LnAt w W fs b o z (kkF fs) (numV (fqP fs 1))) : (rln4A s L w fs).1 W b o c z S1 u38 u39 u40 u41 u42 u43 u44 u45 u46 u47 u48 u49 u50 u51 := by
  have hO := ln_fields L
  rw [if_pos hE, hfs, ln4 hn] at hO
  have HN := Lib.hid hn
  have HZ := Lib.hid hA.lz
  have HR := Lib.hid hA.r
  have hX := hA.x
  have HB := Lib.hid hA.k
  have HC := Lib.hid hA.cs
  have HBZ := Lib.hid hA.bz
  unfold rln4A
  dsimp only
  obtain ⟨O, hOd⟩ : ∃ O, lnP L = O := ⟨_, rfl⟩
  rw [hOd] at hO ⊢
  obtain ⟨K, hK⟩ : ∃ K, kkF fs = K := ⟨_, rfl⟩
  obtain ⟨V, hV⟩ : ∃ V, numV (fqP fs 1) = V := ⟨_, rfl⟩
  obtain ⟨q, hq⟩ : ∃ q, vB (fqB fs 1) (fqP fs 1) = q := ⟨_, rfl⟩
  rw [hK, hV] at hX
  rw [hK, hV, hq] at hO ⊢
  have HX := Lib.hid hX
  have hgd := guardF
  obtain ⟨da3, S3, db3, hS3, hz3⟩ := HC.out 3 (by rw [HN.out]; decide)
  obtain ⟨da2, S2, db2, hS2, hz2⟩ := HC.out 2 (by rw [HN.out]; decide)
  have hV3 := fun W => rvalue_ok (fqB fs 3) S3 _ hS3 hz3 W
  have heq2 := eql_field (fqB fs 2) false S2 ⟨#[101, 118, 101, 114, 121]⟩
  rw [hS2, show (⟨#[101, 118, 101, 114, 121]⟩ : ByteArray).data.toList = everyL from rfl] at heq2
  obtain ⟨q2, hq2⟩ : ∃ q, isW (fqB fs 2) (fqP fs 2) everyL = q := ⟨_, rfl⟩
  have hq2b : (decide (fqB fs 2 = false) && decide (fqP fs 2 = everyL)) = q2 := hq2
  rw [hq2b] at heq2
  obtain ⟨y3, hy3⟩ : ∃ y, decide (numV (fqP fs 3) ≠ 0) = y := ⟨_, rfl⟩
  obtain ⟨V3, hVd3⟩ : ∃ V, numV (fqP fs 3) = V := ⟨_, rfl⟩
  obtain ⟨q3, hq3⟩ : ∃ q, vB (fqB fs 3) (fqP fs 3) = q := ⟨_, rfl⟩
  obtain ⟨B3, hB3⟩ : ∃ B, fqB fs 3 = B := ⟨_, rfl⟩
  obtain ⟨B2, hB2⟩ : ∃ B, fqB fs 2 = B := ⟨_, rfl⟩
  rw [hy3, hq3, hq2, hVd3] at hO
  rw [hVd3, hq3, hB3] at hV3
  rw [hB2] at heq2
  rw [hB3] at da3
  rw [hB2] at da2
  have hn3 : (V3 != 0) = y3 := by rw [← hy3, hVd3, Bool.eq_iff_iff, bne_iff_ne, decide_eq_true_eq]
  have HV3 := Lib.hid hV3
  have HCW3 := Lib.hid (show (W.cell? ⟨b, o + 4, none⟩ = some (.bool B2) ∧ W.cell? ⟨b, o + 4 + 1, none⟩ = some (.string S2)) ∧ (W.cell? ⟨b, o + 6, none⟩ = some (.bool B3) ∧ W.cell? ⟨b, o + 6 + 1, none⟩ = some (.string S3)) from ⟨⟨da2, db2⟩, ⟨da3, db3⟩⟩)
  clear da3 db3 da2 db2 hS3 hz3 hS2 hz2 hV3 hq2 hq2b hy3 hVd3 hq3 hB3 hB2
  have HO := Lib.hid hO
  clear hA hX hn hE hfs hO hOd hK hV hq HC
  have ca3 := HCW3.out.2.1
  have cb3 := HCW3.out.2.2
  go_wp2_with fail
  refine (HV3.out _).mono ?_
  rintro e w3 ⟨rfl, b3⟩
  have HX3 := Lib.hid ((b3.block _ (blk_lt HX.out)).trans HX.out)
  have HR3 := Lib.hid ((b3.block _ (blk_lt HR.out)).trans HR.out)
  have HB3 := Lib.hid (below_tr HB.out b3)
  have ca2 := cell_later b3 HCW3.out.1.1
  have cb2 := cell_later b3 HCW3.out.1.2
  clear b3 ca3 cb3
  have fz3 := unfrozen_of_block HX3.out
  have lz3 := blk_lt HX3.out
  have xc3 : w3.cell? ⟨z, 2, none⟩ = some (.int .i64 0) := by rw [cell_of_block HX3.out]; rfl
  have xd3 : w3.cell? ⟨z, 3, none⟩ = some (.int .i64 1) := by rw [cell_of_block HX3.out]; rfl
  have hw : q = false ∨ (q = true ∧ q3 = false) ∨ (q = true ∧ q3 = true ∧ q2 = false) ∨ (q = true ∧ q3 = true ∧ q2 = true) := by cases q <;> cases q3 <;> cases q2 <;> simp
  rcases hw with rfl | ⟨rfl, rfl⟩ | ⟨rfl, rfl, rfl⟩ | ⟨rfl, rfl, rfl⟩
  · go_upto_region 16 with fail
    have HXn3 := Lib.hid (show RB ((w3.setCell ⟨z, 2, none⟩ (.int .i64 V3)).setCell ⟨z, 3, none⟩ (.int .i64 0)) z K V V3 0 from (setCell_block (show (w3.setCell ⟨z, 2, none⟩ (.int .i64 V3)).heap[z]? = some (.cells #[.int .i64 K, .int .i64 V, .int .i64 V3, .int .i64 1] 45 (0, 0)) from (setCell_block HX3.out _).trans (by simp)) _).trans (by simp))
    have HRn3 := Lib.hid (show RB ((w3.setCell ⟨z, 2, none⟩ (.int .i64 V3)).setCell ⟨z, 3, none⟩ (.int .i64 0)) w.heap.size 0 0 0 0 from (Below.heap_setCell _ _ _ _ (Nat.ne_of_lt HZ.out)).trans ((Below.heap_setCell _ _ _ _ (Nat.ne_of_lt HZ.out)).trans HR3.out))
    have HBn3 := Lib.hid (show RowKit.Below w.heap.size w ((w3.setCell ⟨z, 2, none⟩ (.int .i64 V3)).setCell ⟨z, 3, none⟩ (.int .i64 0)) from (HB3.out.setCell (p := ⟨z, 2, none⟩) (Nat.le_of_lt HZ.out) _).setCell (p := ⟨z, 3, none⟩) (Nat.le_of_lt HZ.out) _)
    obtain ⟨N3, hN3⟩ : ∃ W, (w3.setCell ⟨z, 2, none⟩ (.int .i64 V3)).setCell ⟨z, 3, none⟩ (.int .i64 0) = W := ⟨_, rfl⟩
    rw [hN3] at HXn3 HRn3 HBn3 ⊢
    clear hN3 fz3 lz3 xc3 xd3 ca2 cb2
    have x0 : N3.cell? ⟨z, 0, none⟩ = some (.int .i64 K) := by rw [cell_of_block HXn3.out]; rfl
    have x1 : N3.cell? ⟨z, 1, none⟩ = some (.int .i64 V) := by rw [cell_of_block HXn3.out]; rfl
    have x2 : N3.cell? ⟨z, 2, none⟩ = some (.int .i64 V3) := by rw [cell_of_block HXn3.out]; rfl
    have x3 : N3.cell? ⟨z, 3, none⟩ = some (.int .i64 0) := by rw [cell_of_block HXn3.out]; rfl
    have r0 : N3.cell? ⟨w.heap.size, 0, none⟩ = some (.int .i64 0) := by rw [cell_of_block HRn3.out]; rfl
    have r1 : N3.cell? ⟨w.heap.size, 1, none⟩ = some (.int .i64 0) := by rw [cell_of_block HRn3.out]; rfl
    have r2 : N3.cell? ⟨w.heap.size, 2, none⟩ = some (.int .i64 0) := by rw [cell_of_block HRn3.out]; rfl
    have r3 : N3.cell? ⟨w.heap.size, 3, none⟩ = some (.int .i64 0) := by rw [cell_of_block HRn3.out]; rfl
    have rx := unfrozen_of_block HRn3.out
    have rl := blk_lt HRn3.out
    obtain ⟨z0, z1, z2, z3⟩ := put4c HRn3.out (.int .i64 K) (.int .i64 V) (.int .i64 V3) (.int .i64 0)
    go_wp2
    exact bodyPost_ret (v := .tuple #[.agg #[.int .i64 K, .int .i64 V, .int .i64 V3, .int .i64 0], .bool false]) (by simp [results, Tryd.results29, go_sem, z0, z1, z2, z3]) rfl (LinePost.of HO.out rfl _ (by simp) (below4 HBn3.out _ _ _ _))
  · go_upto_region 16 with fail
    have HXn3 := Lib.hid (show RB ((w3.setCell ⟨z, 2, none⟩ (.int .i64 V3)).setCell ⟨z, 3, none⟩ (.int .i64 0)) z K V V3 0 from (setCell_block (show (w3.setCell ⟨z, 2, none⟩ (.int .i64 V3)).heap[z]? = some (.cells #[.int .i64 K, .int .i64 V, .int .i64 V3, .int .i64 1] 45 (0, 0)) from (setCell_block HX3.out _).trans (by simp)) _).trans (by simp))
    have HRn3 := Lib.hid (show RB ((w3.setCell ⟨z, 2, none⟩ (.int .i64 V3)).setCell ⟨z, 3, none⟩ (.int .i64 0)) w.heap.size 0 0 0 0 from (Below.heap_setCell _ _ _ _ (Nat.ne_of_lt HZ.out)).trans ((Below.heap_setCell _ _ _ _ (Nat.ne_of_lt HZ.out)).trans HR3.out))
    have HBn3 := Lib.hid (show RowKit.Below w.heap.size w ((w3.setCell ⟨z, 2, none⟩ (.int .i64 V3)).setCell ⟨z, 3, none⟩ (.int .i64 0)) from (HB3.out.setCell (p := ⟨z, 2, none⟩) (Nat.le_of_lt HZ.out) _).setCell (p := ⟨z, 3, none⟩) (Nat.le_of_lt HZ.out) _)
    obtain ⟨N3, hN3⟩ : ∃ W, (w3.setCell ⟨z, 2, none⟩ (.int .i64 V3)).setCell ⟨z, 3, none⟩ (.int .i64 0) = W := ⟨_, rfl⟩
    rw [hN3] at HXn3 HRn3 HBn3 ⊢
    clear hN3 fz3 lz3 xc3 xd3 ca2 cb2
    have x0 : N3.cell? ⟨z, 0, none⟩ = some (.int .i64 K) := by rw [cell_of_block HXn3.out]; rfl
    have x1 : N3.cell? ⟨z, 1, none⟩ = some (.int .i64 V) := by rw [cell_of_block HXn3.out]; rfl
    have x2 : N3.cell? ⟨z, 2, none⟩ = some (.int .i64 V3) := by rw [cell_of_block HXn3.out]; rfl
    have x3 : N3.cell? ⟨z, 3, none⟩ = some (.int .i64 0) := by rw [cell_of_block HXn3.out]; rfl
    have r0 : N3.cell? ⟨w.heap.size, 0, none⟩ = some (.int .i64 0) := by rw [cell_of_block HRn3.out]; rfl
    have r1 : N3.cell? ⟨w.heap.size, 1, none⟩ = some (.int .i64 0) := by rw [cell_of_block HRn3.out]; rfl
    have r2 : N3.cell? ⟨w.heap.size, 2, none⟩ = some (.int .i64 0) := by rw [cell_of_block HRn3.out]; rfl
    have r3 : N3.cell? ⟨w.heap.size, 3, none⟩ = some (.int .i64 0) := by rw [cell_of_block HRn3.out]; rfl
    have rx := unfrozen_of_block HRn3.out
    have rl := blk_lt HRn3.out
    obtain ⟨z0, z1, z2, z3⟩ := put4c HRn3.out (.int .i64 K) (.int .i64 V) (.int .i64 V3) (.int .i64 0)
    go_wp2
    exact bodyPost_ret (v := .tuple #[.agg #[.int .i64 K, .int .i64 V, .int .i64 V3, .int .i64 0], .bool false]) (by simp [results, Tryd.results29, go_sem, z0, z1, z2, z3]) rfl (LinePost.of HO.out rfl _ (by simp) (below4 HBn3.out _ _ _ _))
  · go_upto_region 16 with fail
    have HXn3 := Lib.hid (show RB ((w3.setCell ⟨z, 2, none⟩ (.int .i64 V3)).setCell ⟨z, 3, none⟩ (.int .i64 0)) z K V V3 0 from (setCell_block (show (w3.setCell ⟨z, 2, none⟩ (.int .i64 V3)).heap[z]? = some (.cells #[.int .i64 K, .int .i64 V, .int .i64 V3, .int .i64 1] 45 (0, 0)) from (setCell_block HX3.out _).trans (by simp)) _).trans (by simp))
    have HRn3 := Lib.hid (show RB ((w3.setCell ⟨z, 2, none⟩ (.int .i64 V3)).setCell ⟨z, 3, none⟩ (.int .i64 0)) w.heap.size 0 0 0 0 from (Below.heap_setCell _ _ _ _ (Nat.ne_of_lt HZ.out)).trans ((Below.heap_setCell _ _ _ _ (Nat.ne_of_lt HZ.out)).trans HR3.out))
    have HBn3 := Lib.hid (show RowKit.Below w.heap.size w ((w3.setCell ⟨z, 2, none⟩ (.int .i64 V3)).setCell ⟨z, 3, none⟩ (.int .i64 0)) from (HB3.out.setCell (p := ⟨z, 2, none⟩) (Nat.le_of_lt HZ.out) _).setCell (p := ⟨z, 3, none⟩) (Nat.le_of_lt HZ.out) _)
    obtain ⟨N3, hN3⟩ : ∃ W, (w3.setCell ⟨z, 2, none⟩ (.int .i64 V3)).setCell ⟨z, 3, none⟩ (.int .i64 0) = W := ⟨_, rfl⟩
    rw [hN3] at HXn3 HRn3 HBn3 ⊢
    clear hN3 fz3 lz3 xc3 xd3 ca2 cb2
    have x0 : N3.cell? ⟨z, 0, none⟩ = some (.int .i64 K) := by rw [cell_of_block HXn3.out]; rfl
    have x1 : N3.cell? ⟨z, 1, none⟩ = some (.int .i64 V) := by rw [cell_of_block HXn3.out]; rfl
    have x2 : N3.cell? ⟨z, 2, none⟩ = some (.int .i64 V3) := by rw [cell_of_block HXn3.out]; rfl
    have x3 : N3.cell? ⟨z, 3, none⟩ = some (.int .i64 0) := by rw [cell_of_block HXn3.out]; rfl
    have r0 : N3.cell? ⟨w.heap.size, 0, none⟩ = some (.int .i64 0) := by rw [cell_of_block HRn3.out]; rfl
    have r1 : N3.cell? ⟨w.heap.size, 1, none⟩ = some (.int .i64 0) := by rw [cell_of_block HRn3.out]; rfl
    have r2 : N3.cell? ⟨w.heap.size, 2, none⟩ = some (.int .i64 0) := by rw [cell_of_block HRn3.out]; rfl
    have r3 : N3.cell? ⟨w.heap.size, 3, none⟩ = some (.int .i64 0) := by rw [cell_of_block HRn3.out]; rfl
    have rx := unfrozen_of_block HRn3.out
    have rl := blk_lt HRn3.out
    obtain ⟨z0, z1, z2, z3⟩ := put4c HRn3.out (.int .i64 K) (.int .i64 V) (.int .i64 V3) (.int .i64 0)
    go_wp2
    exact bodyPost_ret (v := .tuple #[.agg #[.int .i64 K, .int .i64 V, .int .i64 V3, .int .i64 0], .bool false]) (by simp [results, Tryd.results29, go_sem, z0, z1, z2, z3]) rfl (LinePost.of HO.out rfl _ (by simp) (below4 HBn3.out _ _ _ _))
  · go_upto_region 16 with fail
    have HXn3 := Lib.hid (show RB ((w3.setCell ⟨z, 2, none⟩ (.int .i64 V3)).setCell ⟨z, 3, none⟩ (.int .i64 0)) z K V V3 0 from (setCell_block (show (w3.setCell ⟨z, 2, none⟩ (.int .i64 V3)).heap[z]? = some (.cells #[.int .i64 K, .int .i64 V, .int .i64 V3, .int .i64 1] 45 (0, 0)) from (setCell_block HX3.out _).trans (by simp)) _).trans (by simp))
    have HRn3 := Lib.hid (show RB ((w3.setCell ⟨z, 2, none⟩ (.int .i64 V3)).setCell ⟨z, 3, none⟩ (.int .i64 0)) w.heap.size 0 0 0 0 from (Below.heap_setCell _ _ _ _ (Nat.ne_of_lt HZ.out)).trans ((Below.heap_setCell _ _ _ _ (Nat.ne_of_lt HZ.out)).trans HR3.out))
    have HBn3 := Lib.hid (show RowKit.Below w.heap.size w ((w3.setCell ⟨z, 2, none⟩ (.int .i64 V3)).setCell ⟨z, 3, none⟩ (.int .i64 0)) from (HB3.out.setCell (p := ⟨z, 2, none⟩) (Nat.le_of_lt HZ.out) _).setCell (p := ⟨z, 3, none⟩) (Nat.le_of_lt HZ.out) _)
    obtain ⟨N3, hN3⟩ : ∃ W, (w3.setCell ⟨z, 2, none⟩ (.int .i64 V3)).setCell ⟨z, 3, none⟩ (.int .i64 0) = W := ⟨_, rfl⟩
    rw [hN3] at HXn3 HRn3 HBn3 ⊢
    clear hN3 fz3 lz3 xc3 xd3 ca2 cb2
    have x0 : N3.cell? ⟨z, 0, none⟩ = some (.int .i64 K) := by rw [cell_of_block HXn3.out]; rfl
    have x1 : N3.cell? ⟨z, 1, none⟩ = some (.int .i64 V) := by rw [cell_of_block HXn3.out]; rfl
    have x2 : N3.cell? ⟨z, 2, none⟩ = some (.int .i64 V3) := by rw [cell_of_block HXn3.out]; rfl
    have x3 : N3.cell? ⟨z, 3, none⟩ = some (.int .i64 0) := by rw [cell_of_block HXn3.out]; rfl
    have r0 : N3.cell? ⟨w.heap.size, 0, none⟩ = some (.int .i64 0) := by rw [cell_of_block HRn3.out]; rfl
    have r1 : N3.cell? ⟨w.heap.size, 1, none⟩ = some (.int .i64 0) := by rw [cell_of_block HRn3.out]; rfl
    have r2 : N3.cell? ⟨w.heap.size, 2, none⟩ = some (.int .i64 0) := by rw [cell_of_block HRn3.out]; rfl
    have r3 : N3.cell? ⟨w.heap.size, 3, none⟩ = some (.int .i64 0) := by rw [cell_of_block HRn3.out]; rfl
    have rx := unfrozen_of_block HRn3.out
    have rl := blk_lt HRn3.out
    obtain ⟨z0, z1, z2, z3⟩ := put4c HRn3.out (.int .i64 K) (.int .i64 V) (.int .i64 V3) (.int .i64 0)
    cases y3
    · go_wp2
      exact bodyPost_ret (v := .tuple #[.agg #[.int .i64 K, .int .i64 V, .int .i64 V3, .int .i64 0], .bool false]) (by simp [results, Tryd.results29, go_sem, z0, z1, z2, z3]) rfl (LinePost.of HO.out rfl _ (by simp) (below4 HBn3.out _ _ _ _))
    · by_cases h0 : 0 ≤ K
      · have d0 : decide (0 ≤ K) = true := decide_eq_true h0
        go_wp2
        exact bodyPost_ret (v := .tuple #[.agg #[.int .i64 K, .int .i64 V, .int .i64 V3, .int .i64 0], .bool true]) (by simp [results, Tryd.results29, go_sem, z0, z1, z2, z3]) rfl (LinePost.of (r := true) (by have := HO.out; simpa using this) rfl _ (by rw [d0]; rfl) (below4 HBn3.out _ _ _ _))
      · have d0 : decide (0 ≤ K) = false := decide_eq_false h0
        go_wp2
        exact bodyPost_ret (v := .tuple #[.agg #[.int .i64 K, .int .i64 V, .int .i64 V3, .int .i64 0], .bool false]) (by simp [results, Tryd.results29, go_sem, z0, z1, z2, z3]) rfl (LinePost.of (r := true) (by have := HO.out; simpa using this) rfl _ (by rw [d0]; rfl) (below4 HBn3.out _ _ _ _))
end Go.Proofs.YtgbdhmdaefbglaaDoor

namespace Go.Proofs.YtgbdhmdaefbglaaDoor
open Go.RowKit Go.Sort Go.Joins Go.Shelf
attribute [local go_sem] cell_grow frozen_grow size_grow

set_option maxRecDepth 100000 in
set_option maxHeartbeats 6400000 in
noncomputable def rln6A (s : ByteArray) (L : List UInt8) (w : World) (fs : List Fl) : { G : World → Nat → Nat → Nat → Nat → ByteArray → Value → Value → Value → Value → Value → Value → Value → Value → Value → Value → Value → Value → Value → Value → Prop //
    (∀ W b o c z S1 u38 u39 u40 u41 u42 u43 u44 u45 u46 u47 u48 u49 u50 u51, LnAt w W fs b o z (kkF fs) (numV (fqP fs 1)) → G W b o c z S1 u38 u39 u40 u41 u42 u43 u44 u45 u46 u47 u48 u49 u50 u51) → s.data.toList = L → s.size ≤ 4611686018427387904 → splE L = 0 → splR L = fs → fs.length = 6 → (∀ j, j < 6 → (fqP fs j).length ≤ 9223372036854775806) →
      Calls Tryd.prog 29 #[.string s] w (LinePost w (lnP L)) } := by
  apply Subtype.mk
  case property =>
    intro hG hL hs hE hfs hn hsz
    have b0 := below_box0 w (.cells #[.int .i64 0, .int .i64 0, .int .i64 0, .int .i64 0] 45)
    have HX0 : Hid (RB (w.alloc (.cells #[.int .i64 0, .int .i64 0, .int .i64 0, .int .i64 0] 45)) w.heap.size 0 0 0 0) := Lib.hid (heap_alloc_new w _)
    have HSP := Lib.hid (rsplit_ok s L hL hs (w.alloc (.cells #[.int .i64 0, .int .i64 0, .int .i64 0, .int .i64 0] 45)))
    have HB0 := Lib.hid b0
    rw [hE, hfs] at HSP
    have HG := Lib.hid hG
    have HSZ := Lib.hid hsz
    have HFN := Lib.hid hn
    obtain ⟨B0, hB0⟩ : ∃ x, fqB fs 0 = x := ⟨_, rfl⟩
    obtain ⟨P0, hP0⟩ : ∃ x, fqP fs 0 = x := ⟨_, rfl⟩
    have hkk := fun k (hk : k < 7) => @kk_step B0 P0 k hk
    have hk0 := kk_0 B0 P0
    have hK7 : kkI B0 P0 7 = kkF fs := by unfold kkF; rw [hB0, hP0]
    obtain ⟨kk, hkd⟩ : ∃ kk, kkI B0 P0 = kk := ⟨_, rfl⟩
    rw [hkd] at hkk hk0 hK7
    have HKK := Lib.hid hkk
    have HK7 := Lib.hid hK7
    have HP0 := Lib.hid (And.intro hB0 hP0)
    clear b0 hL hE hfs hG hsz hn hkk hkd hK7 hB0 hP0
    go_enter Tryd.func29, Tryd.ntmps29
    go_wp2_with fail
    refine HSP.out.mono ?_
    rintro e w1 ⟨fa, fc, rfl, hF, b1⟩
    have HX1 : Hid (RB w1 w.heap.size 0 0 0 0) := Lib.hid ((b1.block _ (blk_lt HX0.out)).trans HX0.out)
    have HB1 := Lib.hid (below_tr HB0.out b1)
    rw [HFN.out]
    obtain ⟨b, o, rfl, hcs⟩ := hF.at_ (j := 0) (by have := HFN.out; omega)
    have HCS := Lib.hid (fun j (hj : j < fs.length) => show w1.cell? ⟨b, o + 2 * j, none⟩ = some (.bool (fqB fs j)) ∧ ∃ S : ByteArray, w1.cell? ⟨b, o + 2 * j + 1, none⟩ = some (.string S) ∧ S.data.toList = fqP fs j ∧ S.size ≤ 9223372036854775806 by
      obtain ⟨h1, S, h2, h3⟩ := hcs j hj
      exact ⟨h1, S, h2, h3, by have := HSZ.out j (by have := HFN.out; omega); have := len_of h3; unfold fqP at *; omega⟩)
    have HS1 : Hid (LnS w w1 fs b o) := Lib.hid ⟨HB1.out, HX1.out, HCS.out⟩
    clear b1 HX0 HB0 HSP hF hcs HSZ HX1 HB1
    have d2 : (((6 : Nat) : Int) != 2) = true := rfl
    have d4 : (((6 : Nat) : Int) != 4) = true := rfl
    have d6 : (((6 : Nat) : Int) != 6) = false := rfl
    go_wp2_with fail
    go_loopw [6, 7] (fun kv iv wr => ∃ k : Nat, kv = .int .i64 (kk k) ∧ iv = .int .i64 (k : Int) ∧ k ≤ 7 ∧ Hid (Below w1.heap.size w1 wr)) (fun _ iv _ => 7 - (intOf iv).toNat)
    case atStart => exact ⟨0, by rw [hk0], rfl, Nat.zero_le _, Lib.hid (Below.refl _ _)⟩
    case round =>
      obtain ⟨k, rfl, rfl, hk, HBr⟩ := hrel
      by_cases hlt : k < 7
      · obtain ⟨d0, S0, d1, hS0, _⟩ := fld_cells HCS.out HBr.out 0 (by have := HFN.out; omega)
        have hnx := HKK.out k hlt
        rw [HP0.out.1] at d0
        rw [HP0.out.2] at hS0
        have c0 : wr.cell? ⟨b, o, none⟩ = some (.bool B0) := d0
        have c1 : wr.cell? ⟨b, o + 1, none⟩ = some (.string S0) := d1
        obtain ⟨T, hT⟩ : ∃ T : ByteArray, ⟨(kname k).toArray⟩ = T := ⟨_, rfl⟩
        have hTd : T.data.toList = kname k := by rw [← hT]
        have heq := eql_field B0 false S0 T
        rw [hS0, hTd] at heq
        obtain ⟨r, hr⟩ : ∃ r, (decide (B0 = false) && decide (P0 = kname k)) = r := ⟨_, rfl⟩
        rw [hr] at heq hnx
        have hgd := guardF
        have HNM := Lib.hid (fun (W : World) (bb : Nat) (h : W.heap[bb]? = some (.cells nmRow 9 (0, 0))) => show W.cell? ⟨bb, k, none⟩ = some (.string T) by rw [← hT]; exact nm_cell h hlt)
        have HNX := Lib.hid hnx
        have lb := World.block_lt_of_cell? _ _ c0
        clear hT hTd hS0 hr hnx d0 d1
        cases r
        all_goals
          go_wp2_with fail
          go_region_with (first
            | (go_at_call 22; refine (rnames_ok _).mono ?_; rintro e w3 ⟨nb, rfl, hnb, b3⟩; have kn := HNM.out w3 nb hnb; have e0 := cell_later b3 c0; have e1 := cell_later b3 c1; have ln := blk_lt hnb; have g3 := Lib.hid (below_tr HBr.out (below_tr (below_drew wr) b3))))
          all_goals
            go_wp2_with fail
            go_roundw
            case rel => exact ⟨k + 1, by rw [HNX.out]; simp, by go_num, by omega, g3⟩
            case measure => simp [intOf]; omega
      · obtain rfl : k = 7 := by omega
        obtain ⟨d0, S1, d1, hS1, hz1⟩ := fld_cells HCS.out HBr.out 1 (by have := HFN.out; omega)
        have hV := fun W => rvalue_ok (fqB fs 1) S1 _ hS1 hz1 W
        have HBw := Lib.hid (HS1.out.k.trans (HBr.out.mono HS1.out.k.size))
        have HXw := Lib.hid ((HBr.out.block _ (blk_lt HS1.out.r)).trans HS1.out.r)
        have HCw := Lib.hid (fld_cells HCS.out HBr.out)
        have c0 : wr.cell? ⟨b, o + 2, none⟩ = some (.bool (fqB fs 1)) := d0
        have c1 : wr.cell? ⟨b, o + 2 + 1, none⟩ = some (.string S1) := d1
        obtain ⟨B1, hB1⟩ : ∃ x, fqB fs 1 = x := ⟨_, rfl⟩
        rw [hB1] at c0 hV
        obtain ⟨V, hVd⟩ : ∃ x, numV (fqP fs 1) = x := ⟨_, rfl⟩
        obtain ⟨q, hq⟩ : ∃ x, vB B1 (fqP fs 1) = x := ⟨_, rfl⟩
        rw [hVd, hq] at hV
        have HV := Lib.hid hV
        have HQ := Lib.hid (And.intro hB1 (And.intro hVd hq))
        obtain ⟨K, hKd⟩ : ∃ x, kk 7 = x := ⟨_, rfl⟩
        rw [HK7.out] at hKd
        rw [HK7.out, hKd]
        have HKd := Lib.hid hKd
        clear hV hB1 hVd hq hS1 hz1 hKd HBr HCS HKK hk0 d0 d1
        go_wp2_with fail
        refine (HV.out _).mono ?_
        rintro e w2 ⟨rfl, b2⟩
        have HB2 := Lib.hid (below_tr HBw.out b2)
        have HX2 := Lib.hid ((b2.block _ (blk_lt HXw.out)).trans HXw.out)
        have HC2 := Lib.hid (fld_cells HCw.out b2)
        clear b2 c0 c1
        go_upto_region 12 with fail
        obtain ⟨hK, hQ⟩ := And.intro HKd.out HQ.out
        obtain ⟨h1, h2, h3⟩ := hQ
        subst hK h1 h2 h3
        have HXn := Lib.hid (heap_alloc_new w2 (.cells #[.int .i64 (kkF fs), .int .i64 (numV (fqP fs 1)), .int .i64 0, .int .i64 1] 45))
        have bn := below_box0 w2 (.cells #[.int .i64 (kkF fs), .int .i64 (numV (fqP fs 1)), .int .i64 0, .int .i64 1] 45)
        have HAT : Hid (LnAt w _ fs b o w2.heap.size (kkF fs) (numV (fqP fs 1))) := Lib.hid ⟨below_tr HB2.out bn, (bn.block _ (blk_lt HX2.out)).trans HX2.out, HXn.out, Nat.lt_of_le_of_lt (Nat.le_refl _) (blk_lt HX2.out), Nat.ne_of_lt (World.block_lt_of_cell? _ _ (HC2.out 0 (by have := HFN.out; omega)).1), fld_cells HC2.out bn⟩
        obtain ⟨W, hW⟩ : ∃ W, w2.alloc (.cells #[.int .i64 (kkF fs), .int .i64 (numV (fqP fs 1)), .int .i64 0, .int .i64 1] 45) = W := ⟨_, rfl⟩
        rw [hW] at HAT ⊢
        clear hW bn HXn
        obtain ⟨z, hz⟩ : ∃ z, w2.heap.size = z := ⟨_, rfl⟩
        rw [hz] at HAT ⊢
        clear hz
        refine wp_then_mono2 (by assumption) (by assumption) ?_
        try dsimp +zetaDelta only
        exact HG.out W b o fc z S1 u38 u39 u40 u41 u42 u43 u44 u45 u46 u47 u48 u49 u50 u51 HAT.out
end Go.Proofs.YtgbdhmdaefbglaaDoor

namespace Go.Proofs.YtgbdhmdaefbglaaDoor
open Go.RowKit Go.Sort Go.Joins Go.Shelf
attribute [local go_sem] cell_grow frozen_grow size_grow

set_option maxRecDepth 100000 in
set_option maxHeartbeats 12800000 in
theorem rln6T (s : ByteArray) (L : List UInt8) (w : World) (fs : List Fl) (hE : splE L = 0) (hfs : splR L = fs) (hn : fs.length = 6) (W : World) (b o c z : Nat) (S1 : ByteArray) (u38 u39 u40 u41 u42 u43 u44 u45 u46 u47 u48 u49 u50 u51 : Value)
    (hA : LnAt w W fs b o z (kkF fs) (numV (fqP fs 1))) : (rln6A s L w fs).1 W b o c z S1 u38 u39 u40 u41 u42 u43 u44 u45 u46 u47 u48 u49 u50 u51 := by
  have hO := ln_fields L
  rw [if_pos hE, hfs, ln6 hn] at hO
  have HN := Lib.hid hn
  have HZ := Lib.hid hA.lz
  have HR := Lib.hid hA.r
  have hX := hA.x
  have HB := Lib.hid hA.k
  have HC := Lib.hid hA.cs
  have HBZ := Lib.hid hA.bz
  unfold rln6A
  dsimp only
  obtain ⟨O, hOd⟩ : ∃ O, lnP L = O := ⟨_, rfl⟩
  rw [hOd] at hO ⊢
  obtain ⟨K, hK⟩ : ∃ K, kkF fs = K := ⟨_, rfl⟩
  obtain ⟨V, hV⟩ : ∃ V, numV (fqP fs 1) = V := ⟨_, rfl⟩
  obtain ⟨q, hq⟩ : ∃ q, vB (fqB fs 1) (fqP fs 1) = q := ⟨_, rfl⟩
  rw [hK, hV] at hX
  rw [hK, hV, hq] at hO ⊢
  have HX := Lib.hid hX
  have hgd := guardF
  obtain ⟨da3, S3, db3, hS3, hz3⟩ := HC.out 3 (by rw [HN.out]; decide)
  obtain ⟨da2, S2, db2, hS2, hz2⟩ := HC.out 2 (by rw [HN.out]; decide)
  have hV3 := fun W => rvalue_ok (fqB fs 3) S3 _ hS3 hz3 W
  have heq2 := eql_field (fqB fs 2) false S2 ⟨#[101, 118, 101, 114, 121]⟩
  rw [hS2, show (⟨#[101, 118, 101, 114, 121]⟩ : ByteArray).data.toList = everyL from rfl] at heq2
  obtain ⟨q2, hq2⟩ : ∃ q, isW (fqB fs 2) (fqP fs 2) everyL = q := ⟨_, rfl⟩
  have hq2b : (decide (fqB fs 2 = false) && decide (fqP fs 2 = everyL)) = q2 := hq2
  rw [hq2b] at heq2
  obtain ⟨y3, hy3⟩ : ∃ y, decide (numV (fqP fs 3) ≠ 0) = y := ⟨_, rfl⟩
  obtain ⟨V3, hVd3⟩ : ∃ V, numV (fqP fs 3) = V := ⟨_, rfl⟩
  obtain ⟨q3, hq3⟩ : ∃ q, vB (fqB fs 3) (fqP fs 3) = q := ⟨_, rfl⟩
  obtain ⟨B3, hB3⟩ : ∃ B, fqB fs 3 = B := ⟨_, rfl⟩
  obtain ⟨B2, hB2⟩ : ∃ B, fqB fs 2 = B := ⟨_, rfl⟩
  rw [hy3, hq3, hq2, hVd3] at hO
  rw [hVd3, hq3, hB3] at hV3
  rw [hB2] at heq2
  rw [hB3] at da3
  rw [hB2] at da2
  have hn3 : (V3 != 0) = y3 := by rw [← hy3, hVd3, Bool.eq_iff_iff, bne_iff_ne, decide_eq_true_eq]
  have HV3 := Lib.hid hV3
  have HCW3 := Lib.hid (show (W.cell? ⟨b, o + 4, none⟩ = some (.bool B2) ∧ W.cell? ⟨b, o + 4 + 1, none⟩ = some (.string S2)) ∧ (W.cell? ⟨b, o + 6, none⟩ = some (.bool B3) ∧ W.cell? ⟨b, o + 6 + 1, none⟩ = some (.string S3)) from ⟨⟨da2, db2⟩, ⟨da3, db3⟩⟩)
  clear da3 db3 da2 db2 hS3 hz3 hS2 hz2 hV3 hq2 hq2b hy3 hVd3 hq3 hB3 hB2
  obtain ⟨da5, S5, db5, hS5, hz5⟩ := HC.out 5 (by rw [HN.out]; decide)
  obtain ⟨da4, S4, db4, hS4, hz4⟩ := HC.out 4 (by rw [HN.out]; decide)
  have hV5 := fun W => rvalue_ok (fqB fs 5) S5 _ hS5 hz5 W
  have heq4 := eql_field (fqB fs 4) false S4 ⟨#[116, 105, 109, 101, 115]⟩
  rw [hS4, show (⟨#[116, 105, 109, 101, 115]⟩ : ByteArray).data.toList = timesL from rfl] at heq4
  obtain ⟨q4, hq4⟩ : ∃ q, isW (fqB fs 4) (fqP fs 4) timesL = q := ⟨_, rfl⟩
  have hq4b : (decide (fqB fs 4 = false) && decide (fqP fs 4 = timesL)) = q4 := hq4
  rw [hq4b] at heq4
  obtain ⟨y5, hy5⟩ : ∃ y, decide (numV (fqP fs 5) ≠ 0) = y := ⟨_, rfl⟩
  obtain ⟨V5, hVd5⟩ : ∃ V, numV (fqP fs 5) = V := ⟨_, rfl⟩
  obtain ⟨q5, hq5⟩ : ∃ q, vB (fqB fs 5) (fqP fs 5) = q := ⟨_, rfl⟩
  obtain ⟨B5, hB5⟩ : ∃ B, fqB fs 5 = B := ⟨_, rfl⟩
  obtain ⟨B4, hB4⟩ : ∃ B, fqB fs 4 = B := ⟨_, rfl⟩
  rw [hy5, hq5, hq4, hVd5] at hO
  rw [hVd5, hq5, hB5] at hV5
  rw [hB4] at heq4
  rw [hB5] at da5
  rw [hB4] at da4
  have hn5 : (V5 != 0) = y5 := by rw [← hy5, hVd5, Bool.eq_iff_iff, bne_iff_ne, decide_eq_true_eq]
  have HV5 := Lib.hid hV5
  have HCW5 := Lib.hid (show (W.cell? ⟨b, o + 8, none⟩ = some (.bool B4) ∧ W.cell? ⟨b, o + 8 + 1, none⟩ = some (.string S4)) ∧ (W.cell? ⟨b, o + 10, none⟩ = some (.bool B5) ∧ W.cell? ⟨b, o + 10 + 1, none⟩ = some (.string S5)) from ⟨⟨da4, db4⟩, ⟨da5, db5⟩⟩)
  clear da5 db5 da4 db4 hS5 hz5 hS4 hz4 hV5 hq4 hq4b hy5 hVd5 hq5 hB5 hB4
  have HO := Lib.hid hO
  clear hA hX hn hE hfs hO hOd hK hV hq HC
  have ca3 := HCW3.out.2.1
  have cb3 := HCW3.out.2.2
  go_wp2_with fail
  refine (HV3.out _).mono ?_
  rintro e w3 ⟨rfl, b3⟩
  have HX3 := Lib.hid ((b3.block _ (blk_lt HX.out)).trans HX.out)
  have HR3 := Lib.hid ((b3.block _ (blk_lt HR.out)).trans HR.out)
  have HB3 := Lib.hid (below_tr HB.out b3)
  have ca2 := cell_later b3 HCW3.out.1.1
  have cb2 := cell_later b3 HCW3.out.1.2
  have HCW5b := Lib.hid (show (w3.cell? _ = _ ∧ w3.cell? _ = _) ∧ (w3.cell? _ = _ ∧ w3.cell? _ = _) from ⟨⟨cell_later b3 HCW5.out.1.1, cell_later b3 HCW5.out.1.2⟩, ⟨cell_later b3 HCW5.out.2.1, cell_later b3 HCW5.out.2.2⟩⟩)
  clear b3 ca3 cb3
  have fz3 := unfrozen_of_block HX3.out
  have lz3 := blk_lt HX3.out
  have xc3 : w3.cell? ⟨z, 2, none⟩ = some (.int .i64 0) := by rw [cell_of_block HX3.out]; rfl
  have xd3 : w3.cell? ⟨z, 3, none⟩ = some (.int .i64 1) := by rw [cell_of_block HX3.out]; rfl
  have hw : q = false ∨ (q = true ∧ q3 = false) ∨ (q = true ∧ q3 = true ∧ q2 = false) ∨ (q = true ∧ q3 = true ∧ q2 = true) := by cases q <;> cases q3 <;> cases q2 <;> simp
  rcases hw with rfl | ⟨rfl, rfl⟩ | ⟨rfl, rfl, rfl⟩ | ⟨rfl, rfl, rfl⟩
  · go_upto_region 16 with fail
    have HXn3 := Lib.hid (show RB ((w3.setCell ⟨z, 2, none⟩ (.int .i64 V3)).setCell ⟨z, 3, none⟩ (.int .i64 0)) z K V V3 0 from (setCell_block (show (w3.setCell ⟨z, 2, none⟩ (.int .i64 V3)).heap[z]? = some (.cells #[.int .i64 K, .int .i64 V, .int .i64 V3, .int .i64 1] 45 (0, 0)) from (setCell_block HX3.out _).trans (by simp)) _).trans (by simp))
    have HRn3 := Lib.hid (show RB ((w3.setCell ⟨z, 2, none⟩ (.int .i64 V3)).setCell ⟨z, 3, none⟩ (.int .i64 0)) w.heap.size 0 0 0 0 from (Below.heap_setCell _ _ _ _ (Nat.ne_of_lt HZ.out)).trans ((Below.heap_setCell _ _ _ _ (Nat.ne_of_lt HZ.out)).trans HR3.out))
    have HBn3 := Lib.hid (show RowKit.Below w.heap.size w ((w3.setCell ⟨z, 2, none⟩ (.int .i64 V3)).setCell ⟨z, 3, none⟩ (.int .i64 0)) from (HB3.out.setCell (p := ⟨z, 2, none⟩) (Nat.le_of_lt HZ.out) _).setCell (p := ⟨z, 3, none⟩) (Nat.le_of_lt HZ.out) _)
    have HKB := Lib.hid (show ((w3.setCell ⟨z, 2, none⟩ (.int .i64 V3)).setCell ⟨z, 3, none⟩ (.int .i64 0)).heap[b]? = w3.heap[b]? from (Below.heap_setCell _ _ _ _ HBZ.out).trans (Below.heap_setCell _ _ _ _ HBZ.out))
    obtain ⟨N3, hN3⟩ : ∃ W, (w3.setCell ⟨z, 2, none⟩ (.int .i64 V3)).setCell ⟨z, 3, none⟩ (.int .i64 0) = W := ⟨_, rfl⟩
    rw [hN3] at HXn3 HRn3 HBn3 HKB ⊢
    clear hN3 fz3 lz3 xc3 xd3 ca2 cb2
    have HCN5 : Hid ((N3.cell? ⟨b, o + 8, none⟩ = some (.bool B4) ∧ N3.cell? ⟨b, o + 8 + 1, none⟩ = some (.string S4)) ∧ (N3.cell? ⟨b, o + 10, none⟩ = some (.bool B5) ∧ N3.cell? ⟨b, o + 10 + 1, none⟩ = some (.string S5))) := Lib.hid ⟨⟨(World.cell?_of_block HKB.out).trans HCW5b.out.1.1, (World.cell?_of_block HKB.out).trans HCW5b.out.1.2⟩, ⟨(World.cell?_of_block HKB.out).trans HCW5b.out.2.1, (World.cell?_of_block HKB.out).trans HCW5b.out.2.2⟩⟩
    have ca5 := HCN5.out.2.1
    have cb5 := HCN5.out.2.2
    go_wp2_with fail
    refine (HV5.out _).mono ?_
    rintro e w5 ⟨rfl, b5⟩
    have HX5 := Lib.hid ((b5.block _ (blk_lt HXn3.out)).trans HXn3.out)
    have HR5 := Lib.hid ((b5.block _ (blk_lt HRn3.out)).trans HRn3.out)
    have HB5 := Lib.hid (below_tr HBn3.out b5)
    have ca4 := cell_later b5 HCN5.out.1.1
    have cb4 := cell_later b5 HCN5.out.1.2
    clear b5 ca5 cb5
    have fz5 := unfrozen_of_block HX5.out
    have lz5 := blk_lt HX5.out
    have xc5 : w5.cell? ⟨z, 3, none⟩ = some (.int .i64 0) := by rw [cell_of_block HX5.out]; rfl
    go_upto_region 20 with fail
    have HXn5 := Lib.hid (show RB (w5.setCell ⟨z, 3, none⟩ (.int .i64 V5)) z K V V3 V5 from (setCell_block HX5.out _).trans (by simp))
    have HRn5 := Lib.hid (show RB (w5.setCell ⟨z, 3, none⟩ (.int .i64 V5)) w.heap.size 0 0 0 0 from (Below.heap_setCell _ _ _ _ (Nat.ne_of_lt HZ.out)).trans HR5.out)
    have HBn5 := Lib.hid (show RowKit.Below w.heap.size w (w5.setCell ⟨z, 3, none⟩ (.int .i64 V5)) from HB5.out.setCell (p := ⟨z, 3, none⟩) (Nat.le_of_lt HZ.out) _)
    obtain ⟨N5, hN5⟩ : ∃ W, w5.setCell ⟨z, 3, none⟩ (.int .i64 V5) = W := ⟨_, rfl⟩
    rw [hN5] at HXn5 HRn5 HBn5 ⊢
    clear hN5 fz5 lz5 xc5 ca4 cb4
    have x0 : N5.cell? ⟨z, 0, none⟩ = some (.int .i64 K) := by rw [cell_of_block HXn5.out]; rfl
    have x1 : N5.cell? ⟨z, 1, none⟩ = some (.int .i64 V) := by rw [cell_of_block HXn5.out]; rfl
    have x2 : N5.cell? ⟨z, 2, none⟩ = some (.int .i64 V3) := by rw [cell_of_block HXn5.out]; rfl
    have x3 : N5.cell? ⟨z, 3, none⟩ = some (.int .i64 V5) := by rw [cell_of_block HXn5.out]; rfl
    have r0 : N5.cell? ⟨w.heap.size, 0, none⟩ = some (.int .i64 0) := by rw [cell_of_block HRn5.out]; rfl
    have r1 : N5.cell? ⟨w.heap.size, 1, none⟩ = some (.int .i64 0) := by rw [cell_of_block HRn5.out]; rfl
    have r2 : N5.cell? ⟨w.heap.size, 2, none⟩ = some (.int .i64 0) := by rw [cell_of_block HRn5.out]; rfl
    have r3 : N5.cell? ⟨w.heap.size, 3, none⟩ = some (.int .i64 0) := by rw [cell_of_block HRn5.out]; rfl
    have rx := unfrozen_of_block HRn5.out
    have rl := blk_lt HRn5.out
    obtain ⟨z0, z1, z2, z3⟩ := put4c HRn5.out (.int .i64 K) (.int .i64 V) (.int .i64 V3) (.int .i64 V5)
    go_wp2
    exact bodyPost_ret (v := .tuple #[.agg #[.int .i64 K, .int .i64 V, .int .i64 V3, .int .i64 V5], .bool false]) (by simp [results, Tryd.results29, go_sem, z0, z1, z2, z3]) rfl (LinePost.of HO.out rfl _ (by simp) (below4 HBn5.out _ _ _ _))
  · go_upto_region 16 with fail
    have HXn3 := Lib.hid (show RB ((w3.setCell ⟨z, 2, none⟩ (.int .i64 V3)).setCell ⟨z, 3, none⟩ (.int .i64 0)) z K V V3 0 from (setCell_block (show (w3.setCell ⟨z, 2, none⟩ (.int .i64 V3)).heap[z]? = some (.cells #[.int .i64 K, .int .i64 V, .int .i64 V3, .int .i64 1] 45 (0, 0)) from (setCell_block HX3.out _).trans (by simp)) _).trans (by simp))
    have HRn3 := Lib.hid (show RB ((w3.setCell ⟨z, 2, none⟩ (.int .i64 V3)).setCell ⟨z, 3, none⟩ (.int .i64 0)) w.heap.size 0 0 0 0 from (Below.heap_setCell _ _ _ _ (Nat.ne_of_lt HZ.out)).trans ((Below.heap_setCell _ _ _ _ (Nat.ne_of_lt HZ.out)).trans HR3.out))
    have HBn3 := Lib.hid (show RowKit.Below w.heap.size w ((w3.setCell ⟨z, 2, none⟩ (.int .i64 V3)).setCell ⟨z, 3, none⟩ (.int .i64 0)) from (HB3.out.setCell (p := ⟨z, 2, none⟩) (Nat.le_of_lt HZ.out) _).setCell (p := ⟨z, 3, none⟩) (Nat.le_of_lt HZ.out) _)
    have HKB := Lib.hid (show ((w3.setCell ⟨z, 2, none⟩ (.int .i64 V3)).setCell ⟨z, 3, none⟩ (.int .i64 0)).heap[b]? = w3.heap[b]? from (Below.heap_setCell _ _ _ _ HBZ.out).trans (Below.heap_setCell _ _ _ _ HBZ.out))
    obtain ⟨N3, hN3⟩ : ∃ W, (w3.setCell ⟨z, 2, none⟩ (.int .i64 V3)).setCell ⟨z, 3, none⟩ (.int .i64 0) = W := ⟨_, rfl⟩
    rw [hN3] at HXn3 HRn3 HBn3 HKB ⊢
    clear hN3 fz3 lz3 xc3 xd3 ca2 cb2
    have HCN5 : Hid ((N3.cell? ⟨b, o + 8, none⟩ = some (.bool B4) ∧ N3.cell? ⟨b, o + 8 + 1, none⟩ = some (.string S4)) ∧ (N3.cell? ⟨b, o + 10, none⟩ = some (.bool B5) ∧ N3.cell? ⟨b, o + 10 + 1, none⟩ = some (.string S5))) := Lib.hid ⟨⟨(World.cell?_of_block HKB.out).trans HCW5b.out.1.1, (World.cell?_of_block HKB.out).trans HCW5b.out.1.2⟩, ⟨(World.cell?_of_block HKB.out).trans HCW5b.out.2.1, (World.cell?_of_block HKB.out).trans HCW5b.out.2.2⟩⟩
    have ca5 := HCN5.out.2.1
    have cb5 := HCN5.out.2.2
    go_wp2_with fail
    refine (HV5.out _).mono ?_
    rintro e w5 ⟨rfl, b5⟩
    have HX5 := Lib.hid ((b5.block _ (blk_lt HXn3.out)).trans HXn3.out)
    have HR5 := Lib.hid ((b5.block _ (blk_lt HRn3.out)).trans HRn3.out)
    have HB5 := Lib.hid (below_tr HBn3.out b5)
    have ca4 := cell_later b5 HCN5.out.1.1
    have cb4 := cell_later b5 HCN5.out.1.2
    clear b5 ca5 cb5
    have fz5 := unfrozen_of_block HX5.out
    have lz5 := blk_lt HX5.out
    have xc5 : w5.cell? ⟨z, 3, none⟩ = some (.int .i64 0) := by rw [cell_of_block HX5.out]; rfl
    go_upto_region 20 with fail
    have HXn5 := Lib.hid (show RB (w5.setCell ⟨z, 3, none⟩ (.int .i64 V5)) z K V V3 V5 from (setCell_block HX5.out _).trans (by simp))
    have HRn5 := Lib.hid (show RB (w5.setCell ⟨z, 3, none⟩ (.int .i64 V5)) w.heap.size 0 0 0 0 from (Below.heap_setCell _ _ _ _ (Nat.ne_of_lt HZ.out)).trans HR5.out)
    have HBn5 := Lib.hid (show RowKit.Below w.heap.size w (w5.setCell ⟨z, 3, none⟩ (.int .i64 V5)) from HB5.out.setCell (p := ⟨z, 3, none⟩) (Nat.le_of_lt HZ.out) _)
    obtain ⟨N5, hN5⟩ : ∃ W, w5.setCell ⟨z, 3, none⟩ (.int .i64 V5) = W := ⟨_, rfl⟩
    rw [hN5] at HXn5 HRn5 HBn5 ⊢
    clear hN5 fz5 lz5 xc5 ca4 cb4
    have x0 : N5.cell? ⟨z, 0, none⟩ = some (.int .i64 K) := by rw [cell_of_block HXn5.out]; rfl
    have x1 : N5.cell? ⟨z, 1, none⟩ = some (.int .i64 V) := by rw [cell_of_block HXn5.out]; rfl
    have x2 : N5.cell? ⟨z, 2, none⟩ = some (.int .i64 V3) := by rw [cell_of_block HXn5.out]; rfl
    have x3 : N5.cell? ⟨z, 3, none⟩ = some (.int .i64 V5) := by rw [cell_of_block HXn5.out]; rfl
    have r0 : N5.cell? ⟨w.heap.size, 0, none⟩ = some (.int .i64 0) := by rw [cell_of_block HRn5.out]; rfl
    have r1 : N5.cell? ⟨w.heap.size, 1, none⟩ = some (.int .i64 0) := by rw [cell_of_block HRn5.out]; rfl
    have r2 : N5.cell? ⟨w.heap.size, 2, none⟩ = some (.int .i64 0) := by rw [cell_of_block HRn5.out]; rfl
    have r3 : N5.cell? ⟨w.heap.size, 3, none⟩ = some (.int .i64 0) := by rw [cell_of_block HRn5.out]; rfl
    have rx := unfrozen_of_block HRn5.out
    have rl := blk_lt HRn5.out
    obtain ⟨z0, z1, z2, z3⟩ := put4c HRn5.out (.int .i64 K) (.int .i64 V) (.int .i64 V3) (.int .i64 V5)
    go_wp2
    exact bodyPost_ret (v := .tuple #[.agg #[.int .i64 K, .int .i64 V, .int .i64 V3, .int .i64 V5], .bool false]) (by simp [results, Tryd.results29, go_sem, z0, z1, z2, z3]) rfl (LinePost.of HO.out rfl _ (by simp) (below4 HBn5.out _ _ _ _))
  · go_upto_region 16 with fail
    have HXn3 := Lib.hid (show RB ((w3.setCell ⟨z, 2, none⟩ (.int .i64 V3)).setCell ⟨z, 3, none⟩ (.int .i64 0)) z K V V3 0 from (setCell_block (show (w3.setCell ⟨z, 2, none⟩ (.int .i64 V3)).heap[z]? = some (.cells #[.int .i64 K, .int .i64 V, .int .i64 V3, .int .i64 1] 45 (0, 0)) from (setCell_block HX3.out _).trans (by simp)) _).trans (by simp))
    have HRn3 := Lib.hid (show RB ((w3.setCell ⟨z, 2, none⟩ (.int .i64 V3)).setCell ⟨z, 3, none⟩ (.int .i64 0)) w.heap.size 0 0 0 0 from (Below.heap_setCell _ _ _ _ (Nat.ne_of_lt HZ.out)).trans ((Below.heap_setCell _ _ _ _ (Nat.ne_of_lt HZ.out)).trans HR3.out))
    have HBn3 := Lib.hid (show RowKit.Below w.heap.size w ((w3.setCell ⟨z, 2, none⟩ (.int .i64 V3)).setCell ⟨z, 3, none⟩ (.int .i64 0)) from (HB3.out.setCell (p := ⟨z, 2, none⟩) (Nat.le_of_lt HZ.out) _).setCell (p := ⟨z, 3, none⟩) (Nat.le_of_lt HZ.out) _)
    have HKB := Lib.hid (show ((w3.setCell ⟨z, 2, none⟩ (.int .i64 V3)).setCell ⟨z, 3, none⟩ (.int .i64 0)).heap[b]? = w3.heap[b]? from (Below.heap_setCell _ _ _ _ HBZ.out).trans (Below.heap_setCell _ _ _ _ HBZ.out))
    obtain ⟨N3, hN3⟩ : ∃ W, (w3.setCell ⟨z, 2, none⟩ (.int .i64 V3)).setCell ⟨z, 3, none⟩ (.int .i64 0) = W := ⟨_, rfl⟩
    rw [hN3] at HXn3 HRn3 HBn3 HKB ⊢
    clear hN3 fz3 lz3 xc3 xd3 ca2 cb2
    have HCN5 : Hid ((N3.cell? ⟨b, o + 8, none⟩ = some (.bool B4) ∧ N3.cell? ⟨b, o + 8 + 1, none⟩ = some (.string S4)) ∧ (N3.cell? ⟨b, o + 10, none⟩ = some (.bool B5) ∧ N3.cell? ⟨b, o + 10 + 1, none⟩ = some (.string S5))) := Lib.hid ⟨⟨(World.cell?_of_block HKB.out).trans HCW5b.out.1.1, (World.cell?_of_block HKB.out).trans HCW5b.out.1.2⟩, ⟨(World.cell?_of_block HKB.out).trans HCW5b.out.2.1, (World.cell?_of_block HKB.out).trans HCW5b.out.2.2⟩⟩
    have ca5 := HCN5.out.2.1
    have cb5 := HCN5.out.2.2
    go_wp2_with fail
    refine (HV5.out _).mono ?_
    rintro e w5 ⟨rfl, b5⟩
    have HX5 := Lib.hid ((b5.block _ (blk_lt HXn3.out)).trans HXn3.out)
    have HR5 := Lib.hid ((b5.block _ (blk_lt HRn3.out)).trans HRn3.out)
    have HB5 := Lib.hid (below_tr HBn3.out b5)
    have ca4 := cell_later b5 HCN5.out.1.1
    have cb4 := cell_later b5 HCN5.out.1.2
    clear b5 ca5 cb5
    have fz5 := unfrozen_of_block HX5.out
    have lz5 := blk_lt HX5.out
    have xc5 : w5.cell? ⟨z, 3, none⟩ = some (.int .i64 0) := by rw [cell_of_block HX5.out]; rfl
    go_upto_region 20 with fail
    have HXn5 := Lib.hid (show RB (w5.setCell ⟨z, 3, none⟩ (.int .i64 V5)) z K V V3 V5 from (setCell_block HX5.out _).trans (by simp))
    have HRn5 := Lib.hid (show RB (w5.setCell ⟨z, 3, none⟩ (.int .i64 V5)) w.heap.size 0 0 0 0 from (Below.heap_setCell _ _ _ _ (Nat.ne_of_lt HZ.out)).trans HR5.out)
    have HBn5 := Lib.hid (show RowKit.Below w.heap.size w (w5.setCell ⟨z, 3, none⟩ (.int .i64 V5)) from HB5.out.setCell (p := ⟨z, 3, none⟩) (Nat.le_of_lt HZ.out) _)
    obtain ⟨N5, hN5⟩ : ∃ W, w5.setCell ⟨z, 3, none⟩ (.int .i64 V5) = W := ⟨_, rfl⟩
    rw [hN5] at HXn5 HRn5 HBn5 ⊢
    clear hN5 fz5 lz5 xc5 ca4 cb4
    have x0 : N5.cell? ⟨z, 0, none⟩ = some (.int .i64 K) := by rw [cell_of_block HXn5.out]; rfl
    have x1 : N5.cell? ⟨z, 1, none⟩ = some (.int .i64 V) := by rw [cell_of_block HXn5.out]; rfl
    have x2 : N5.cell? ⟨z, 2, none⟩ = some (.int .i64 V3) := by rw [cell_of_block HXn5.out]; rfl
    have x3 : N5.cell? ⟨z, 3, none⟩ = some (.int .i64 V5) := by rw [cell_of_block HXn5.out]; rfl
    have r0 : N5.cell? ⟨w.heap.size, 0, none⟩ = some (.int .i64 0) := by rw [cell_of_block HRn5.out]; rfl
    have r1 : N5.cell? ⟨w.heap.size, 1, none⟩ = some (.int .i64 0) := by rw [cell_of_block HRn5.out]; rfl
    have r2 : N5.cell? ⟨w.heap.size, 2, none⟩ = some (.int .i64 0) := by rw [cell_of_block HRn5.out]; rfl
    have r3 : N5.cell? ⟨w.heap.size, 3, none⟩ = some (.int .i64 0) := by rw [cell_of_block HRn5.out]; rfl
    have rx := unfrozen_of_block HRn5.out
    have rl := blk_lt HRn5.out
    obtain ⟨z0, z1, z2, z3⟩ := put4c HRn5.out (.int .i64 K) (.int .i64 V) (.int .i64 V3) (.int .i64 V5)
    go_wp2
    exact bodyPost_ret (v := .tuple #[.agg #[.int .i64 K, .int .i64 V, .int .i64 V3, .int .i64 V5], .bool false]) (by simp [results, Tryd.results29, go_sem, z0, z1, z2, z3]) rfl (LinePost.of HO.out rfl _ (by simp) (below4 HBn5.out _ _ _ _))
  · go_upto_region 16 with fail
    have HXn3 := Lib.hid (show RB ((w3.setCell ⟨z, 2, none⟩ (.int .i64 V3)).setCell ⟨z, 3, none⟩ (.int .i64 0)) z K V V3 0 from (setCell_block (show (w3.setCell ⟨z, 2, none⟩ (.int .i64 V3)).heap[z]? = some (.cells #[.int .i64 K, .int .i64 V, .int .i64 V3, .int .i64 1] 45 (0, 0)) from (setCell_block HX3.out _).trans (by simp)) _).trans (by simp))
    have HRn3 := Lib.hid (show RB ((w3.setCell ⟨z, 2, none⟩ (.int .i64 V3)).setCell ⟨z, 3, none⟩ (.int .i64 0)) w.heap.size 0 0 0 0 from (Below.heap_setCell _ _ _ _ (Nat.ne_of_lt HZ.out)).trans ((Below.heap_setCell _ _ _ _ (Nat.ne_of_lt HZ.out)).trans HR3.out))
    have HBn3 := Lib.hid (show RowKit.Below w.heap.size w ((w3.setCell ⟨z, 2, none⟩ (.int .i64 V3)).setCell ⟨z, 3, none⟩ (.int .i64 0)) from (HB3.out.setCell (p := ⟨z, 2, none⟩) (Nat.le_of_lt HZ.out) _).setCell (p := ⟨z, 3, none⟩) (Nat.le_of_lt HZ.out) _)
    have HKB := Lib.hid (show ((w3.setCell ⟨z, 2, none⟩ (.int .i64 V3)).setCell ⟨z, 3, none⟩ (.int .i64 0)).heap[b]? = w3.heap[b]? from (Below.heap_setCell _ _ _ _ HBZ.out).trans (Below.heap_setCell _ _ _ _ HBZ.out))
    obtain ⟨N3, hN3⟩ : ∃ W, (w3.setCell ⟨z, 2, none⟩ (.int .i64 V3)).setCell ⟨z, 3, none⟩ (.int .i64 0) = W := ⟨_, rfl⟩
    rw [hN3] at HXn3 HRn3 HBn3 HKB ⊢
    clear hN3 fz3 lz3 xc3 xd3 ca2 cb2
    have HCN5 : Hid ((N3.cell? ⟨b, o + 8, none⟩ = some (.bool B4) ∧ N3.cell? ⟨b, o + 8 + 1, none⟩ = some (.string S4)) ∧ (N3.cell? ⟨b, o + 10, none⟩ = some (.bool B5) ∧ N3.cell? ⟨b, o + 10 + 1, none⟩ = some (.string S5))) := Lib.hid ⟨⟨(World.cell?_of_block HKB.out).trans HCW5b.out.1.1, (World.cell?_of_block HKB.out).trans HCW5b.out.1.2⟩, ⟨(World.cell?_of_block HKB.out).trans HCW5b.out.2.1, (World.cell?_of_block HKB.out).trans HCW5b.out.2.2⟩⟩
    cases y3
    · have ca5 := HCN5.out.2.1
      have cb5 := HCN5.out.2.2
      go_wp2_with fail
      refine (HV5.out _).mono ?_
      rintro e w5 ⟨rfl, b5⟩
      have HX5 := Lib.hid ((b5.block _ (blk_lt HXn3.out)).trans HXn3.out)
      have HR5 := Lib.hid ((b5.block _ (blk_lt HRn3.out)).trans HRn3.out)
      have HB5 := Lib.hid (below_tr HBn3.out b5)
      have ca4 := cell_later b5 HCN5.out.1.1
      have cb4 := cell_later b5 HCN5.out.1.2
      clear b5 ca5 cb5
      have fz5 := unfrozen_of_block HX5.out
      have lz5 := blk_lt HX5.out
      have xc5 : w5.cell? ⟨z, 3, none⟩ = some (.int .i64 0) := by rw [cell_of_block HX5.out]; rfl
      go_upto_region 20 with fail
      have HXn5 := Lib.hid (show RB (w5.setCell ⟨z, 3, none⟩ (.int .i64 V5)) z K V V3 V5 from (setCell_block HX5.out _).trans (by simp))
      have HRn5 := Lib.hid (show RB (w5.setCell ⟨z, 3, none⟩ (.int .i64 V5)) w.heap.size 0 0 0 0 from (Below.heap_setCell _ _ _ _ (Nat.ne_of_lt HZ.out)).trans HR5.out)
      have HBn5 := Lib.hid (show RowKit.Below w.heap.size w (w5.setCell ⟨z, 3, none⟩ (.int .i64 V5)) from HB5.out.setCell (p := ⟨z, 3, none⟩) (Nat.le_of_lt HZ.out) _)
      obtain ⟨N5, hN5⟩ : ∃ W, w5.setCell ⟨z, 3, none⟩ (.int .i64 V5) = W := ⟨_, rfl⟩
      rw [hN5] at HXn5 HRn5 HBn5 ⊢
      clear hN5 fz5 lz5 xc5 ca4 cb4
      have x0 : N5.cell? ⟨z, 0, none⟩ = some (.int .i64 K) := by rw [cell_of_block HXn5.out]; rfl
      have x1 : N5.cell? ⟨z, 1, none⟩ = some (.int .i64 V) := by rw [cell_of_block HXn5.out]; rfl
      have x2 : N5.cell? ⟨z, 2, none⟩ = some (.int .i64 V3) := by rw [cell_of_block HXn5.out]; rfl
      have x3 : N5.cell? ⟨z, 3, none⟩ = some (.int .i64 V5) := by rw [cell_of_block HXn5.out]; rfl
      have r0 : N5.cell? ⟨w.heap.size, 0, none⟩ = some (.int .i64 0) := by rw [cell_of_block HRn5.out]; rfl
      have r1 : N5.cell? ⟨w.heap.size, 1, none⟩ = some (.int .i64 0) := by rw [cell_of_block HRn5.out]; rfl
      have r2 : N5.cell? ⟨w.heap.size, 2, none⟩ = some (.int .i64 0) := by rw [cell_of_block HRn5.out]; rfl
      have r3 : N5.cell? ⟨w.heap.size, 3, none⟩ = some (.int .i64 0) := by rw [cell_of_block HRn5.out]; rfl
      have rx := unfrozen_of_block HRn5.out
      have rl := blk_lt HRn5.out
      obtain ⟨z0, z1, z2, z3⟩ := put4c HRn5.out (.int .i64 K) (.int .i64 V) (.int .i64 V3) (.int .i64 V5)
      go_wp2
      exact bodyPost_ret (v := .tuple #[.agg #[.int .i64 K, .int .i64 V, .int .i64 V3, .int .i64 V5], .bool false]) (by simp [results, Tryd.results29, go_sem, z0, z1, z2, z3]) rfl (LinePost.of HO.out rfl _ (by simp) (below4 HBn5.out _ _ _ _))
    · have ca5 := HCN5.out.2.1
      have cb5 := HCN5.out.2.2
      go_wp2_with fail
      refine (HV5.out _).mono ?_
      rintro e w5 ⟨rfl, b5⟩
      have HX5 := Lib.hid ((b5.block _ (blk_lt HXn3.out)).trans HXn3.out)
      have HR5 := Lib.hid ((b5.block _ (blk_lt HRn3.out)).trans HRn3.out)
      have HB5 := Lib.hid (below_tr HBn3.out b5)
      have ca4 := cell_later b5 HCN5.out.1.1
      have cb4 := cell_later b5 HCN5.out.1.2
      clear b5 ca5 cb5
      have fz5 := unfrozen_of_block HX5.out
      have lz5 := blk_lt HX5.out
      have xc5 : w5.cell? ⟨z, 3, none⟩ = some (.int .i64 0) := by rw [cell_of_block HX5.out]; rfl
      have hw5 : q5 = false ∨ (q5 = true ∧ q4 = false) ∨ (q5 = true ∧ q4 = true) := by cases q5 <;> cases q4 <;> simp
      rcases hw5 with rfl | ⟨rfl, rfl⟩ | ⟨rfl, rfl⟩
      · go_upto_region 20 with fail
        have HXn5 := Lib.hid (show RB (w5.setCell ⟨z, 3, none⟩ (.int .i64 V5)) z K V V3 V5 from (setCell_block HX5.out _).trans (by simp))
        have HRn5 := Lib.hid (show RB (w5.setCell ⟨z, 3, none⟩ (.int .i64 V5)) w.heap.size 0 0 0 0 from (Below.heap_setCell _ _ _ _ (Nat.ne_of_lt HZ.out)).trans HR5.out)
        have HBn5 := Lib.hid (show RowKit.Below w.heap.size w (w5.setCell ⟨z, 3, none⟩ (.int .i64 V5)) from HB5.out.setCell (p := ⟨z, 3, none⟩) (Nat.le_of_lt HZ.out) _)
        obtain ⟨N5, hN5⟩ : ∃ W, w5.setCell ⟨z, 3, none⟩ (.int .i64 V5) = W := ⟨_, rfl⟩
        rw [hN5] at HXn5 HRn5 HBn5 ⊢
        clear hN5 fz5 lz5 xc5 ca4 cb4
        have x0 : N5.cell? ⟨z, 0, none⟩ = some (.int .i64 K) := by rw [cell_of_block HXn5.out]; rfl
        have x1 : N5.cell? ⟨z, 1, none⟩ = some (.int .i64 V) := by rw [cell_of_block HXn5.out]; rfl
        have x2 : N5.cell? ⟨z, 2, none⟩ = some (.int .i64 V3) := by rw [cell_of_block HXn5.out]; rfl
        have x3 : N5.cell? ⟨z, 3, none⟩ = some (.int .i64 V5) := by rw [cell_of_block HXn5.out]; rfl
        have r0 : N5.cell? ⟨w.heap.size, 0, none⟩ = some (.int .i64 0) := by rw [cell_of_block HRn5.out]; rfl
        have r1 : N5.cell? ⟨w.heap.size, 1, none⟩ = some (.int .i64 0) := by rw [cell_of_block HRn5.out]; rfl
        have r2 : N5.cell? ⟨w.heap.size, 2, none⟩ = some (.int .i64 0) := by rw [cell_of_block HRn5.out]; rfl
        have r3 : N5.cell? ⟨w.heap.size, 3, none⟩ = some (.int .i64 0) := by rw [cell_of_block HRn5.out]; rfl
        have rx := unfrozen_of_block HRn5.out
        have rl := blk_lt HRn5.out
        obtain ⟨z0, z1, z2, z3⟩ := put4c HRn5.out (.int .i64 K) (.int .i64 V) (.int .i64 V3) (.int .i64 V5)
        go_wp2
        exact bodyPost_ret (v := .tuple #[.agg #[.int .i64 K, .int .i64 V, .int .i64 V3, .int .i64 V5], .bool false]) (by simp [results, Tryd.results29, go_sem, z0, z1, z2, z3]) rfl (LinePost.of HO.out rfl _ (by simp) (below4 HBn5.out _ _ _ _))
      · go_upto_region 20 with fail
        have HXn5 := Lib.hid (show RB (w5.setCell ⟨z, 3, none⟩ (.int .i64 V5)) z K V V3 V5 from (setCell_block HX5.out _).trans (by simp))
        have HRn5 := Lib.hid (show RB (w5.setCell ⟨z, 3, none⟩ (.int .i64 V5)) w.heap.size 0 0 0 0 from (Below.heap_setCell _ _ _ _ (Nat.ne_of_lt HZ.out)).trans HR5.out)
        have HBn5 := Lib.hid (show RowKit.Below w.heap.size w (w5.setCell ⟨z, 3, none⟩ (.int .i64 V5)) from HB5.out.setCell (p := ⟨z, 3, none⟩) (Nat.le_of_lt HZ.out) _)
        obtain ⟨N5, hN5⟩ : ∃ W, w5.setCell ⟨z, 3, none⟩ (.int .i64 V5) = W := ⟨_, rfl⟩
        rw [hN5] at HXn5 HRn5 HBn5 ⊢
        clear hN5 fz5 lz5 xc5 ca4 cb4
        have x0 : N5.cell? ⟨z, 0, none⟩ = some (.int .i64 K) := by rw [cell_of_block HXn5.out]; rfl
        have x1 : N5.cell? ⟨z, 1, none⟩ = some (.int .i64 V) := by rw [cell_of_block HXn5.out]; rfl
        have x2 : N5.cell? ⟨z, 2, none⟩ = some (.int .i64 V3) := by rw [cell_of_block HXn5.out]; rfl
        have x3 : N5.cell? ⟨z, 3, none⟩ = some (.int .i64 V5) := by rw [cell_of_block HXn5.out]; rfl
        have r0 : N5.cell? ⟨w.heap.size, 0, none⟩ = some (.int .i64 0) := by rw [cell_of_block HRn5.out]; rfl
        have r1 : N5.cell? ⟨w.heap.size, 1, none⟩ = some (.int .i64 0) := by rw [cell_of_block HRn5.out]; rfl
        have r2 : N5.cell? ⟨w.heap.size, 2, none⟩ = some (.int .i64 0) := by rw [cell_of_block HRn5.out]; rfl
        have r3 : N5.cell? ⟨w.heap.size, 3, none⟩ = some (.int .i64 0) := by rw [cell_of_block HRn5.out]; rfl
        have rx := unfrozen_of_block HRn5.out
        have rl := blk_lt HRn5.out
        obtain ⟨z0, z1, z2, z3⟩ := put4c HRn5.out (.int .i64 K) (.int .i64 V) (.int .i64 V3) (.int .i64 V5)
        go_wp2
        exact bodyPost_ret (v := .tuple #[.agg #[.int .i64 K, .int .i64 V, .int .i64 V3, .int .i64 V5], .bool false]) (by simp [results, Tryd.results29, go_sem, z0, z1, z2, z3]) rfl (LinePost.of HO.out rfl _ (by simp) (below4 HBn5.out _ _ _ _))
      · go_upto_region 20 with fail
        have HXn5 := Lib.hid (show RB (w5.setCell ⟨z, 3, none⟩ (.int .i64 V5)) z K V V3 V5 from (setCell_block HX5.out _).trans (by simp))
        have HRn5 := Lib.hid (show RB (w5.setCell ⟨z, 3, none⟩ (.int .i64 V5)) w.heap.size 0 0 0 0 from (Below.heap_setCell _ _ _ _ (Nat.ne_of_lt HZ.out)).trans HR5.out)
        have HBn5 := Lib.hid (show RowKit.Below w.heap.size w (w5.setCell ⟨z, 3, none⟩ (.int .i64 V5)) from HB5.out.setCell (p := ⟨z, 3, none⟩) (Nat.le_of_lt HZ.out) _)
        obtain ⟨N5, hN5⟩ : ∃ W, w5.setCell ⟨z, 3, none⟩ (.int .i64 V5) = W := ⟨_, rfl⟩
        rw [hN5] at HXn5 HRn5 HBn5 ⊢
        clear hN5 fz5 lz5 xc5 ca4 cb4
        have x0 : N5.cell? ⟨z, 0, none⟩ = some (.int .i64 K) := by rw [cell_of_block HXn5.out]; rfl
        have x1 : N5.cell? ⟨z, 1, none⟩ = some (.int .i64 V) := by rw [cell_of_block HXn5.out]; rfl
        have x2 : N5.cell? ⟨z, 2, none⟩ = some (.int .i64 V3) := by rw [cell_of_block HXn5.out]; rfl
        have x3 : N5.cell? ⟨z, 3, none⟩ = some (.int .i64 V5) := by rw [cell_of_block HXn5.out]; rfl
        have r0 : N5.cell? ⟨w.heap.size, 0, none⟩ = some (.int .i64 0) := by rw [cell_of_block HRn5.out]; rfl
        have r1 : N5.cell? ⟨w.heap.size, 1, none⟩ = some (.int .i64 0) := by rw [cell_of_block HRn5.out]; rfl
        have r2 : N5.cell? ⟨w.heap.size, 2, none⟩ = some (.int .i64 0) := by rw [cell_of_block HRn5.out]; rfl
        have r3 : N5.cell? ⟨w.heap.size, 3, none⟩ = some (.int .i64 0) := by rw [cell_of_block HRn5.out]; rfl
        have rx := unfrozen_of_block HRn5.out
        have rl := blk_lt HRn5.out
        obtain ⟨z0, z1, z2, z3⟩ := put4c HRn5.out (.int .i64 K) (.int .i64 V) (.int .i64 V3) (.int .i64 V5)
        cases y5
        · go_wp2
          exact bodyPost_ret (v := .tuple #[.agg #[.int .i64 K, .int .i64 V, .int .i64 V3, .int .i64 V5], .bool false]) (by simp [results, Tryd.results29, go_sem, z0, z1, z2, z3]) rfl (LinePost.of HO.out rfl _ (by simp) (below4 HBn5.out _ _ _ _))
        · by_cases h0 : 0 ≤ K
          · have d0 : decide (0 ≤ K) = true := decide_eq_true h0
            go_wp2
            exact bodyPost_ret (v := .tuple #[.agg #[.int .i64 K, .int .i64 V, .int .i64 V3, .int .i64 V5], .bool true]) (by simp [results, Tryd.results29, go_sem, z0, z1, z2, z3]) rfl (LinePost.of (r := true) (by have := HO.out; simpa using this) rfl _ (by rw [d0]; rfl) (below4 HBn5.out _ _ _ _))
          · have d0 : decide (0 ≤ K) = false := decide_eq_false h0
            go_wp2
            exact bodyPost_ret (v := .tuple #[.agg #[.int .i64 K, .int .i64 V, .int .i64 V3, .int .i64 V5], .bool false]) (by simp [results, Tryd.results29, go_sem, z0, z1, z2, z3]) rfl (LinePost.of (r := true) (by have := HO.out; simpa using this) rfl _ (by rw [d0]; rfl) (below4 HBn5.out _ _ _ _))
end Go.Proofs.YtgbdhmdaefbglaaDoor
