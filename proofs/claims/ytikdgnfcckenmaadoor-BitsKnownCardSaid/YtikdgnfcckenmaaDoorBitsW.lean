/- Package bits: Fit, Best, Block, whatever they are handed. -/
import Derived.Test.YtikdgnfcckenmaaDoorRefT
namespace Go.Proofs.YtikdgnfcckenmaaDoor
open Go.RowKit Go.Sort Go.Joins
attribute [local go_sem] cell_grow frozen_grow size_grow

theorem Tab.bound {w : World} (h : Tab w) : 0 < w.heap.size := World.block_lt_of_cell? _ _ (h 0 (by decide))

set_option maxRecDepth 100000 in
set_option maxHeartbeats 1600000 in
theorem bFit_all (N m fr : Int) (a : Option Addr) (len cap : Nat) (ws : List Nat) (w : World) (hT : Tab w) (hs : SlK .u64 w a len ws) (hw : ∀ x ∈ ws, x < 18446744073709551616) (hlen : len ≤ 9223372036854775807) (hm63 : m ≤ 9223372036854775807) :
    Calls Tryd.prog 15 #[.agg #[.int .i64 N, .slice a len cap], .int .i64 m, .int .i64 fr] w fun e w' => e = .returned (.tuple #[.int .i64 (fitV N ws m fr), .int .i64 (fitE N ws m fr)]) ∧ Below w.heap.size w w' := by
  by_cases hgood : chk N ws = 0 ∧ 1 ≤ m ∧ 0 ≤ fr ∧ fr ≤ N
  · obtain ⟨hc, h1, h2, h3⟩ := hgood
    obtain ⟨hN0, hN, hl, -⟩ := chk_zero hc
    obtain ⟨n, rfl⟩ := Int.eq_ofNat_of_zero_le hN0
    obtain ⟨m, rfl⟩ := Int.eq_ofNat_of_zero_le (by omega : 0 ≤ m)
    obtain ⟨fr, rfl⟩ := Int.eq_ofNat_of_zero_le h2
    rw [← fit_good hc (by omega) (by omega)]
    exact bFit_ok n m fr a len cap ws w hT (Tab.bound hT) hs hw hc (by omega) (by omega) (by omega)
  · have hE0 : fitE N ws m fr = if chk N ws ≠ 0 then chk N ws else if m < 1 then 2 else 7 := by
      unfold fitE
      by_cases h1 : chk N ws = 0
      · have hcn : ¬ (chk N ws ≠ 0) := by simpa using h1
        rw [if_neg hcn, if_neg hcn]
        by_cases h2 : m < 1
        · rw [if_pos h2, if_pos h2]
        · rw [if_neg h2, if_neg h2, if_pos (by omega)]
      · rw [if_pos h1, if_pos h1]
    have hne : fitE N ws m fr ≠ 0 := by
      rw [hE0]
      by_cases h1 : chk N ws = 0
      · rw [if_neg (by simpa using h1)]; split <;> decide
      · rw [if_pos h1]; exact h1
    have hV : fitV N ws m fr = 0 := by unfold fitV; rw [if_neg hne]
    rw [hV, hE0]
    have HG := Lib.hid hgood
    clear hE0 hne hV hgood
    by_cases hc : chk N ws = 0
    · rw [if_neg (by simpa using hc)]
      have HC := Lib.hid hc
      clear hc
      by_cases hm : m < 1
      · rw [if_pos hm]
        have hmd : decide (m < 1) = true := by simpa using hm
        go_enter Tryd.func15, Tryd.ntmps15
        go_wp2_with fail
        refine (bCheck_ok N a len cap ws _ (hs.below ((((((Below.refl _ w).alloc (Nat.le_refl _) _).alloc (by simp) _).alloc (by simp; try omega) _).alloc (by simp; try omega) _).alloc (by simp; try omega) _)) hw hlen).mono ?_
        rintro e w1 ⟨rfl, hb⟩
        rw [HC.out]
        have k0 : w1.cell? ⟨w.heap.size, 0, none⟩ = some (.int .i64 N) := (hb.cell (p := ⟨w.heap.size, 0, none⟩) (by simp; try omega)).trans (by simp [go_sem])
        have ks : w1.cell? ⟨w.heap.size + 1, 0, none⟩ = some (.int .i64 m) := (hb.cell (p := ⟨w.heap.size + 1, 0, none⟩) (by simp; try omega)).trans (by simp [go_sem])
        have kf : w1.cell? ⟨w.heap.size + 1 + 1, 0, none⟩ = some (.int .i64 fr) := (hb.cell (p := ⟨w.heap.size + 1 + 1, 0, none⟩) (by simp; try omega)).trans (by simp [go_sem])
        have k6 : w1.cell? ⟨w.heap.size + 1 + 1 + 1, 0, none⟩ = some (.int .i64 0) := (hb.cell (p := ⟨w.heap.size + 1 + 1 + 1, 0, none⟩) (by simp; try omega)).trans (by simp [go_sem])
        have k7 : w1.cell? ⟨w.heap.size + 1 + 1 + 1 + 1, 0, none⟩ = some (.int .i64 0) := (hb.cell (p := ⟨w.heap.size + 1 + 1 + 1 + 1, 0, none⟩) (by simp; try omega)).trans (by simp [go_sem])
        have f6 : w1.frozen? ⟨w.heap.size + 1 + 1 + 1, 0, none⟩ = false := (hb.frozen (p := ⟨w.heap.size + 1 + 1 + 1, 0, none⟩) (by simp; try omega)).trans (by simp [go_sem])
        have f7 : w1.frozen? ⟨w.heap.size + 1 + 1 + 1 + 1, 0, none⟩ = false := (hb.frozen (p := ⟨w.heap.size + 1 + 1 + 1 + 1, 0, none⟩) (by simp; try omega)).trans (by simp [go_sem])
        have HB := Lib.hid (((((((Below.refl _ w).alloc (Nat.le_refl _) _).alloc (by simp) _).alloc (by simp; try omega) _).alloc (by simp; try omega) _).alloc (by simp; try omega) _).trans (hb.mono (by simp; try omega)))
        clear hb
        go_wp2
        exact bodyPost_ret (v := .tuple #[.int .i64 0, .int .i64 2]) (by simp [results, Tryd.f15, go_sem, k6, k7]) rfl ⟨rfl, (HB.out.setCell (p := ⟨w.heap.size + 1 + 1 + 1, 0, none⟩) (by dsimp only; omega) _).setCell (p := ⟨w.heap.size + 1 + 1 + 1 + 1, 0, none⟩) (by dsimp only; omega) _⟩
      · rw [if_neg hm]
        have hmd : decide (m < 1) = false := by simpa using hm
        by_cases hf : fr < 0
        · have hfd : decide (fr < 0) = true := by simpa using hf
          go_enter Tryd.func15, Tryd.ntmps15
          go_wp2_with fail
          refine (bCheck_ok N a len cap ws _ (hs.below ((((((Below.refl _ w).alloc (Nat.le_refl _) _).alloc (by simp) _).alloc (by simp; try omega) _).alloc (by simp; try omega) _).alloc (by simp; try omega) _)) hw hlen).mono ?_
          rintro e w1 ⟨rfl, hb⟩
          rw [HC.out]
          have k0 : w1.cell? ⟨w.heap.size, 0, none⟩ = some (.int .i64 N) := (hb.cell (p := ⟨w.heap.size, 0, none⟩) (by simp; try omega)).trans (by simp [go_sem])
          have ks : w1.cell? ⟨w.heap.size + 1, 0, none⟩ = some (.int .i64 m) := (hb.cell (p := ⟨w.heap.size + 1, 0, none⟩) (by simp; try omega)).trans (by simp [go_sem])
          have kf : w1.cell? ⟨w.heap.size + 1 + 1, 0, none⟩ = some (.int .i64 fr) := (hb.cell (p := ⟨w.heap.size + 1 + 1, 0, none⟩) (by simp; try omega)).trans (by simp [go_sem])
          have k6 : w1.cell? ⟨w.heap.size + 1 + 1 + 1, 0, none⟩ = some (.int .i64 0) := (hb.cell (p := ⟨w.heap.size + 1 + 1 + 1, 0, none⟩) (by simp; try omega)).trans (by simp [go_sem])
          have k7 : w1.cell? ⟨w.heap.size + 1 + 1 + 1 + 1, 0, none⟩ = some (.int .i64 0) := (hb.cell (p := ⟨w.heap.size + 1 + 1 + 1 + 1, 0, none⟩) (by simp; try omega)).trans (by simp [go_sem])
          have f6 : w1.frozen? ⟨w.heap.size + 1 + 1 + 1, 0, none⟩ = false := (hb.frozen (p := ⟨w.heap.size + 1 + 1 + 1, 0, none⟩) (by simp; try omega)).trans (by simp [go_sem])
          have f7 : w1.frozen? ⟨w.heap.size + 1 + 1 + 1 + 1, 0, none⟩ = false := (hb.frozen (p := ⟨w.heap.size + 1 + 1 + 1 + 1, 0, none⟩) (by simp; try omega)).trans (by simp [go_sem])
          have HB := Lib.hid (((((((Below.refl _ w).alloc (Nat.le_refl _) _).alloc (by simp) _).alloc (by simp; try omega) _).alloc (by simp; try omega) _).alloc (by simp; try omega) _).trans (hb.mono (by simp; try omega)))
          clear hb
          go_wp2
          exact bodyPost_ret (v := .tuple #[.int .i64 0, .int .i64 7]) (by simp [results, Tryd.f15, go_sem, k6, k7]) rfl ⟨rfl, (HB.out.setCell (p := ⟨w.heap.size + 1 + 1 + 1, 0, none⟩) (by dsimp only; omega) _).setCell (p := ⟨w.heap.size + 1 + 1 + 1 + 1, 0, none⟩) (by dsimp only; omega) _⟩
        · have hfd : decide (fr < 0) = false := by simpa using hf
          have hfn : N < fr := by have := HG.out; have := HC.out; omega
          have hfd2 : decide (N < fr) = true := by simpa using hfn
          go_enter Tryd.func15, Tryd.ntmps15
          go_wp2_with fail
          refine (bCheck_ok N a len cap ws _ (hs.below ((((((Below.refl _ w).alloc (Nat.le_refl _) _).alloc (by simp) _).alloc (by simp; try omega) _).alloc (by simp; try omega) _).alloc (by simp; try omega) _)) hw hlen).mono ?_
          rintro e w1 ⟨rfl, hb⟩
          rw [HC.out]
          have k0 : w1.cell? ⟨w.heap.size, 0, none⟩ = some (.int .i64 N) := (hb.cell (p := ⟨w.heap.size, 0, none⟩) (by simp; try omega)).trans (by simp [go_sem])
          have ks : w1.cell? ⟨w.heap.size + 1, 0, none⟩ = some (.int .i64 m) := (hb.cell (p := ⟨w.heap.size + 1, 0, none⟩) (by simp; try omega)).trans (by simp [go_sem])
          have kf : w1.cell? ⟨w.heap.size + 1 + 1, 0, none⟩ = some (.int .i64 fr) := (hb.cell (p := ⟨w.heap.size + 1 + 1, 0, none⟩) (by simp; try omega)).trans (by simp [go_sem])
          have k6 : w1.cell? ⟨w.heap.size + 1 + 1 + 1, 0, none⟩ = some (.int .i64 0) := (hb.cell (p := ⟨w.heap.size + 1 + 1 + 1, 0, none⟩) (by simp; try omega)).trans (by simp [go_sem])
          have k7 : w1.cell? ⟨w.heap.size + 1 + 1 + 1 + 1, 0, none⟩ = some (.int .i64 0) := (hb.cell (p := ⟨w.heap.size + 1 + 1 + 1 + 1, 0, none⟩) (by simp; try omega)).trans (by simp [go_sem])
          have f6 : w1.frozen? ⟨w.heap.size + 1 + 1 + 1, 0, none⟩ = false := (hb.frozen (p := ⟨w.heap.size + 1 + 1 + 1, 0, none⟩) (by simp; try omega)).trans (by simp [go_sem])
          have f7 : w1.frozen? ⟨w.heap.size + 1 + 1 + 1 + 1, 0, none⟩ = false := (hb.frozen (p := ⟨w.heap.size + 1 + 1 + 1 + 1, 0, none⟩) (by simp; try omega)).trans (by simp [go_sem])
          have HB := Lib.hid (((((((Below.refl _ w).alloc (Nat.le_refl _) _).alloc (by simp) _).alloc (by simp; try omega) _).alloc (by simp; try omega) _).alloc (by simp; try omega) _).trans (hb.mono (by simp; try omega)))
          clear hb
          go_wp2
          exact bodyPost_ret (v := .tuple #[.int .i64 0, .int .i64 7]) (by simp [results, Tryd.f15, go_sem, k6, k7]) rfl ⟨rfl, (HB.out.setCell (p := ⟨w.heap.size + 1 + 1 + 1, 0, none⟩) (by dsimp only; omega) _).setCell (p := ⟨w.heap.size + 1 + 1 + 1 + 1, 0, none⟩) (by dsimp only; omega) _⟩
    · rw [if_pos hc]
      have hcb := bne0_true hc
      clear hc
      go_enter Tryd.func15, Tryd.ntmps15
      go_wp2_with fail
      refine (bCheck_ok N a len cap ws _ (hs.below ((((((Below.refl _ w).alloc (Nat.le_refl _) _).alloc (by simp) _).alloc (by simp; try omega) _).alloc (by simp; try omega) _).alloc (by simp; try omega) _)) hw hlen).mono ?_
      rintro e w1 ⟨rfl, hb⟩
      have k0 : w1.cell? ⟨w.heap.size, 0, none⟩ = some (.int .i64 N) := (hb.cell (p := ⟨w.heap.size, 0, none⟩) (by simp; try omega)).trans (by simp [go_sem])
      have ks : w1.cell? ⟨w.heap.size + 1, 0, none⟩ = some (.int .i64 m) := (hb.cell (p := ⟨w.heap.size + 1, 0, none⟩) (by simp; try omega)).trans (by simp [go_sem])
      have kf : w1.cell? ⟨w.heap.size + 1 + 1, 0, none⟩ = some (.int .i64 fr) := (hb.cell (p := ⟨w.heap.size + 1 + 1, 0, none⟩) (by simp; try omega)).trans (by simp [go_sem])
      have k6 : w1.cell? ⟨w.heap.size + 1 + 1 + 1, 0, none⟩ = some (.int .i64 0) := (hb.cell (p := ⟨w.heap.size + 1 + 1 + 1, 0, none⟩) (by simp; try omega)).trans (by simp [go_sem])
      have k7 : w1.cell? ⟨w.heap.size + 1 + 1 + 1 + 1, 0, none⟩ = some (.int .i64 0) := (hb.cell (p := ⟨w.heap.size + 1 + 1 + 1 + 1, 0, none⟩) (by simp; try omega)).trans (by simp [go_sem])
      have f6 : w1.frozen? ⟨w.heap.size + 1 + 1 + 1, 0, none⟩ = false := (hb.frozen (p := ⟨w.heap.size + 1 + 1 + 1, 0, none⟩) (by simp; try omega)).trans (by simp [go_sem])
      have f7 : w1.frozen? ⟨w.heap.size + 1 + 1 + 1 + 1, 0, none⟩ = false := (hb.frozen (p := ⟨w.heap.size + 1 + 1 + 1 + 1, 0, none⟩) (by simp; try omega)).trans (by simp [go_sem])
      have HB := Lib.hid (((((((Below.refl _ w).alloc (Nat.le_refl _) _).alloc (by simp) _).alloc (by simp; try omega) _).alloc (by simp; try omega) _).alloc (by simp; try omega) _).trans (hb.mono (by simp; try omega)))
      clear hb
      go_wp2
      exact bodyPost_ret (v := .tuple #[.int .i64 0, .int .i64 (chk N ws)]) (by simp [results, Tryd.f15, go_sem, k6, k7]) rfl ⟨rfl, (HB.out.setCell (p := ⟨w.heap.size + 1 + 1 + 1, 0, none⟩) (by dsimp only; omega) _).setCell (p := ⟨w.heap.size + 1 + 1 + 1 + 1, 0, none⟩) (by dsimp only; omega) _⟩

set_option maxRecDepth 100000 in
set_option maxHeartbeats 1600000 in
theorem bBest_all (N m : Int) (a : Option Addr) (len cap : Nat) (ws : List Nat) (w : World) (hT : Tab w) (hs : SlK .u64 w a len ws) (hw : ∀ x ∈ ws, x < 18446744073709551616) (hlen : len ≤ 9223372036854775807) (hm63 : m ≤ 9223372036854775807) :
    Calls Tryd.prog 17 #[.agg #[.int .i64 N, .slice a len cap], .int .i64 m] w fun e w' => e = .returned (.tuple #[.int .i64 (bstV N ws m), .int .i64 (bstE N ws m)]) ∧ Below w.heap.size w w' := by
  by_cases hc : chk N ws = 0
  · obtain ⟨hN0, hN, hl, -⟩ := chk_zero hc
    obtain ⟨n, rfl⟩ := Int.eq_ofNat_of_zero_le hN0
    by_cases hm : m < 1
    · have E : Hid (bstE n ws m = 2) := Lib.hid (by unfold bstE; rw [if_neg (by simpa using hc), if_pos hm])
      have V : Hid (bstV n ws m = 0) := Lib.hid (by unfold bstV; rw [E.out]; rfl)
      have HC := Lib.hid hc
      clear hc hl
      go_enter Tryd.func17, Tryd.ntmps17
      go_wp2_with (go_at_call 36; refine (bCheck_ok n a len cap ws _ ((hs.alloc _).alloc _) hw hlen).mono ?_; rintro e w1 ⟨rfl, hb⟩; rw [HC.out]; obtain ⟨⟨d1, os1⟩, rfl⟩ := regrown_of_below hb; clear hb)
      go_ret2
      exact ⟨ret_two V.out.symm E.out.symm, (below_alloc2 w _ _).trans ((below_grow _ _ _).mono (by simp; try omega))⟩
    · obtain ⟨m, rfl⟩ := Int.eq_ofNat_of_zero_le (by omega : 0 ≤ m)
      rw [← bst_good hc (by omega)]
      exact bBest_ok n m a len cap ws w hT (Tab.bound hT) hs hw hc (by omega) (by omega)
  · have hcb := bne0_true hc
    have E : Hid (bstE N ws m = chk N ws) := Lib.hid (by unfold bstE; rw [if_pos hc])
    have V : Hid (bstV N ws m = 0) := Lib.hid (by unfold bstV; rw [E.out, if_neg hc])
    clear hc
    go_enter Tryd.func17, Tryd.ntmps17
    go_wp2_with (go_at_call 36; refine (bCheck_ok N a len cap ws _ ((hs.alloc _).alloc _) hw hlen).mono ?_; rintro e w1 ⟨rfl, hb⟩; obtain ⟨⟨d1, os1⟩, rfl⟩ := regrown_of_below hb; clear hb)
    go_ret2
    exact ⟨ret_two V.out.symm E.out.symm, (below_alloc2 w _ _).trans ((below_grow _ _ _).mono (by simp; try omega))⟩

set_option maxRecDepth 100000 in
set_option maxHeartbeats 1600000 in
theorem bBlock_all (N k : Int) (a : Option Addr) (len cap : Nat) (ws : List Nat) (w : World) (hT : Tab w) (hs : SlK .u64 w a len ws) (hw : ∀ x ∈ ws, x < 18446744073709551616) (hlen : len ≤ 9223372036854775807) :
    Calls Tryd.prog 19 #[.agg #[.int .i64 N, .slice a len cap], .int .i64 k] w fun e w' => e = .returned (.tuple #[.int .i64 (blkV N ws k), .int .i64 (blkE N ws k)]) ∧ Below w.heap.size w w' := by
  by_cases hc : chk N ws = 0
  · obtain ⟨hN0, hN, hl, -⟩ := chk_zero hc
    obtain ⟨n, rfl⟩ := Int.eq_ofNat_of_zero_le hN0
    by_cases hk : k < 0 ∨ 12 < k
    · have E : Hid (blkE n ws k = 7) := Lib.hid (by unfold blkE; rw [if_neg (by simpa using hc), if_pos hk])
      have V : Hid (blkV n ws k = 0) := Lib.hid (by unfold blkV; rw [E.out]; rfl)
      have HC := Lib.hid hc
      clear hc hl
      by_cases h0 : k < 0
      all_goals
        have h1 : ¬ k < 0 → 12 < k := fun h => by omega
        first | (have h2 := h1 h0; clear h1 hk) | (clear h1 hk)
        go_enter Tryd.func19, Tryd.ntmps19
        go_wp2
        refine wp_scope_straight ?_
        go_wp2_with fail
        refine (bCheck_ok _ a len cap ws _ (hs.below ((((Below.refl _ w).alloc (Nat.le_refl _) _).alloc (by simp) _).alloc (by simp; try omega) _)) hw hlen).mono ?_
        rintro e w1 ⟨rfl, hb⟩
        rw [HC.out]
        have k6 : w1.cell? ⟨w.heap.size + 1, 0, none⟩ = some (.int .i64 0) := (hb.cell (p := ⟨w.heap.size + 1, 0, none⟩) (by simp; try omega)).trans (by simp [go_sem])
        have k7 : w1.cell? ⟨w.heap.size + 1 + 1, 0, none⟩ = some (.int .i64 0) := (hb.cell (p := ⟨w.heap.size + 1 + 1, 0, none⟩) (by simp; try omega)).trans (by simp [go_sem])
        have f6 : w1.frozen? ⟨w.heap.size + 1, 0, none⟩ = false := (hb.frozen (p := ⟨w.heap.size + 1, 0, none⟩) (by simp; try omega)).trans (by simp [go_sem])
        have f7 : w1.frozen? ⟨w.heap.size + 1 + 1, 0, none⟩ = false := (hb.frozen (p := ⟨w.heap.size + 1 + 1, 0, none⟩) (by simp; try omega)).trans (by simp [go_sem])
        have HB := Lib.hid (((((Below.refl _ w).alloc (Nat.le_refl _) _).alloc (by simp) _).alloc (by simp; try omega) _).trans (hb.mono (by simp; try omega)))
        clear hb
        go_wp2
        rw [Exit.noGoto_ret]
        exact bodyPost_ret (v := .tuple #[.int .i64 0, .int .i64 7]) (by simp [results, Tryd.f19, go_sem, k6, k7]) rfl ⟨ret_two V.out.symm E.out.symm, (HB.out.setCell (p := ⟨w.heap.size + 1, 0, none⟩) (by dsimp only; omega) _).setCell (p := ⟨w.heap.size + 1 + 1, 0, none⟩) (by dsimp only; omega) _⟩
    · obtain ⟨k, rfl⟩ := Int.eq_ofNat_of_zero_le (by omega : 0 ≤ k)
      rw [← blk_good hc (by omega)]
      exact bBlock_ok n k a len cap ws w hT (Tab.bound hT) hs hw hc (by omega)
  · have hcb := bne0_true hc
    have E : Hid (blkE N ws k = chk N ws) := Lib.hid (by unfold blkE; rw [if_pos hc])
    have V : Hid (blkV N ws k = 0) := Lib.hid (by unfold blkV; rw [E.out, if_neg hc])
    clear hc
    go_enter Tryd.func19, Tryd.ntmps19
    go_wp2
    refine wp_scope_straight ?_
    go_wp2_with fail
    refine (bCheck_ok _ a len cap ws _ (hs.below ((((Below.refl _ w).alloc (Nat.le_refl _) _).alloc (by simp) _).alloc (by simp; try omega) _)) hw hlen).mono ?_
    rintro e w1 ⟨rfl, hb⟩
    have k6 : w1.cell? ⟨w.heap.size + 1, 0, none⟩ = some (.int .i64 0) := (hb.cell (p := ⟨w.heap.size + 1, 0, none⟩) (by simp; try omega)).trans (by simp [go_sem])
    have k7 : w1.cell? ⟨w.heap.size + 1 + 1, 0, none⟩ = some (.int .i64 0) := (hb.cell (p := ⟨w.heap.size + 1 + 1, 0, none⟩) (by simp; try omega)).trans (by simp [go_sem])
    have f6 : w1.frozen? ⟨w.heap.size + 1, 0, none⟩ = false := (hb.frozen (p := ⟨w.heap.size + 1, 0, none⟩) (by simp; try omega)).trans (by simp [go_sem])
    have f7 : w1.frozen? ⟨w.heap.size + 1 + 1, 0, none⟩ = false := (hb.frozen (p := ⟨w.heap.size + 1 + 1, 0, none⟩) (by simp; try omega)).trans (by simp [go_sem])
    have HB := Lib.hid (((((Below.refl _ w).alloc (Nat.le_refl _) _).alloc (by simp) _).alloc (by simp; try omega) _).trans (hb.mono (by simp; try omega)))
    clear hb
    go_wp2
    rw [Exit.noGoto_ret]
    exact bodyPost_ret (v := .tuple #[.int .i64 0, .int .i64 (chk N ws)]) (by simp [results, Tryd.f19, go_sem, k6, k7]) rfl ⟨ret_two V.out.symm E.out.symm, (HB.out.setCell (p := ⟨w.heap.size + 1, 0, none⟩) (by dsimp only; omega) _).setCell (p := ⟨w.heap.size + 1 + 1, 0, none⟩) (by dsimp only; omega) _⟩
end Go.Proofs.YtikdgnfcckenmaaDoor
