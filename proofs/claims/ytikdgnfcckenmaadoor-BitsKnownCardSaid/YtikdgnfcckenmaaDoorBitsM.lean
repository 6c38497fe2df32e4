/- Package bits: Get. -/
import Derived.Test.YtikdgnfcckenmaaDoorBitsF
import Derived.Test.YtikdgnfcckenmaaDoorRefA
namespace Go.Proofs.YtikdgnfcckenmaaDoor
open Go.RowKit Go.Sort
attribute [local go_sem] cell_grow frozen_grow size_grow

/-- what Get returns -/
def getE (N : Int) (ws : List Nat) (i : Int) : Int := if chk N ws ≠ 0 then chk N ws else if i < 0 ∨ N ≤ i then 7 else 0
def getV (N : Int) (ws : List Nat) (i : Int) : Bool := if getE N ws i = 0 then bat ws i.toNat else false
theorem ret_bi {b c : Bool} {x y : Int} (h : b = c) (h2 : x = y) : Ending.returned (.tuple #[.bool b, .int .i64 x]) = .returned (.tuple #[.bool c, .int .i64 y]) := by rw [h, h2]

set_option maxRecDepth 100000 in
set_option maxHeartbeats 800000 in
theorem bGet_ok (N i : Int) (a : Option Addr) (len cap : Nat) (ws : List Nat) (w : World) (hs : SlK .u64 w a len ws) (hw : ∀ x ∈ ws, x < 18446744073709551616) (hlen : len ≤ 9223372036854775807) :
    Calls Tryd.prog 32 #[.agg #[.int .i64 N, .slice a len cap], .int .i64 i] w fun e w' => e = .returned (.tuple #[.bool (getV N ws i), .int .i64 (getE N ws i)]) ∧ Below w.heap.size w w' := by
  have hL := hs.length
  by_cases hc : chk N ws = 0
  · have hcb := bne0_false hc
    obtain ⟨hn0, hn1, hn2, -⟩ := chk_zero hc
    obtain ⟨n, rfl⟩ := Int.eq_ofNat_of_zero_le hn0
    have HC := Lib.hid hc
    have HL := Lib.hid hL
    have HN := Lib.hid hn2
    by_cases hi : i < 0 ∨ (n : Int) ≤ i
    · have R2 : getE n ws i = 7 := by unfold getE; rw [if_neg (by simpa using hc), if_pos hi]
      have R1 : getV n ws i = false := by unfold getV; rw [R2]; rfl
      have R1 := Lib.hid R1
      have R2 := Lib.hid R2
      clear hc hL hn2
      by_cases h0 : i < 0
      · clear hi
        go_enter Tryd.func32, Tryd.ntmps32
        go_wp2_with (go_at_call 36; refine (bCheck_ok (n : Int) a len cap ws _ (hs.alloc _) hw (by omega)).mono ?_; rintro e w1 ⟨rfl, hb⟩; rw [HC.out]; obtain ⟨⟨d1, os1⟩, rfl⟩ := regrown_of_below hb; clear hb)
        go_ret2
        exact ⟨ret_bi R1.out.symm R2.out.symm, (below_box0 _ _).trans ((below_grow _ _ _).mono (by simp))⟩
      · have h1 : (n : Int) ≤ i := by omega
        clear hi
        go_enter Tryd.func32, Tryd.ntmps32
        go_wp2_with (go_at_call 36; refine (bCheck_ok (n : Int) a len cap ws _ (hs.alloc _) hw (by omega)).mono ?_; rintro e w1 ⟨rfl, hb⟩; rw [HC.out]; obtain ⟨⟨d1, os1⟩, rfl⟩ := regrown_of_below hb; clear hb)
        go_ret2
        exact ⟨ret_bi R1.out.symm R2.out.symm, (below_box0 _ _).trans ((below_grow _ _ _).mono (by simp))⟩
    · obtain ⟨k, rfl⟩ := Int.eq_ofNat_of_zero_le (by omega : 0 ≤ i)
      have hk : k < n := by omega
      have R2 : getE n ws k = 0 := by unfold getE; rw [if_neg (by simpa using hc), if_neg hi]
      have R1 : getV n ws k = bat ws k := by unfold getV; rw [R2]; simp
      have R1 := Lib.hid R1
      have R2 := Lib.hid R2
      have hlen2 : k / 64 < len := by omega
      obtain ⟨b, off, rfl, hcs⟩ := hs.cells.resolve_left (by omega)
      have hck := hcs (k / 64) hlen2
      have hbl : b < w.heap.size := World.block_lt_of_cell? _ _ hck
      have i0 : (0 : Int) ≤ (k : Int) / 64 := by omega
      have i1 : (k : Int) / 64 < (len : Int) := by omega
      have hT := bit_test ws k hw
      clear hc hL hn2 hi hcs
      go_enter Tryd.func32, Tryd.ntmps32
      go_wp2_with (
        go_at_call 36
        refine (bCheck_ok (n : Int) _ len cap ws _ (hs.alloc _) hw (by omega)).mono ?_
        rintro e w1 ⟨rfl, hb⟩
        rw [HC.out]
        have hck1 := (hb.cell (p := ⟨b, off + k / 64, none⟩) (by simp; try omega)).trans (((below_box0 w _).cell (p := ⟨b, off + k / 64, none⟩) hbl).trans hck)
        obtain ⟨⟨d1, os1⟩, rfl⟩ := regrown_of_below hb
        clear hb)
      go_ret2
      exact ⟨ret_bi (by rw [R1.out]) R2.out.symm, (below_box0 _ _).trans ((below_grow _ _ _).mono (by simp))⟩
  · have hcb := bne0_true hc
    have R2 : getE N ws i = chk N ws := by unfold getE; rw [if_pos hc]
    have R1 : getV N ws i = false := by unfold getV; rw [R2, if_neg hc]
    have R1 := Lib.hid R1
    have R2 := Lib.hid R2
    clear hc
    go_enter Tryd.func32, Tryd.ntmps32
    go_wp2_with (go_at_call 36; refine (bCheck_ok N a len cap ws _ (hs.alloc _) hw (by omega)).mono ?_; rintro e w1 ⟨rfl, hb⟩; obtain ⟨⟨d1, os1⟩, rfl⟩ := regrown_of_below hb; clear hb)
    go_ret2
    exact ⟨ret_bi R1.out.symm R2.out.symm, (below_box0 _ _).trans ((below_grow _ _ _).mono (by simp))⟩
end Go.Proofs.YtikdgnfcckenmaaDoor
