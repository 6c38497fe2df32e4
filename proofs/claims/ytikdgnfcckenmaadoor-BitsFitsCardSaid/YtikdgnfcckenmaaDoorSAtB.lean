/- Bits: what the calls of a law return, behind one bundle (more of them). -/
import Derived.Test.YtikdgnfcckenmaaDoorLawSearch
import Derived.Test.YtikdgnfcckenmaaDoorBitsM
import Derived.Test.YtikdgnfcckenmaaDoorBitsN
namespace Go.Proofs.YtikdgnfcckenmaaDoor
open Go.RowKit Go.Sort Go.Joins
attribute [local go_sem] cell_grow frozen_grow size_grow

section
variable {w : World} {n : Nat} {a : Option Addr} {len cap : Nat} {ws : List Nat} {W : World}
theorem sselect (S : SAt w n a len cap ws W) (hw : ∀ x ∈ ws, x < 18446744073709551616) (hc : chk n ws = 0) (k i : Nat) (on : Bool) (h : selP (look ws on) n k = i) (hk : k ≤ 9223372036854775807) (hi : i < n) :
    Calls Tryd.prog 27 #[.agg #[.int .i64 n, .slice a len cap], .int .i64 k, .bool on] W fun e w' => e = .returned (.tuple #[.int .i64 i, .int .i64 0]) ∧ SAt w n a len cap ws w' :=
  (bSelect_ok n k on a len cap ws W S.t S.s hw hc hk).mono fun _ _ k => ⟨by rw [k.1, h]; unfold selOut; rw [if_pos hi], S.below k.2⟩
theorem sselect_none (S : SAt w n a len cap ws W) (hw : ∀ x ∈ ws, x < 18446744073709551616) (hc : chk n ws = 0) (k : Nat) (on : Bool) (h : cnt (look ws on) 0 n ≤ k) (hk : k ≤ 9223372036854775807) :
    Calls Tryd.prog 27 #[.agg #[.int .i64 n, .slice a len cap], .int .i64 k, .bool on] W fun e w' => e = .returned (.tuple #[.int .i64 0, .int .i64 4]) ∧ SAt w n a len cap ws w' :=
  (bSelect_ok n k on a len cap ws W S.t S.s hw hc hk).mono fun _ _ k => ⟨by rw [k.1, selP_none h]; unfold selOut; rw [if_neg (Nat.lt_irrefl _)], S.below k.2⟩
theorem scountv (S : SAt w n a len cap ws W) (hw : ∀ x ∈ ws, x < 18446744073709551616) (hc : chk n ws = 0) (x y c : Nat) (hxy : x ≤ y) (hy : y ≤ n) (h : cnt (bat ws) x y = c) :
    Calls Tryd.prog 22 #[.agg #[.int .i64 n, .slice a len cap], .int .i64 x, .int .i64 y] W fun e w' => e = .returned (.tuple #[.int .i64 c, .int .i64 0]) ∧ SAt w n a len cap ws w' := by
  obtain ⟨_, hn, hl, _⟩ := chk_zero hc
  have hp : prt n ws x y = 0 := prt_ok hc (by omega)
  refine (bCount_ok n x y a len cap ws W S.s hw (by have := S.s.length; omega)).mono fun _ _ k => ⟨k.1.trans (ret_two ?_ hp), S.below k.2⟩
  unfold cntV
  rw [if_pos hp, Int.toNat_natCast, Int.toNat_natCast, h]
theorem snextv (S : SAt w n a len cap ws W) (hw : ∀ x ∈ ws, x < 18446744073709551616) (hc : chk n ws = 0) (x y : Nat) (on : Bool) (hx : x ≤ n) (h : nxt (look ws on) x n = y) (hy : y < n) :
    Calls Tryd.prog 23 #[.agg #[.int .i64 n, .slice a len cap], .int .i64 x, .bool on] W fun e w' => e = .returned (.tuple #[.int .i64 y, .int .i64 0]) ∧ SAt w n a len cap ws w' := by
  obtain ⟨_, hn, hl, _⟩ := chk_zero hc
  have hp : prt n ws 0 x = 0 := prt_ok hc (by omega)
  refine (bNext_ok n x on a len cap ws W S.t S.s hw (by have := S.s.length; omega)).mono fun _ _ k => ⟨k.1.trans (ret_two ?_ ?_), S.below k.2⟩
  · unfold nextV
    rw [if_pos ⟨hp, by rw [Int.toNat_natCast, Int.toNat_natCast, h]; exact hy⟩, Int.toNat_natCast, Int.toNat_natCast, h]
  · unfold nextE
    rw [if_neg (by simp [hp]), if_pos (by rw [Int.toNat_natCast, Int.toNat_natCast, h]; exact hy)]
theorem sget (S : SAt w n a len cap ws W) (hw : ∀ x ∈ ws, x < 18446744073709551616) (hc : chk n ws = 0) (i : Nat) (v : Bool) (hi : i < n) (h : bat ws i = v) :
    Calls Tryd.prog 32 #[.agg #[.int .i64 n, .slice a len cap], .int .i64 i] W fun e w' => e = .returned (.tuple #[.bool v, .int .i64 0]) ∧ SAt w n a len cap ws w' := by
  obtain ⟨_, hn, hl, _⟩ := chk_zero hc
  have he : getE n ws i = 0 := by unfold getE; rw [if_neg (by simp [hc]), if_neg (by omega)]
  refine (bGet_ok n i a len cap ws W S.s hw (by have := S.s.length; omega)).mono fun _ _ k => ⟨k.1.trans (ret_bi ?_ he), S.below k.2⟩
  unfold getV
  rw [if_pos he, Int.toNat_natCast, h]
theorem slast (S : SAt w n a len cap ws W) (hw : ∀ x ∈ ws, x < 18446744073709551616) (hc : chk n ws = 0) (t b : Nat) (on : Bool) (ht : t ≤ n) (h : lst (look ws on) t = some b) :
    Calls Tryd.prog 30 #[.agg #[.int .i64 n, .slice a len cap], .int .i64 t, .bool on] W fun e w' => e = .returned (.tuple #[.int .i64 b, .int .i64 0]) ∧ SAt w n a len cap ws w' := by
  obtain ⟨_, hn, hl, _⟩ := chk_zero hc
  have hp : prt n ws 0 t = 0 := prt_ok hc (by omega)
  refine (bLast_ok n t on a len cap ws W S.s hw (by have := S.s.length; omega)).mono fun _ _ k => ⟨k.1.trans (ret_two ?_ ?_), S.below k.2⟩
  · unfold lastV; rw [if_pos hp, Int.toNat_natCast, h]; rfl
  · unfold lastE; rw [if_neg (by simp [hp]), Int.toNat_natCast, h]; rfl
theorem slast_none (S : SAt w n a len cap ws W) (hw : ∀ x ∈ ws, x < 18446744073709551616) (hc : chk n ws = 0) (t : Nat) (on : Bool) (ht : t ≤ n) (h : lst (look ws on) t = none) :
    Calls Tryd.prog 30 #[.agg #[.int .i64 n, .slice a len cap], .int .i64 t, .bool on] W fun e w' => e = .returned (.tuple #[.int .i64 0, .int .i64 4]) ∧ SAt w n a len cap ws w' := by
  obtain ⟨_, hn, hl, _⟩ := chk_zero hc
  have hp : prt n ws 0 t = 0 := prt_ok hc (by omega)
  refine (bLast_ok n t on a len cap ws W S.s hw (by have := S.s.length; omega)).mono fun _ _ k => ⟨k.1.trans (ret_two ?_ ?_), S.below k.2⟩
  · unfold lastV; rw [if_pos hp, Int.toNat_natCast, h]; rfl
  · unfold lastE; rw [if_neg (by simp [hp]), Int.toNat_natCast, h]; rfl
end
end Go.Proofs.YtikdgnfcckenmaaDoor
