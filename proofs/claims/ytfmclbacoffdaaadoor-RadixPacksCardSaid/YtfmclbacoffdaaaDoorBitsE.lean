/- math/bits: TrailingZeros64; package bits: word, next, Next. -/
import Derived.Test.YtfmclbacoffdaaaDoorBitsD
namespace Go.Proofs.YtfmclbacoffdaaaDoor
open Go.RowKit Go.Sort
attribute [local go_sem] cell_grow frozen_grow size_grow

/-- the table of math/bits lies in block 0 -/
def Tab (w : World) : Prop := ∀ i, i < 64 → w.cell? ⟨0, i, none⟩ = some (.int .u8 (Lib.deBruijn64tab.getD i 0 : Nat))
theorem Tab.below {w w' : World} (h : Tab w) (hb : Below w.heap.size w w') : Tab w' := fun i hi => by
  rw [hb.cell (p := ⟨0, i, none⟩) (World.block_lt_of_cell? _ _ (h i hi))]; exact h i hi
theorem Tab.alloc {w : World} (h : Tab w) (o : Obj) : Tab (w.alloc o) := h.below (below_box0 _ _)
theorem Tab.grow {w : World} (h : Tab w) (d : Nat) (os : Array Obj) : Tab (grow (redrawn w d) os) := h.below (below_grow _ _ _)
theorem Tab.drewN {w : World} (h : Tab w) (d : Nat) : Tab (w.drewN d) := h

theorem tz_idx (x : Nat) (h0 : x ≠ 0) (hx : x < 18446744073709551616) :
    ∃ i, i < 64 ∧ IntKind.u64.wrap (bits BinOp.and IntKind.u64 (x : Int) (IntKind.u64.wrap (-(x : Int))) * 285870213051353865) / 288230376151711744 = ((i : Nat) : Int) ∧ Lib.deBruijn64tab.getD i 0 = Lib.ctz 64 x ∧ Lib.ctz 64 x < 64 := by
  obtain ⟨h1, h2⟩ := Lib.lowest_bit 64 x h0 hx
  obtain ⟨h3, h4⟩ := Lib.deBruijn64_at _ h2
  refine ⟨_, h3, ?_, h4, h2⟩
  have e : IntKind.u64.wrap (-(x : Int)) = ((2 ^ 64 - x : Nat) : Int) := by rw [IntKind.wrap_u64]; omega
  rw [e, u64_and_nat _ _ hx (by omega), h1, IntKind.wrap_u64]
  simp

theorem tz_ok (x : Nat) (w : World) (hT : Tab w) (h0 : x ≠ 0) (hx : x < 18446744073709551616) :
    Calls Tryd.prog 79 #[.int .u64 x] w fun e w' => e = .returned (.int .i64 (Lib.ctz 64 x : Nat)) ∧ w = w' := by
  have hb : ((x : Int) == 0) = false := by simpa using h0
  obtain ⟨i, hi, hv, htab, hlt⟩ := tz_idx x h0 hx
  have hc := hT i hi
  rw [htab] at hc
  clear htab hT
  go_enter Tryd.func79, Tryd.ntmps79
  go_wp2
  go_ret
  exact ⟨rfl, rfl⟩
theorem tz_int (x : Int) (w : World) (hT : Tab w) (h0 : 1 ≤ x) (hx : x < 18446744073709551616) :
    Calls Tryd.prog 79 #[.int .u64 x] w fun e w' => e = .returned (.int .i64 (Lib.ctz 64 x.toNat : Nat)) ∧ w = w' := by
  obtain ⟨x, rfl⟩ := Int.eq_ofNat_of_zero_le (by omega : 0 ≤ x)
  exact tz_ok x w hT (by omega) (by omega)

theorem xor_max (x : Nat) (hx : x < 18446744073709551616) : bits BinOp.xor IntKind.u64 18446744073709551615 (x : Int) = ((18446744073709551615 - x : Nat) : Int) := by
  rw [show (18446744073709551615 : Int) = ((18446744073709551615 : Nat) : Int) from rfl, u64_xor_nat _ _ (by omega) hx]
  congr 1
  apply Nat.eq_of_testBit_eq
  intro j
  rw [Nat.testBit_xor, ones_testBit, flip_testBit hx]
  by_cases hj : j < 64
  · simp [hj]
  · have : x.testBit j = false := Nat.testBit_lt_two_pow (Nat.lt_of_lt_of_le hx (by have := Nat.pow_le_pow_right (n := 2) (by decide) (by omega : 64 ≤ j); simpa using this))
    simp [hj, this]

theorem w_t (x t : Nat) (hx : x < 18446744073709551616) : bits BinOp.and IntKind.u64 (x : Int) (mk 0 t : Nat) = ((wrd x true t : Nat) : Int) := by
  rw [u64_and_nat _ _ hx (mk_lt _ _)]; rfl
theorem w_f (x t : Nat) (hx : x < 18446744073709551616) : bits BinOp.and IntKind.u64 (bits BinOp.xor IntKind.u64 IntKind.u64.max (x : Int)) (mk 0 t : Nat) = ((wrd x false t : Nat) : Int) := by
  rw [show IntKind.u64.max = (18446744073709551615 : Int) from rfl, xor_max x hx, u64_and_nat _ _ (by omega) (mk_lt _ _)]; rfl
theorem w_t1 (x n k : Nat) (hx : x < 18446744073709551616) (h : (n : Int) - (k : Int) * 64 < 64) (hk : 64 * k ≤ n) : bits BinOp.and IntKind.u64 (x : Int) (mk 0 ((n : Int) - (k : Int) * 64).toNat : Nat) = ((wrd x true (min 64 (n - 64 * k)) : Nat) : Int) := by
  rw [show ((n : Int) - (k : Int) * 64).toNat = min 64 (n - 64 * k) by omega, w_t _ _ hx]
theorem w_f1 (x n k : Nat) (hx : x < 18446744073709551616) (h : (n : Int) - (k : Int) * 64 < 64) (hk : 64 * k ≤ n) : bits BinOp.and IntKind.u64 (bits BinOp.xor IntKind.u64 IntKind.u64.max (x : Int)) (mk 0 ((n : Int) - (k : Int) * 64).toNat : Nat) = ((wrd x false (min 64 (n - 64 * k)) : Nat) : Int) := by
  rw [show ((n : Int) - (k : Int) * 64).toNat = min 64 (n - 64 * k) by omega, w_f _ _ hx]
theorem w_t2 (x n k : Nat) (hx : x < 18446744073709551616) (h : 64 ≤ (n : Int) - (k : Int) * 64) : bits BinOp.and IntKind.u64 (x : Int) (mk 0 64 : Nat) = ((wrd x true (min 64 (n - 64 * k)) : Nat) : Int) := by
  rw [show min 64 (n - 64 * k) = 64 by omega, w_t _ _ hx]
theorem w_f2 (x n k : Nat) (hx : x < 18446744073709551616) (h : 64 ≤ (n : Int) - (k : Int) * 64) : bits BinOp.and IntKind.u64 (bits BinOp.xor IntKind.u64 IntKind.u64.max (x : Int)) (mk 0 64 : Nat) = ((wrd x false (min 64 (n - 64 * k)) : Nat) : Int) := by
  rw [show min 64 (n - 64 * k) = 64 by omega, w_f _ _ hx]

set_option maxHeartbeats 400000 in
theorem bword_ok (B : Nat) (n k : Nat) (on : Bool) (a : Option Addr) (len cap : Nat) (ws : List Nat) (w : World) (hB : AtBits w B n a len cap) (hs : SlK .u64 w a len ws) (hw : ∀ x ∈ ws, x < 18446744073709551616) (hk : k < len) (hkn : 64 * k ≤ n) (hn : n ≤ 4096) :
    Calls Tryd.prog 78 #[.pointer (some ⟨B, 0, none⟩), .int .i64 k, .bool on] w fun e w' => e = .returned (.int .u64 (wrd (ws.getD k 0) on (min 64 (n - 64 * k)) : Nat)) ∧ ∃ m, w' = w.drewN m := by
  have hcn := hB.n
  have hsl := hB.s
  obtain ⟨b, off, rfl, hc⟩ := hs.cells.resolve_left (by omega)
  have hck := hc k hk
  have hx : ws[k]?.getD 0 < 18446744073709551616 := by have := getD_lt hw (by decide) k; rwa [List.getD_eq_getElem?_getD] at this
  have hk0 : (0 : Int) ≤ (k : Int) := by omega
  have hk3 : (k : Int) < (len : Int) := by omega
  clear hc hs hB hw
  cases on
  all_goals
    go_enter Tryd.func78, Tryd.ntmps78
    go_wp2_with (go_at_call 72; refine (mask_int _ _ _ (by omega) (by omega) (by omega) (by omega)).mono ?_; rintro e w1 ⟨rfl, m, rfl⟩)
    all_goals go_ret
    · have h : (n : Int) - (k : Int) * 64 < 64 := by assumption
      exact ⟨ret_u64 (by first | exact w_t1 _ _ _ hx h hkn | exact w_f1 _ _ _ hx h hkn), _, rfl⟩
    · have h : 64 ≤ (n : Int) - (k : Int) * 64 := by assumption
      exact ⟨ret_u64 (by first | exact w_t2 _ _ _ hx h | exact w_f2 _ _ _ hx h), _, rfl⟩
end Go.Proofs.YtfmclbacoffdaaaDoor
