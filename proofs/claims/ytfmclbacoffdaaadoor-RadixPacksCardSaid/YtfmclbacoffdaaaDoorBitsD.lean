/- Package bits: part, Count; math/bits: TrailingZeros64; word, next, Next. -/
import Derived.Test.YtfmclbacoffdaaaDoorBitsC
import Derived.Test.YtfmclbacoffdaaaDoorPlainC
namespace Go.Proofs.YtfmclbacoffdaaaDoor
open Go.RowKit Go.Sort
attribute [local go_sem] cell_grow frozen_grow size_grow

/-- the answer of part -/
def prt (N : Int) (ws : List Nat) (f t : Int) : Int := if chk N ws ≠ 0 then chk N ws else if f < 0 ∨ t < f ∨ N < t then 7 else 0
theorem prt_chk {N : Int} {ws : List Nat} {f t : Int} (h : chk N ws ≠ 0) : prt N ws f t = chk N ws := by unfold prt; rw [if_pos h]
theorem prt_bad {N : Int} {ws : List Nat} {f t : Int} (h : chk N ws = 0) (h2 : f < 0 ∨ t < f ∨ N < t) : prt N ws f t = 7 := by unfold prt; rw [if_neg (by simpa using h), if_pos h2]
theorem prt_ok {N : Int} {ws : List Nat} {f t : Int} (h : chk N ws = 0) (h2 : ¬ (f < 0 ∨ t < f ∨ N < t)) : prt N ws f t = 0 := by unfold prt; rw [if_neg (by simpa using h), if_neg h2]

/-- a pointer to bits -/
structure AtBits (w : World) (B : Nat) (N : Int) (a : Option Addr) (len cap : Nat) : Prop where
  n : w.cell? ⟨B, 0, none⟩ = some (.int .i64 N)
  s : w.cell? ⟨B, 1, none⟩ = some (.slice a len cap)
theorem AtBits.below {w w' : World} {B : Nat} {N : Int} {a : Option Addr} {len cap : Nat} (h : AtBits w B N a len cap) (hb : Below w.heap.size w w') : AtBits w' B N a len cap :=
  ⟨by rw [hb.cell (p := ⟨B, 0, none⟩) (World.block_lt_of_cell? _ _ h.n)]; exact h.n, by rw [hb.cell (p := ⟨B, 1, none⟩) (World.block_lt_of_cell? _ _ h.s)]; exact h.s⟩
theorem AtBits.new (w : World) (N : Int) (a : Option Addr) (len cap : Nat) (T : TypeId) : AtBits (w.alloc (.cells #[.int .i64 N, .slice a len cap] T)) w.heap.size N a len cap :=
  ⟨by rw [World.cell?_alloc_at _ _ _ _ rfl]; rfl, by rw [World.cell?_alloc_at _ _ _ _ rfl]; rfl⟩

theorem bne0_true {x : Int} (h : x ≠ 0) : (x != 0) = true := by simpa using h
theorem bne0_false {x : Int} (h : x = 0) : (x != 0) = false := by simpa using h

set_option maxHeartbeats 400000 in
theorem bpart_ok (B : Nat) (N f t : Int) (a : Option Addr) (len cap : Nat) (ws : List Nat) (w : World) (hB : AtBits w B N a len cap) (hs : SlK .u64 w a len ws) (hw : ∀ x ∈ ws, x < 18446744073709551616) (hlen : len ≤ 9223372036854775807) :
    Calls Tryd.prog 73 #[.pointer (some ⟨B, 0, none⟩), .int .i64 f, .int .i64 t] w fun e w' => e = .returned (.int .i64 (prt N ws f t)) ∧ Below w.heap.size w w' := by
  have hn := hB.n
  have hsl := hB.s
  have hlt := World.block_lt_of_cell? _ _ hn
  dsimp only at hlt
  clear hB
  by_cases hc : chk N ws = 0
  · have hcb := bne0_false hc
    by_cases h1 : f < 0 ∨ t < f ∨ N < t
    · have R := Lib.hid (prt_bad hc h1)
      clear hc
      by_cases g1 : f < 0
      · have d1 : decide (f < 0) = true := by simpa using g1
        clear h1
        go_enter Tryd.func73, Tryd.ntmps73
        go_wp2_with (go_at_call 77; refine (bCheck_ok N a len cap ws _ hs hw hlen).mono ?_; rintro e w1 ⟨rfl, hb⟩; obtain ⟨⟨d1, os1⟩, rfl⟩ := regrown_of_below hb; clear hb)
        go_ret
        exact ⟨ret_i64 R.out.symm, below_grow _ _ _⟩
      · have d1 : decide (f < 0) = false := by simpa using g1
        by_cases g2 : t < f
        · have d2 : decide (t < f) = true := by simpa using g2
          clear h1
          go_enter Tryd.func73, Tryd.ntmps73
          go_wp2_with (go_at_call 77; refine (bCheck_ok N a len cap ws _ hs hw hlen).mono ?_; rintro e w1 ⟨rfl, hb⟩; obtain ⟨⟨d1, os1⟩, rfl⟩ := regrown_of_below hb; clear hb)
          go_ret
          exact ⟨ret_i64 R.out.symm, below_grow _ _ _⟩
        · have d2 : decide (t < f) = false := by simpa using g2
          have d3 : decide (N < t) = true := by simp; omega
          clear h1
          go_enter Tryd.func73, Tryd.ntmps73
          go_wp2_with (go_at_call 77; refine (bCheck_ok N a len cap ws _ hs hw hlen).mono ?_; rintro e w1 ⟨rfl, hb⟩; obtain ⟨⟨d1, os1⟩, rfl⟩ := regrown_of_below hb; clear hb)
          go_ret
          exact ⟨ret_i64 R.out.symm, below_grow _ _ _⟩
    · have R := Lib.hid (prt_ok hc h1)
      have d1 : decide (f < 0) = false := by simp; omega
      have d2 : decide (t < f) = false := by simp; omega
      have d3 : decide (N < t) = false := by simp; omega
      clear hc h1
      go_enter Tryd.func73, Tryd.ntmps73
      go_wp2_with (go_at_call 77; refine (bCheck_ok N a len cap ws _ hs hw hlen).mono ?_; rintro e w1 ⟨rfl, hb⟩; obtain ⟨⟨d1, os1⟩, rfl⟩ := regrown_of_below hb; clear hb)
      go_ret
      exact ⟨ret_i64 R.out.symm, below_grow _ _ _⟩
  · have hcb := bne0_true hc
    have R := Lib.hid (prt_chk (f := f) (t := t) hc)
    clear hc
    go_enter Tryd.func73, Tryd.ntmps73
    go_wp2_with (go_at_call 77; refine (bCheck_ok N a len cap ws _ hs hw hlen).mono ?_; rintro e w1 ⟨rfl, hb⟩; obtain ⟨⟨d1, os1⟩, rfl⟩ := regrown_of_below hb; clear hb)
    go_ret
    exact ⟨ret_i64 R.out.symm, below_grow _ _ _⟩
theorem chk_zero {N : Int} {ws : List Nat} (h : chk N ws = 0) : 0 ≤ N ∧ N ≤ 4096 ∧ (ws.length : Int) = (N + 63) / 64 ∧ ∀ i, i < 64 * ws.length → N.toNat ≤ i → bat ws i = false := by
  unfold chk at h
  by_cases h1 : N < 0 ∨ 4096 < N
  · rw [if_pos h1] at h; cases h
  rw [if_neg h1] at h
  by_cases h2 : (ws.length : Int) ≠ (N + 63) / 64
  · rw [if_pos h2] at h; cases h
  rw [if_neg h2] at h
  by_cases h3 : ∀ i, i < 64 * ws.length → N.toNat ≤ i → bat ws i = false
  · exact ⟨by omega, by omega, by simpa using h2, h3⟩
  · rw [if_neg h3] at h; cases h
theorem prt_zero {N : Int} {ws : List Nat} {f t : Int} (h : prt N ws f t = 0) : chk N ws = 0 ∧ 0 ≤ f ∧ f ≤ t ∧ t ≤ N := by
  unfold prt at h
  by_cases h1 : chk N ws = 0
  · rw [if_neg (by simpa using h1)] at h
    by_cases h2 : f < 0 ∨ t < f ∨ N < t
    · rw [if_pos h2] at h; cases h
    · exact ⟨h1, by omega, by omega, by omega⟩
  · rw [if_pos h1] at h; exact absurd h h1

/-- what Count counts -/
def cntV (N : Int) (ws : List Nat) (f t : Int) : Int := if prt N ws f t = 0 then ((cnt (bat ws) f.toNat t.toNat : Nat) : Int) else 0
theorem ret_two {a b c d : Int} {k l : IntKind} (h : a = b) (h2 : c = d) : Ending.returned (.tuple #[.int k a, .int l c]) = .returned (.tuple #[.int k b, .int l d]) := by rw [h, h2]
theorem grow_drewN (W : World) (d : Nat) (os : Array Obj) (m : Nat) : Below W.heap.size W ((grow (redrawn W d) os).drewN m) := by
  have h := below_grow W d os
  exact ⟨h.os, h.tape, h.output, h.size, h.block⟩

end Go.Proofs.YtfmclbacoffdaaaDoor
