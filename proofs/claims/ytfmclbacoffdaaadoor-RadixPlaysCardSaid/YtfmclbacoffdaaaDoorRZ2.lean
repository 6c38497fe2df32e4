/- Plain facts: the first set bit; searching. No program. | Package bits: part, Count; math/bits: TrailingZeros64; word, next, Next. | math/bits: TrailingZeros64; package bits: word, next, Next. | Package bits: next, Next. | Plain facts: bits packed into words. No program. -/
import Derived.Test.YtfmclbacoffdaaaDoorRZ1
import Derived.Lib.TrailingZeros
namespace Go.Proofs.YtfmclbacoffdaaaDoor

/-- the first i from a on, below n, that holds; else n -/
def nxtF (p : Nat → Bool) : Nat → Nat → Nat
  | 0, a => a
  | m + 1, a => if p a = true then a else nxtF p m (a + 1)
def nxt (p : Nat → Bool) (a n : Nat) : Nat := nxtF p (n - a) a
theorem nxtF_spec (p : Nat → Bool) : ∀ m a, a ≤ nxtF p m a ∧ nxtF p m a ≤ a + m ∧ (∀ i, a ≤ i → i < nxtF p m a → p i = false) ∧ (nxtF p m a < a + m → p (nxtF p m a) = true)
  | 0, a => ⟨Nat.le_refl _, Nat.le_refl _, fun i h1 h2 => by simp only [nxtF] at h2; omega, fun h => by simp only [nxtF] at h; omega⟩
  | m + 1, a => by
    simp only [nxtF]
    split
    · rename_i h
      exact ⟨Nat.le_refl _, by omega, fun i h1 h2 => by omega, fun _ => h⟩
    · rename_i h
      obtain ⟨h1, h2, h3, h4⟩ := nxtF_spec p m (a + 1)
      refine ⟨by omega, by omega, fun i hi hj => ?_, fun hlt => h4 (by omega)⟩
      by_cases e : i = a
      · subst e; simpa using h
      · exact h3 i (by omega) hj
theorem nxt_spec {p : Nat → Bool} {a n : Nat} (h : a ≤ n) : a ≤ nxt p a n ∧ nxt p a n ≤ n ∧ (∀ i, a ≤ i → i < nxt p a n → p i = false) ∧ (nxt p a n < n → p (nxt p a n) = true) := by
  obtain ⟨h1, h2, h3, h4⟩ := nxtF_spec p (n - a) a
  refine ⟨h1, ?_, h3, fun hlt => h4 ?_⟩
  · unfold nxt; omega
  · unfold nxt at hlt; omega
theorem nxt_eq {p : Nat → Bool} {a n r : Nat} (h : a ≤ n) (h1 : a ≤ r) (h2 : r ≤ n) (h3 : ∀ i, a ≤ i → i < r → p i = false) (h4 : r < n → p r = true) : nxt p a n = r := by
  obtain ⟨g1, g2, g3, g4⟩ := nxt_spec (p := p) h
  rcases Nat.lt_trichotomy (nxt p a n) r with hlt | he | hgt
  · have := h3 _ g1 hlt
    rw [g4 (by omega)] at this; cases this
  · exact he
  · have := g3 _ h1 hgt
    rw [h4 (by omega)] at this; cases this

theorem ctz_bit {x : Nat} (h0 : x ≠ 0) (h : x < 18446744073709551616) : Lib.ctz 64 x < 64 ∧ x.testBit (Lib.ctz 64 x) = true ∧ ∀ j, j < Lib.ctz 64 x → x.testBit j = false := by
  obtain ⟨m, hm, hl⟩ := Lib.ctzFrom_spec 64 x (by omega) h
  have e : Lib.ctz 64 x = Lib.ctzFrom 64 x := by unfold Lib.ctz; rw [if_neg h0]
  rw [e]
  generalize Lib.ctzFrom 64 x = c at *
  subst hm
  refine ⟨hl, ?_, fun j hj => ?_⟩
  · rw [Nat.testBit_two_pow_mul]
    simp
  · rw [Nat.testBit_two_pow_mul]
    simp; omega

/-- the bits of a word that are looked for -/
def wrd (x : Nat) (on : Bool) (t : Nat) : Nat := (if on then x else 18446744073709551615 - x) &&& mk 0 t
theorem wrd_lt (x : Nat) (on : Bool) (t : Nat) : wrd x on t < 18446744073709551616 := Nat.lt_of_le_of_lt Nat.and_le_right (mk_lt 0 t)
theorem flip_testBit {x : Nat} (hx : x < 18446744073709551616) (j : Nat) : (18446744073709551615 - x).testBit j = (decide (j < 64) && !x.testBit j) := by
  have := Nat.testBit_two_pow_sub_succ (x := x) (n := 64) (by simpa using hx) j
  rw [show 2 ^ 64 - (x + 1) = 18446744073709551615 - x by omega] at this
  exact this
theorem wrd_testBit {x : Nat} (hx : x < 18446744073709551616) (on : Bool) {t : Nat} (ht : t ≤ 64) (j : Nat) : (wrd x on t).testBit j = (decide (j < t) && (x.testBit j == on)) := by
  unfold wrd
  rw [Nat.testBit_and, mk_testBit (by omega) ht]
  cases on
  · rw [if_neg (by simp), flip_testBit hx]
    by_cases h : j < t <;> simp [h] <;> omega
  · simp
    cases x.testBit j <;> simp
/-- what is looked for in bits -/
def look (ws : List Nat) (on : Bool) (i : Nat) : Bool := bat ws i == on
theorem look_word {ws : List Nat} {on : Bool} {n k j : Nat} (hw : ∀ x ∈ ws, x < 18446744073709551616) (hj : j < min 64 (n - 64 * k)) : (wrd (ws.getD k 0) on (min 64 (n - 64 * k))).testBit j = look ws on (64 * k + j) := by
  rw [wrd_testBit (getD_lt hw (by decide) k) on (by omega)]
  unfold look
  rw [bat_at _ _ _ (by omega)]
  simp [hj]
/-- one round of the search: nothing in this word -/
theorem next_none {ws : List Nat} {on : Bool} {n f k : Nat} (hw : ∀ x ∈ ws, x < 18446744073709551616)
    (h : wrd (ws.getD k 0) on (min 64 (n - 64 * k)) &&& mk (f - 64 * k) 64 = 0) (hf : f ≤ 64 * (k + 1)) : ∀ i, f ≤ i → 64 * k ≤ i → i < min n (64 * (k + 1)) → look ws on i = false := by
  intro i h1 h2 h3
  have e := look_word (ws := ws) (on := on) (n := n) (k := k) (j := i - 64 * k) hw (by omega)
  rw [show 64 * k + (i - 64 * k) = i by omega] at e
  have hb : (wrd (ws.getD k 0) on (min 64 (n - 64 * k)) &&& mk (f - 64 * k) 64).testBit (i - 64 * k) = false := by rw [h]; simp
  rw [Nat.testBit_and, mk_testBit (by omega) (by omega), e] at hb
  simpa [show f - 64 * k ≤ i - 64 * k by omega, show i - 64 * k < 64 by omega] using hb
/-- .. and where there is something -/
theorem next_some {ws : List Nat} {on : Bool} {n f k : Nat} (hw : ∀ x ∈ ws, x < 18446744073709551616)
    (h : wrd (ws.getD k 0) on (min 64 (n - 64 * k)) &&& mk (f - 64 * k) 64 ≠ 0) (hf : f ≤ 64 * (k + 1)) (hfn : f ≤ n) (hpre : ∀ i, f ≤ i → i < min n (64 * k) → look ws on i = false) :
    nxt (look ws on) f n = 64 * k + Lib.ctz 64 (wrd (ws.getD k 0) on (min 64 (n - 64 * k)) &&& mk (f - 64 * k) 64) := by
  obtain ⟨c1, c2, c3⟩ := ctz_bit h (Nat.lt_of_le_of_lt Nat.and_le_left (wrd_lt _ _ _))
  generalize Lib.ctz 64 (wrd (ws.getD k 0) on (min 64 (n - 64 * k)) &&& mk (f - 64 * k) 64) = c at *
  rw [Nat.testBit_and, mk_testBit (by omega) (by omega)] at c2
  simp only [Bool.and_eq_true, decide_eq_true_eq] at c2
  have hlt : c < min 64 (n - 64 * k) := by
    have := c2.1
    rw [wrd_testBit (getD_lt hw (by decide) k) on (by omega)] at this
    simp only [Bool.and_eq_true, decide_eq_true_eq] at this
    exact this.1
  have hl := look_word (ws := ws) (on := on) (n := n) (k := k) hw hlt
  rw [c2.1] at hl
  refine nxt_eq hfn (by omega) (by omega) (fun i h1 h2 => ?_) (fun _ => hl.symm)
  by_cases hik : i < 64 * k
  · exact hpre i h1 (by omega)
  · have e := look_word (ws := ws) (on := on) (n := n) (k := k) (j := i - 64 * k) hw (by omega)
    rw [show 64 * k + (i - 64 * k) = i by omega] at e
    have := c3 (i - 64 * k) (by omega)
    rw [Nat.testBit_and, mk_testBit (by omega) (by omega), e] at this
    simpa [show f - 64 * k ≤ i - 64 * k by omega, show i - 64 * k < 64 by omega] using this
end Go.Proofs.YtfmclbacoffdaaaDoor

namespace Go.Proofs.YtfmclbacoffdaaaDoor
open Go.RowKit Go.Sort
attribute [local go_sem] cell_grow frozen_grow size_grow

/-- the answer of part -/
def prt (N : Int) (ws : List Nat) (f t : Int) : Int := if chk N ws ≠ 0 then chk N ws else if f < 0 ∨ t < f ∨ N < t then 7 else 0
theorem prt_chk {N : Int} {ws : List Nat} {f t : Int} (h : chk N ws ≠ 0) : prt N ws f t = chk N ws := by unfold prt; rw [if_pos h]
theorem prt_bad {N : Int} {ws : List Nat} {f t : Int} (h : chk N ws = 0) (h2 : f < 0 ∨ t < f ∨ N < t) : prt N ws f t = 7 := by unfold prt; rw [if_neg (by simpa using h), if_pos h2]
theorem prt_ok {N : Int} {ws : List Nat} {f t : Int} (h : chk N ws = 0) (h2 : ¬ (f < 0 ∨ t < f ∨ N < t)) : prt N ws f t = 0 := by unfold prt; rw [if_neg (by simpa using h), if_neg h2]

/-- a pointer to bits -/
structure AtBits (w : World) (B : Nat) (N : Int) (a : Option Addr) (len cap : Nat) : Prop where
  n : w.cell? ⟨B, 0, none⟩ = some (.int .i64 N)
  s : w.cell? ⟨B, 1, none⟩ = some (.slice a len cap)
theorem AtBits.below {w w' : World} {B : Nat} {N : Int} {a : Option Addr} {len cap : Nat} (h : AtBits w B N a len cap) (hb : Below w.heap.size w w') : AtBits w' B N a len cap :=
  ⟨by rw [hb.cell (p := ⟨B, 0, none⟩) (World.block_lt_of_cell? _ _ h.n)]; exact h.n, by rw [hb.cell (p := ⟨B, 1, none⟩) (World.block_lt_of_cell? _ _ h.s)]; exact h.s⟩
theorem AtBits.new (w : World) (N : Int) (a : Option Addr) (len cap : Nat) (T : TypeId) : AtBits (w.alloc (.cells #[.int .i64 N, .slice a len cap] T)) w.heap.size N a len cap :=
  ⟨by rw [World.cell?_alloc_at _ _ _ _ rfl]; rfl, by rw [World.cell?_alloc_at _ _ _ _ rfl]; rfl⟩

theorem bne0_true {x : Int} (h : x ≠ 0) : (x != 0) = true := by simpa using h
theorem bne0_false {x : Int} (h : x = 0) : (x != 0) = false := by simpa using h

set_option maxHeartbeats 400000 in
theorem bpart_ok (B : Nat) (N f t : Int) (a : Option Addr) (len cap : Nat) (ws : List Nat) (w : World) (hB : AtBits w B N a len cap) (hs : SlK .u64 w a len ws) (hw : ∀ x ∈ ws, x < 18446744073709551616) (hlen : len ≤ 9223372036854775807) :
    Calls Tryd.prog 73 #[.pointer (some ⟨B, 0, none⟩), .int .i64 f, .int .i64 t] w fun e w' => e = .returned (.int .i64 (prt N ws f t)) ∧ Below w.heap.size w w' := by
  have hn := hB.n
  have hsl := hB.s
  have hlt := World.block_lt_of_cell? _ _ hn
  dsimp only at hlt
  clear hB
  by_cases hc : chk N ws = 0
  · have hcb := bne0_false hc
    by_cases h1 : f < 0 ∨ t < f ∨ N < t
    · have R := Lib.hid (prt_bad hc h1)
      clear hc
      by_cases g1 : f < 0
      · have d1 : decide (f < 0) = true := by simpa using g1
        clear h1
        go_enter Tryd.func73, Tryd.ntmps73
        go_wp2_with (go_at_call 77; refine (bCheck_ok N a len cap ws _ hs hw hlen).mono ?_; rintro e w1 ⟨rfl, hb⟩; obtain ⟨⟨d1, os1⟩, rfl⟩ := regrown_of_below hb; clear hb)
        go_ret
        exact ⟨ret_i64 R.out.symm, below_grow _ _ _⟩
      · have d1 : decide (f < 0) = false := by simpa using g1
        by_cases g2 : t < f
        · have d2 : decide (t < f) = true := by simpa using g2
          clear h1
          go_enter Tryd.func73, Tryd.ntmps73
          go_wp2_with (go_at_call 77; refine (bCheck_ok N a len cap ws _ hs hw hlen).mono ?_; rintro e w1 ⟨rfl, hb⟩; obtain ⟨⟨d1, os1⟩, rfl⟩ := regrown_of_below hb; clear hb)
          go_ret
          exact ⟨ret_i64 R.out.symm, below_grow _ _ _⟩
        · have d2 : decide (t < f) = false := by simpa using g2
          have d3 : decide (N < t) = true := by simp; omega
          clear h1
          go_enter Tryd.func73, Tryd.ntmps73
          go_wp2_with (go_at_call 77; refine (bCheck_ok N a len cap ws _ hs hw hlen).mono ?_; rintro e w1 ⟨rfl, hb⟩; obtain ⟨⟨d1, os1⟩, rfl⟩ := regrown_of_below hb; clear hb)
          go_ret
          exact ⟨ret_i64 R.out.symm, below_grow _ _ _⟩
    · have R := Lib.hid (prt_ok hc h1)
      have d1 : decide (f < 0) = false := by simp; omega
      have d2 : decide (t < f) = false := by simp; omega
      have d3 : decide (N < t) = false := by simp; omega
      clear hc h1
      go_enter Tryd.func73, Tryd.ntmps73
      go_wp2_with (go_at_call 77; refine (bCheck_ok N a len cap ws _ hs hw hlen).mono ?_; rintro e w1 ⟨rfl, hb⟩; obtain ⟨⟨d1, os1⟩, rfl⟩ := regrown_of_below hb; clear hb)
      go_ret
      exact ⟨ret_i64 R.out.symm, below_grow _ _ _⟩
  · have hcb := bne0_true hc
    have R := Lib.hid (prt_chk (f := f) (t := t) hc)
    clear hc
    go_enter Tryd.func73, Tryd.ntmps73
    go_wp2_with (go_at_call 77; refine (bCheck_ok N a len cap ws _ hs hw hlen).mono ?_; rintro e w1 ⟨rfl, hb⟩; obtain ⟨⟨d1, os1⟩, rfl⟩ := regrown_of_below hb; clear hb)
    go_ret
    exact ⟨ret_i64 R.out.symm, below_grow _ _ _⟩
theorem chk_zero {N : Int} {ws : List Nat} (h : chk N ws = 0) : 0 ≤ N ∧ N ≤ 4096 ∧ (ws.length : Int) = (N + 63) / 64 ∧ ∀ i, i < 64 * ws.length → N.toNat ≤ i → bat ws i = false := by
  unfold chk at h
  by_cases h1 : N < 0 ∨ 4096 < N
  · rw [if_pos h1] at h; cases h
  rw [if_neg h1] at h
  by_cases h2 : (ws.length : Int) ≠ (N + 63) / 64
  · rw [if_pos h2] at h; cases h
  rw [if_neg h2] at h
  by_cases h3 : ∀ i, i < 64 * ws.length → N.toNat ≤ i → bat ws i = false
  · exact ⟨by omega, by omega, by simpa using h2, h3⟩
  · rw [if_neg h3] at h; cases h
theorem prt_zero {N : Int} {ws : List Nat} {f t : Int} (h : prt N ws f t = 0) : chk N ws = 0 ∧ 0 ≤ f ∧ f ≤ t ∧ t ≤ N := by
  unfold prt at h
  by_cases h1 : chk N ws = 0
  · rw [if_neg (by simpa using h1)] at h
    by_cases h2 : f < 0 ∨ t < f ∨ N < t
    · rw [if_pos h2] at h; cases h
    · exact ⟨h1, by omega, by omega, by omega⟩
  · rw [if_pos h1] at h; exact absurd h h1

/-- what Count counts -/
def cntV (N : Int) (ws : List Nat) (f t : Int) : Int := if prt N ws f t = 0 then ((cnt (bat ws) f.toNat t.toNat : Nat) : Int) else 0
theorem ret_two {a b c d : Int} {k l : IntKind} (h : a = b) (h2 : c = d) : Ending.returned (.tuple #[.int k a, .int l c]) = .returned (.tuple #[.int k b, .int l d]) := by rw [h, h2]
theorem grow_drewN (W : World) (d : Nat) (os : Array Obj) (m : Nat) : Below W.heap.size W ((grow (redrawn W d) os).drewN m) := by
  have h := below_grow W d os
  exact ⟨h.os, h.tape, h.output, h.size, h.block⟩

end Go.Proofs.YtfmclbacoffdaaaDoor

namespace Go.Proofs.YtfmclbacoffdaaaDoor
open Go.RowKit Go.Sort
attribute [local go_sem] cell_grow frozen_grow size_grow

/-- the table of math/bits lies in block 0 -/
def Tab (w : World) : Prop := ∀ i, i < 64 → w.cell? ⟨0, i, none⟩ = some (.int .u8 (Lib.deBruijn64tab.getD i 0 : Nat))
theorem Tab.below {w w' : World} (h : Tab w) (hb : Below w.heap.size w w') : Tab w' := fun i hi => by
  rw [hb.cell (p := ⟨0, i, none⟩) (World.block_lt_of_cell? _ _ (h i hi))]; exact h i hi
theorem Tab.alloc {w : World} (h : Tab w) (o : Obj) : Tab (w.alloc o) := h.below (below_box0 _ _)
theorem Tab.grow {w : World} (h : Tab w) (d : Nat) (os : Array Obj) : Tab (grow (redrawn w d) os) := h.below (below_grow _ _ _)
theorem Tab.drewN {w : World} (h : Tab w) (d : Nat) : Tab (w.drewN d) := h

theorem tz_idx (x : Nat) (h0 : x ≠ 0) (hx : x < 18446744073709551616) :
    ∃ i, i < 64 ∧ IntKind.u64.wrap (bits BinOp.and IntKind.u64 (x : Int) (IntKind.u64.wrap (-(x : Int))) * 285870213051353865) / 288230376151711744 = ((i : Nat) : Int) ∧ Lib.deBruijn64tab.getD i 0 = Lib.ctz 64 x ∧ Lib.ctz 64 x < 64 := by
  obtain ⟨h1, h2⟩ := Lib.lowest_bit 64 x h0 hx
  obtain ⟨h3, h4⟩ := Lib.deBruijn64_at _ h2
  refine ⟨_, h3, ?_, h4, h2⟩
  have e : IntKind.u64.wrap (-(x : Int)) = ((2 ^ 64 - x : Nat) : Int) := by rw [IntKind.wrap_u64]; omega
  rw [e, u64_and_nat _ _ hx (by omega), h1, IntKind.wrap_u64]
  simp

theorem tz_ok (x : Nat) (w : World) (hT : Tab w) (h0 : x ≠ 0) (hx : x < 18446744073709551616) :
    Calls Tryd.prog 79 #[.int .u64 x] w fun e w' => e = .returned (.int .i64 (Lib.ctz 64 x : Nat)) ∧ w = w' := by
  have hb : ((x : Int) == 0) = false := by simpa using h0
  obtain ⟨i, hi, hv, htab, hlt⟩ := tz_idx x h0 hx
  have hc := hT i hi
  rw [htab] at hc
  clear htab hT
  go_enter Tryd.func79, Tryd.ntmps79
  go_wp2
  go_ret
  exact ⟨rfl, rfl⟩
theorem tz_int (x : Int) (w : World) (hT : Tab w) (h0 : 1 ≤ x) (hx : x < 18446744073709551616) :
    Calls Tryd.prog 79 #[.int .u64 x] w fun e w' => e = .returned (.int .i64 (Lib.ctz 64 x.toNat : Nat)) ∧ w = w' := by
  obtain ⟨x, rfl⟩ := Int.eq_ofNat_of_zero_le (by omega : 0 ≤ x)
  exact tz_ok x w hT (by omega) (by omega)

theorem xor_max (x : Nat) (hx : x < 18446744073709551616) : bits BinOp.xor IntKind.u64 18446744073709551615 (x : Int) = ((18446744073709551615 - x : Nat) : Int) := by
  rw [show (18446744073709551615 : Int) = ((18446744073709551615 : Nat) : Int) from rfl, u64_xor_nat _ _ (by omega) hx]
  congr 1
  apply Nat.eq_of_testBit_eq
  intro j
  rw [Nat.testBit_xor, ones_testBit, flip_testBit hx]
  by_cases hj : j < 64
  · simp [hj]
  · have : x.testBit j = false := Nat.testBit_lt_two_pow (Nat.lt_of_lt_of_le hx (by have := Nat.pow_le_pow_right (n := 2) (by decide) (by omega : 64 ≤ j); simpa using this))
    simp [hj, this]

theorem w_t (x t : Nat) (hx : x < 18446744073709551616) : bits BinOp.and IntKind.u64 (x : Int) (mk 0 t : Nat) = ((wrd x true t : Nat) : Int) := by
  rw [u64_and_nat _ _ hx (mk_lt _ _)]; rfl
theorem w_f (x t : Nat) (hx : x < 18446744073709551616) : bits BinOp.and IntKind.u64 (bits BinOp.xor IntKind.u64 IntKind.u64.max (x : Int)) (mk 0 t : Nat) = ((wrd x false t : Nat) : Int) := by
  rw [show IntKind.u64.max = (18446744073709551615 : Int) from rfl, xor_max x hx, u64_and_nat _ _ (by omega) (mk_lt _ _)]; rfl
theorem w_t1 (x n k : Nat) (hx : x < 18446744073709551616) (h : (n : Int) - (k : Int) * 64 < 64) (hk : 64 * k ≤ n) : bits BinOp.and IntKind.u64 (x : Int) (mk 0 ((n : Int) - (k : Int) * 64).toNat : Nat) = ((wrd x true (min 64 (n - 64 * k)) : Nat) : Int) := by
  rw [show ((n : Int) - (k : Int) * 64).toNat = min 64 (n - 64 * k) by omega, w_t _ _ hx]
theorem w_f1 (x n k : Nat) (hx : x < 18446744073709551616) (h : (n : Int) - (k : Int) * 64 < 64) (hk : 64 * k ≤ n) : bits BinOp.and IntKind.u64 (bits BinOp.xor IntKind.u64 IntKind.u64.max (x : Int)) (mk 0 ((n : Int) - (k : Int) * 64).toNat : Nat) = ((wrd x false (min 64 (n - 64 * k)) : Nat) : Int) := by
  rw [show ((n : Int) - (k : Int) * 64).toNat = min 64 (n - 64 * k) by omega, w_f _ _ hx]
theorem w_t2 (x n k : Nat) (hx : x < 18446744073709551616) (h : 64 ≤ (n : Int) - (k : Int) * 64) : bits BinOp.and IntKind.u64 (x : Int) (mk 0 64 : Nat) = ((wrd x true (min 64 (n - 64 * k)) : Nat) : Int) := by
  rw [show min 64 (n - 64 * k) = 64 by omega, w_t _ _ hx]
theorem w_f2 (x n k : Nat) (hx : x < 18446744073709551616) (h : 64 ≤ (n : Int) - (k : Int) * 64) : bits BinOp.and IntKind.u64 (bits BinOp.xor IntKind.u64 IntKind.u64.max (x : Int)) (mk 0 64 : Nat) = ((wrd x false (min 64 (n - 64 * k)) : Nat) : Int) := by
  rw [show min 64 (n - 64 * k) = 64 by omega, w_f _ _ hx]

set_option maxHeartbeats 400000 in
theorem bword_ok (B : Nat) (n k : Nat) (on : Bool) (a : Option Addr) (len cap : Nat) (ws : List Nat) (w : World) (hB : AtBits w B n a len cap) (hs : SlK .u64 w a len ws) (hw : ∀ x ∈ ws, x < 18446744073709551616) (hk : k < len) (hkn : 64 * k ≤ n) (hn : n ≤ 4096) :
    Calls Tryd.prog 78 #[.pointer (some ⟨B, 0, none⟩), .int .i64 k, .bool on] w fun e w' => e = .returned (.int .u64 (wrd (ws.getD k 0) on (min 64 (n - 64 * k)) : Nat)) ∧ ∃ m, w' = w.drewN m := by
  have hcn := hB.n
  have hsl := hB.s
  obtain ⟨b, off, rfl, hc⟩ := hs.cells.resolve_left (by omega)
  have hck := hc k hk
  have hx : ws[k]?.getD 0 < 18446744073709551616 := by have := getD_lt hw (by decide) k; rwa [List.getD_eq_getElem?_getD] at this
  have hk0 : (0 : Int) ≤ (k : Int) := by omega
  have hk3 : (k : Int) < (len : Int) := by omega
  clear hc hs hB hw
  cases on
  all_goals
    go_enter Tryd.func78, Tryd.ntmps78
    go_wp2_with (go_at_call 72; refine (mask_int _ _ _ (by omega) (by omega) (by omega) (by omega)).mono ?_; rintro e w1 ⟨rfl, m, rfl⟩)
    all_goals go_ret
    · have h : (n : Int) - (k : Int) * 64 < 64 := by assumption
      exact ⟨ret_u64 (by first | exact w_t1 _ _ _ hx h hkn | exact w_f1 _ _ _ hx h hkn), _, rfl⟩
    · have h : 64 ≤ (n : Int) - (k : Int) * 64 := by assumption
      exact ⟨ret_u64 (by first | exact w_t2 _ _ _ hx h | exact w_f2 _ _ _ hx h), _, rfl⟩
end Go.Proofs.YtfmclbacoffdaaaDoor

namespace Go.Proofs.YtfmclbacoffdaaaDoor
open Go.RowKit Go.Sort
attribute [local go_sem] cell_grow frozen_grow size_grow

theorem tz_test (x : Int) (w : World) (hT : Tab w) (ht : (x != 0) = true) (hr : 0 ≤ x ∧ x < 18446744073709551616) :
    Calls Tryd.prog 79 #[.int .u64 x] w fun e w' => e = .returned (.int .i64 (Lib.ctz 64 x.toNat : Nat)) ∧ w = w' := by
  have : x ≠ 0 := by simpa using ht
  exact tz_int x w hT (by omega) hr.2

/-- the word that next looks at -/
theorem nx_word (ws : List Nat) (on : Bool) (n f k : Nat) : bits BinOp.and IntKind.u64 ((wrd (ws[k]?.getD 0) on (min 64 (n - 64 * k)) : Nat) : Int) ((mk (if (k : Int) * 64 < (f : Int) then (f : Int) - (k : Int) * 64 else 0).toNat 64 : Nat) : Int) =
    ((wrd (ws.getD k 0) on (min 64 (n - 64 * k)) &&& mk (f - 64 * k) 64 : Nat) : Int) := by
  rw [lo_nat, u64_and_nat _ _ (wrd_lt _ _ _) (mk_lt _ _), List.getD_eq_getElem?_getD]

set_option maxHeartbeats 800000 in
theorem bnext_ok (B : Nat) (n f : Nat) (on : Bool) (a : Option Addr) (len cap : Nat) (ws : List Nat) (w : World) (hT : Tab w) (hB : AtBits w B n a len cap) (hs : SlK .u64 w a len ws) (hw : ∀ x ∈ ws, x < 18446744073709551616) (hf : f ≤ n) (hn : n ≤ 4096) (hl : len = (n + 63) / 64) :
    Calls Tryd.prog 74 #[.pointer (some ⟨B, 0, none⟩), .int .i64 f, .bool on] w fun e w' => e = .returned (.int .i64 (nxt (look ws on) f n : Nat)) ∧ ∃ m, w' = w.drewN m := by
  have Hl := Lib.hid hl
  have hlu : len ≤ 64 := by omega
  clear hl
  go_enter Tryd.func74, Tryd.ntmps74
  go_wp2
  go_loopw [7] (fun i wr => ∃ k : Nat, f / 64 ≤ k ∧ k ≤ len ∧ i = .int .i64 k ∧ (∀ i, f ≤ i → i < min n (64 * k) → look ws on i = false) ∧ ∃ m, wr = w.drewN m) (fun i _ => len - (intOf i).toNat)
  case atStart => exact ⟨f / 64, Nat.le_refl _, by have := Hl.out; omega, by go_num, fun i h1 h2 => by omega, 0, rfl⟩
  case round =>
    obtain ⟨k, hk1, hk2, rfl, hpre, m, hm⟩ := hrel
    have Hm := Lib.hid hm
    have Hp := Lib.hid hpre
    have hTr : Tab wr := by rw [hm]; exact hT
    have hBr : AtBits wr B n a len cap := by rw [hm]; exact ⟨hB.n, hB.s⟩
    have hsr : SlK .u64 wr a len ws := by rw [hm]; exact ⟨hs.length, hs.cells⟩
    have c0 := hBr.n
    have c1 := hBr.s
    clear hm hpre
    by_cases hlt : k < len
    · have hkn : 64 * k ≤ n := by have := Hl.out; omega
      have hX := nx_word ws on n f k
      obtain ⟨X, hXd⟩ : ∃ X : Nat, X = wrd (ws.getD k 0) on (min 64 (n - 64 * k)) &&& mk (f - 64 * k) 64 := ⟨_, rfl⟩
      rw [← hXd] at hX
      have hXr : X < 18446744073709551616 := by rw [hXd]; exact Nat.lt_of_le_of_lt Nat.and_le_left (wrd_lt _ _ _)
      have HX := Lib.hid hXd
      clear hXd
      by_cases h0 : X = 0
      · have hb : ((X : Int) != 0) = false := by simpa using h0
        have H0 := Lib.hid h0
        clear h0
        go_wp2_with (first
          | (go_at_call 78; refine (bword_ok B n k on a len cap ws _ hBr hsr hw hlt hkn hn).mono ?_; rintro e w1 ⟨rfl, m1, rfl⟩)
          | (go_at_call 72; refine (mask_int _ _ _ (by omega) (by omega) (by omega) (by omega)).mono ?_; rintro e w1 ⟨rfl, m2, rfl⟩))
        all_goals go_roundw
        all_goals first
          | (refine ⟨k + 1, by omega, by omega, by go_num, fun i h1 h2 => ?_, drewN_of Hm.out _⟩
             by_cases hik : i < 64 * k
             · exact Hp.out i h1 (by omega)
             · exact next_none hw (by rw [← HX.out]; exact H0.out) (by omega) i h1 (by omega) (by omega))
          | (simp [intOf]; omega)
      · have hb : ((X : Int) != 0) = true := by simpa using h0
        have R := Lib.hid (next_some (ws := ws) (on := on) (n := n) (f := f) (k := k) hw (by rw [← HX.out]; exact h0) (by omega) hf Hp.out)
        have hcz := (ctz_bit h0 hXr).1
        go_wp2_with (first
          | (go_at_call 78; refine (bword_ok B n k on a len cap ws _ hBr hsr hw hlt hkn hn).mono ?_; rintro e w1 ⟨rfl, m1, rfl⟩)
          | (go_at_call 72; refine (mask_int _ _ _ (by omega) (by omega) (by omega) (by omega)).mono ?_; rintro e w1 ⟨rfl, m2, rfl⟩)
          | (go_at_call 79; refine (tz_ok X _ (by exact hTr) h0 hXr).mono ?_; rintro e w1 ⟨rfl, rfl⟩))
        all_goals go_ret
        all_goals exact ⟨ret_i64 (by rw [R.out, ← HX.out]; omega), drewN_of Hm.out _⟩
    · go_wp2
      go_ret
      refine ⟨ret_i64 ?_, _, Hm.out⟩
      have e : nxt (look ws on) f n = n := nxt_eq hf hf (Nat.le_refl _) (fun i h1 h2 => Hp.out i h1 (by have := Hl.out; omega)) (fun h => absurd h (by omega))
      rw [e]
/-- what Next returns -/
def nextV (N : Int) (ws : List Nat) (f : Int) (on : Bool) : Int := if prt N ws 0 f = 0 ∧ nxt (look ws on) f.toNat N.toNat < N.toNat then ((nxt (look ws on) f.toNat N.toNat : Nat) : Int) else 0
def nextE (N : Int) (ws : List Nat) (f : Int) (on : Bool) : Int := if prt N ws 0 f ≠ 0 then prt N ws 0 f else if nxt (look ws on) f.toNat N.toNat < N.toNat then 0 else 4

set_option maxHeartbeats 800000 in
theorem bNext_ok (N f : Int) (on : Bool) (a : Option Addr) (len cap : Nat) (ws : List Nat) (w : World) (hT : Tab w) (hs : SlK .u64 w a len ws) (hw : ∀ x ∈ ws, x < 18446744073709551616) (hlen : len ≤ 9223372036854775807) :
    Calls Tryd.prog 66 #[.agg #[.int .i64 N, .slice a len cap], .int .i64 f, .bool on] w fun e w' => e = .returned (.tuple #[.int .i64 (nextV N ws f on), .int .i64 (nextE N ws f on)]) ∧ Below w.heap.size w w' := by
  have hL := hs.length
  by_cases hp : prt N ws 0 f = 0
  · obtain ⟨hc, _, hf, hfN⟩ := prt_zero hp
    obtain ⟨hN0, hN, hl, _⟩ := chk_zero hc
    have hpb := bne0_false hp
    obtain ⟨f, rfl⟩ := Int.eq_ofNat_of_zero_le hf
    obtain ⟨n, rfl⟩ := Int.eq_ofNat_of_zero_le hN0
    have R1 : nextV n ws f on = if nxt (look ws on) f n < n then ((nxt (look ws on) f n : Nat) : Int) else 0 := by unfold nextV; simp [hp]
    have R2 : nextE n ws f on = if nxt (look ws on) f n < n then 0 else 4 := by unfold nextE; simp [hp]
    have hl' : len = (n + 63) / 64 := by omega
    obtain ⟨_, hr2, _, _⟩ := nxt_spec (p := look ws on) (a := f) (n := n) (by omega)
    have R1 := Lib.hid R1
    have R2 := Lib.hid R2
    have HL := Lib.hid hl'
    clear hp hc hL hl hl'
    by_cases hr : nxt (look ws on) f n < n
    · have hd : decide (((nxt (look ws on) f n : Nat) : Int) < (n : Int)) = true := by simpa using hr
      go_enter Tryd.func66, Tryd.ntmps66
      go_wp2_with (go_at_call 73; refine (bpart_ok _ n 0 f a len cap ws _ (AtBits.new w n a len cap _) (hs.alloc _) hw hlen).mono ?_; rintro e w1 ⟨rfl, hb⟩; obtain ⟨⟨d1, os1⟩, rfl⟩ := regrown_of_below hb; clear hb)
      refine (bnext_ok w.heap.size n f on a len cap ws _ ((hT.alloc _).grow _ _) ((AtBits.new w n a len cap _).below (below_grow _ _ _)) ((hs.alloc _).grow _ _) hw (by omega) (by omega) HL.out).mono ?_
      rintro e w1 ⟨rfl, m, rfl⟩
      go_wp2
      go_ret2
      exact ⟨ret_two (by rw [R1.out, if_pos hr]) (by rw [R2.out, if_pos hr]), (below_box0 _ _).trans ((grow_drewN _ _ _ _).mono (by simp))⟩
    · have hd : decide (((nxt (look ws on) f n : Nat) : Int) < (n : Int)) = false := by simp; omega
      go_enter Tryd.func66, Tryd.ntmps66
      go_wp2_with (go_at_call 73; refine (bpart_ok _ n 0 f a len cap ws _ (AtBits.new w n a len cap _) (hs.alloc _) hw hlen).mono ?_; rintro e w1 ⟨rfl, hb⟩; obtain ⟨⟨d1, os1⟩, rfl⟩ := regrown_of_below hb; clear hb)
      refine (bnext_ok w.heap.size n f on a len cap ws _ ((hT.alloc _).grow _ _) ((AtBits.new w n a len cap _).below (below_grow _ _ _)) ((hs.alloc _).grow _ _) hw (by omega) (by omega) HL.out).mono ?_
      rintro e w1 ⟨rfl, m, rfl⟩
      go_wp2
      go_ret2
      exact ⟨ret_two (by rw [R1.out, if_neg hr]) (by rw [R2.out, if_neg hr]), (below_box0 _ _).trans ((grow_drewN _ _ _ _).mono (by simp))⟩
  · have hpb := bne0_true hp
    have R1 : nextV N ws f on = 0 := by unfold nextV; rw [if_neg (fun h => hp h.1)]
    have R2 : nextE N ws f on = prt N ws 0 f := by unfold nextE; rw [if_pos hp]
    have R1 := Lib.hid R1
    have R2 := Lib.hid R2
    clear hp
    go_enter Tryd.func66, Tryd.ntmps66
    go_wp2_with (go_at_call 73; refine (bpart_ok _ N 0 f a len cap ws _ (AtBits.new w N a len cap _) (hs.alloc _) hw hlen).mono ?_; rintro e w1 ⟨rfl, hb⟩; obtain ⟨⟨d1, os1⟩, rfl⟩ := regrown_of_below hb; clear hb)
    go_ret2
    exact ⟨ret_two R1.out.symm R2.out.symm, (below_box0 _ _).trans ((below_grow _ _ _).mono (by simp))⟩
end Go.Proofs.YtfmclbacoffdaaaDoor

namespace Go.Proofs.YtfmclbacoffdaaaDoor

/-- the word whose bit j is q j, of m bits -/
def wordOf (q : Nat → Bool) : Nat → Nat
  | 0 => 0
  | m + 1 => wordOf q m + (if q m = true then 2 ^ m else 0)
theorem wordOf_lt (q : Nat → Bool) : ∀ m, wordOf q m < 2 ^ m
  | 0 => by simp [wordOf]
  | m + 1 => by have := wordOf_lt q m; simp only [wordOf, Nat.pow_succ]; split <;> omega
theorem wordOf_testBit (q : Nat → Bool) : ∀ m j, (wordOf q m).testBit j = (decide (j < m) && q j)
  | 0, j => by simp [wordOf]
  | m + 1, j => by
    have hlt := wordOf_lt q m
    simp only [wordOf]
    by_cases hq : q m = true
    · rw [if_pos hq, Nat.add_comm, show 2 ^ m + wordOf q m = 2 ^ m * 1 + wordOf q m by simp, Nat.testBit_two_pow_mul_add _ hlt]
      by_cases h : j < m
      · rw [if_pos h, wordOf_testBit q m j]; simp [h, show j < m + 1 by omega]
      · rw [if_neg h]
        by_cases e : j = m
        · subst e; simp [hq]
        · have h1 : ¬ j < m + 1 := by omega
          rw [Nat.testBit_lt_two_pow (Nat.one_lt_two_pow (by omega : j - m ≠ 0))]; simp [h1]
    · rw [if_neg hq, Nat.add_zero, wordOf_testBit q m j]
      by_cases e : j = m
      · subst e; simp at hq; simp [hq]
      · by_cases h : j < m
        · simp [h, show j < m + 1 by omega]
        · simp [h, show ¬ j < m + 1 by omega]
/-- words with these bits -/
def pack (p : Nat → Bool) (len : Nat) : List Nat := (List.range len).map fun w => wordOf (fun j => p (64 * w + j)) 64
theorem pack_length (p : Nat → Bool) (len : Nat) : (pack p len).length = len := by simp [pack]
theorem pack_getD (p : Nat → Bool) (len k : Nat) (hk : k < len) : (pack p len).getD k 0 = wordOf (fun j => p (64 * k + j)) 64 := by
  simp [pack, List.getD_eq_getElem?_getD, hk]
theorem pack_lt (p : Nat → Bool) (len : Nat) : ∀ x ∈ pack p len, x < 18446744073709551616 := by
  intro x hx
  simp only [pack, List.mem_map] at hx
  obtain ⟨_, _, rfl⟩ := hx
  exact wordOf_lt _ 64
theorem pack_bat (p : Nat → Bool) (len i : Nat) (hi : i < 64 * len) : bat (pack p len) i = p i := by
  unfold bat
  rw [pack_getD _ _ _ (by omega), wordOf_testBit]
  simp only [show i % 64 < 64 by omega, decide_true, Bool.true_and]
  congr 1; omega
theorem bat_out (ws : List Nat) (i : Nat) (h : 64 * ws.length ≤ i) : bat ws i = false := by
  unfold bat
  rw [List.getD_eq_getElem?_getD, List.getElem?_eq_none (by omega)]; simp
theorem pack_unique {L : List Nat} {p : Nat → Bool} {len : Nat} (hl : L.length = len) (hw : ∀ x ∈ L, x < 18446744073709551616) (h : ∀ i, i < 64 * len → bat L i = p i) : L = pack p len := by
  apply List.ext_getElem?
  intro k
  by_cases hk : k < len
  · have e1 : L[k]? = some (L.getD k 0) := by rw [List.getD_eq_getElem?_getD, List.getElem?_eq_getElem (by omega)]; rfl
    have e2 : (pack p len)[k]? = some ((pack p len).getD k 0) := by rw [List.getD_eq_getElem?_getD, List.getElem?_eq_getElem (by rw [pack_length]; exact hk)]; rfl
    rw [e1, e2]
    congr 1
    apply Nat.eq_of_testBit_eq
    intro j
    by_cases hj : j < 64
    · have a1 := bat_at L k j hj
      have a2 := bat_at (pack p len) k j hj
      rw [← a1, ← a2, h _ (by omega), pack_bat _ _ _ (by omega)]
    · have hb : (64 : Nat) ≤ j := by omega
      have t : ∀ x, x < 18446744073709551616 → Nat.testBit x j = false := fun x hx => Nat.testBit_lt_two_pow (Nat.lt_of_lt_of_le hx (by have := Nat.pow_le_pow_right (n := 2) (by decide) hb; simpa using this))
      rw [t _ (getD_lt hw (by decide) k), t _ (getD_lt (pack_lt p len) (by decide) k)]
  · rw [List.getElem?_eq_none (by omega), List.getElem?_eq_none (by rw [pack_length]; omega)]
theorem pack_congr {p q : Nat → Bool} {len : Nat} (h : ∀ i, i < 64 * len → p i = q i) : pack p len = pack q len :=
  pack_unique (pack_length _ _) (pack_lt _ _) fun i hi => by rw [pack_bat _ _ _ hi, h i hi]

theorem bat_set {L : List Nat} {k v : Nat} (hk : k < L.length) (i : Nat) : bat (L.set k v) i = if i / 64 = k then v.testBit (i % 64) else bat L i := by
  unfold bat
  rw [List.getD_eq_getElem?_getD, List.getElem?_set]
  by_cases h : k = i / 64
  · rw [if_pos h, if_pos (by omega), if_pos h.symm]; rfl
  · rw [if_neg h, if_neg (fun e => h e.symm), List.getD_eq_getElem?_getD]
theorem set_lt {L : List Nat} {k v B : Nat} (hw : ∀ x ∈ L, x < B) (hv : v < B) : ∀ x ∈ L.set k v, x < B := by
  intro x hx
  rcases List.mem_or_eq_of_mem_set hx with h | h
  · exact hw x h
  · rw [h]; exact hv

/-- what fill makes of the bits -/
def filled (p : Nat → Bool) (f t : Nat) (on : Bool) (i : Nat) : Bool := if f ≤ i ∧ i < t then on else p i
/-- one round of fill -/
theorem fill_step (p : Nat → Bool) {f t k len : Nat} (on : Bool) (h : 64 * k < t) (hf : f / 64 ≤ k) (hk : k < len) :
    (pack (filled p f (min t (64 * k)) on) len).set k (if on = true then (pack (filled p f (min t (64 * k)) on) len).getD k 0 ||| mk (f - 64 * k) (min 64 (t - 64 * k)) else (pack (filled p f (min t (64 * k)) on) len).getD k 0 &&& (18446744073709551615 - mk (f - 64 * k) (min 64 (t - 64 * k)))) =
    pack (filled p f (min t (64 * (k + 1))) on) len := by
  have hx := getD_lt (pack_lt (filled p f (min t (64 * k)) on) len) (by decide) k
  refine pack_unique (by rw [List.length_set, pack_length]) (set_lt (pack_lt _ _) ?_) fun i hi => ?_
  · split
    · exact Nat.or_lt_two_pow (n := 64) hx (mk_lt _ _)
    · exact Nat.lt_of_le_of_lt Nat.and_le_left hx
  · rw [bat_set (by rw [pack_length]; exact hk)]
    by_cases hik : i / 64 = k
    · rw [if_pos hik]
      have e := bat_at (pack (filled p f (min t (64 * k)) on) len) k (i % 64) (by omega)
      rw [show 64 * k + i % 64 = i by omega, pack_bat _ _ _ hi] at e
      have e' : filled p f (min t (64 * k)) on i = p i := by unfold filled; rw [if_neg (by omega)]
      rw [e'] at e
      cases on
      · rw [if_neg (by simp), Nat.testBit_and, ← e, flip_testBit (mk_lt _ _), mk_testBit (by omega) (by omega)]
        unfold filled
        by_cases c : f ≤ i ∧ i < min t (64 * (k + 1))
        · rw [if_pos c]; simp [show f - 64 * k ≤ i % 64 by omega, show i % 64 < min 64 (t - 64 * k) by omega]
        · rw [if_neg c]
          by_cases c1 : f - 64 * k ≤ i % 64
          · have : ¬ i % 64 < min 64 (t - 64 * k) := by omega
            simp [this, show i % 64 < 64 by omega]
          · simp [c1, show i % 64 < 64 by omega]
      · rw [if_pos rfl, Nat.testBit_or, ← e, mk_testBit (by omega) (by omega)]
        unfold filled
        by_cases c : f ≤ i ∧ i < min t (64 * (k + 1))
        · rw [if_pos c]; simp [show f - 64 * k ≤ i % 64 by omega, show i % 64 < min 64 (t - 64 * k) by omega]
        · rw [if_neg c]
          by_cases c1 : f - 64 * k ≤ i % 64
          · have : ¬ i % 64 < min 64 (t - 64 * k) := by omega
            simp [this]
          · simp [c1]
    · rw [if_neg hik, pack_bat _ _ _ hi]
      unfold filled
      by_cases c : f ≤ i ∧ i < min t (64 * k)
      · rw [if_pos c, if_pos (by omega)]
      · rw [if_neg c, if_neg (by omega)]
theorem fill_start (ws : List Nat) (hw : ∀ x ∈ ws, x < 18446744073709551616) (f t : Nat) (on : Bool) : ws = pack (filled (bat ws) f (min t (64 * (f / 64))) on) ws.length :=
  pack_unique rfl hw fun i _ => by unfold filled; rw [if_neg (by omega)]
theorem fill_end (p : Nat → Bool) {f t k : Nat} (on : Bool) (len : Nat) (h : t ≤ 64 * k) : pack (filled p f (min t (64 * k)) on) len = pack (filled p f t on) len := by rw [show min t (64 * k) = t by omega]
end Go.Proofs.YtfmclbacoffdaaaDoor
