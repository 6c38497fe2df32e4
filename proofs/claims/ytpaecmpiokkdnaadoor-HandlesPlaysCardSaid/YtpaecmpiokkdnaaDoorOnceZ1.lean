/- General lemmas: worlds behind calls that only make memory; slices that read as lists; one plain statement each. | Plain facts on words and bits: no program. | Package bits: words, Check: what they return. | Plain facts: masks, counting, the number of set bits of a word by halves. No program. | Package bits: mask. math/bits: OnesCount64. What they return. | Package bits: count. | Plain facts: the first set bit; searching. No program. | Package bits: part, Count; math/bits: TrailingZeros64; word, next, Next. | math/bits: TrailingZeros64; package bits: word, next, Next. | Package bits: next, Next. | Plain facts: bits packed into words. No program. | Package bits: fill. | slices.Clone of words; package bits: New, Set. | Package bits: New. | Package bits: Set. | Handles: slots as lists; tables in memory; what a method leaves alone. | Handles: new slots. | Handles: what Next finds. | Handles: Slot, of the program and of the reference. -/
import Derived.Test.YtpaecmpiokkdnaaDoorProg
import Derived.WalkKit
import Derived.WalkSpells
import Derived.WalkLawsBesides
import Derived.Deep.QuietTactic
import Derived.BigQuiet
import Derived.Lib.Hide
import Derived.Lib.QuietBelow
import Derived.PlainAid
import Derived.Lib.TrailingZeros
import Derived.Lib.SmallJoins
import Derived.Deep.OwnRows
import Derived.OneCell
import Derived.Deep.RegionHeld3
import Derived.Deep.DeepCutAuto
namespace Go.Proofs.YtpaecmpiokkdnaaDoor
open Go.RowKit Go.Sort

/-- A cell of a block that is not old: kept behind a name. -/
def farCell (d : Nat) (os : Array Obj) (W : World) (a : Addr) : Option Value := (grow (redrawn W d) os).cell? a
def farFrozen (d : Nat) (os : Array Obj) (W : World) (a : Addr) : Bool := (grow (redrawn W d) os).frozen? a
theorem below_grow (W : World) (d : Nat) (os : Array Obj) : Below W.heap.size W (grow (redrawn W d) os) := below_regrown W d os
theorem cell_grow (W : World) (d : Nat) (os : Array Obj) (b o : Nat) (s : Option Nat) :
    (grow (redrawn W d) os).cell? ⟨b, o, s⟩ = if b < W.heap.size then W.cell? ⟨b, o, s⟩ else farCell d os W ⟨b, o, s⟩ := by
  split
  · rename_i h; exact (below_regrown W d os).cell (p := ⟨b, o, s⟩) h
  · rfl
theorem frozen_grow (W : World) (d : Nat) (os : Array Obj) (b o : Nat) (s : Option Nat) :
    (grow (redrawn W d) os).frozen? ⟨b, o, s⟩ = if b < W.heap.size then W.frozen? ⟨b, o, s⟩ else farFrozen d os W ⟨b, o, s⟩ := by
  split
  · rename_i h; exact (below_regrown W d os).frozen (p := ⟨b, o, s⟩) h
  · rfl
theorem size_grow (W : World) (d : Nat) (os : Array Obj) : (grow (redrawn W d) os).heap.size = W.heap.size + os.size := by
  simp [grow, redrawn]
attribute [local go_sem] cell_grow frozen_grow size_grow

theorem Below.size_le {B : Nat} {w w' : World} (h : Below B w w') : w.heap.size ≤ w'.heap.size := h.size
theorem below_tr {a b c : World} (h : Below a.heap.size a b) (k : Below b.heap.size b c) : Below a.heap.size a c := h.trans (k.mono h.size)

/-- a post that speaks of worlds that only grew -/
theorem Calls.grown_of {P : Program} {f : FuncId} {args : Array Value} {w W : World} {v : Value} (hW : Below w.heap.size w W)
    (h : Calls P f args W fun e w' => e = .returned v ∧ Below W.heap.size W w') : Calls P f args W fun e w' => e = .returned v ∧ Below w.heap.size w w' :=
  h.mono fun _ _ ⟨he, hb⟩ => ⟨he, below_tr hW hb⟩

/-- A slice of words. -/
structure SlK (k : IntKind) (w : World) (a : Option Addr) (len : Nat) (ws : List Nat) : Prop where
  length : ws.length = len
  cells : len = 0 ∨ ∃ b off, a = some ⟨b, off, none⟩ ∧ ∀ j, j < len → w.cell? ⟨b, off + j, none⟩ = some (.int k (ws.getD j 0 : Nat))

theorem SlK.below {k : IntKind} {w w' : World} {a : Option Addr} {len : Nat} {ws : List Nat} (h : SlK k w a len ws) (hb : Below w.heap.size w w') : SlK k w' a len ws := by
  refine ⟨h.length, ?_⟩
  rcases h.cells with h0 | ⟨b, off, ha, hc⟩
  · exact .inl h0
  · refine .inr ⟨b, off, ha, fun j hj => ?_⟩
    have := hc j hj
    rw [hb.cell (p := ⟨b, off + j, none⟩) (World.block_lt_of_cell? _ _ this)]; exact this
theorem SlK.alloc {k : IntKind} {w : World} {a : Option Addr} {len : Nat} {ws : List Nat} (h : SlK k w a len ws) (o : Obj) : SlK k (w.alloc o) a len ws :=
  h.below ((Below.refl _ _).alloc (Nat.le_refl _) o)
theorem SlK.grow {k : IntKind} {w : World} {a : Option Addr} {len : Nat} {ws : List Nat} (h : SlK k w a len ws) (d : Nat) (os : Array Obj) : SlK k (grow (redrawn w d) os) a len ws :=
  h.below (below_regrown w d os)

end Go.Proofs.YtpaecmpiokkdnaaDoor

namespace Go.Proofs.YtpaecmpiokkdnaaDoor

/-- the bit i of a list of words -/
def bat (ws : List Nat) (i : Nat) : Bool := (ws.getD (i / 64) 0).testBit (i % 64)

/-- the answer of Check -/
def chk (N : Int) (ws : List Nat) : Int :=
  if N < 0 ∨ 4096 < N then 7 else if (ws.length : Int) ≠ (N + 63) / 64 then 6
  else if ∀ i, i < 64 * ws.length → N.toNat ≤ i → bat ws i = false then 0 else 6

theorem chk_range {N : Int} {ws : List Nat} (h : N < 0 ∨ 4096 < N) : chk N ws = 7 := by unfold chk; rw [if_pos h]
theorem chk_len {N : Int} {ws : List Nat} (h : ¬ (N < 0 ∨ 4096 < N)) (h2 : (ws.length : Int) ≠ (N + 63) / 64) : chk N ws = 6 := by
  unfold chk; rw [if_neg h, if_pos h2]
theorem chk_ok {N : Int} {ws : List Nat} (h : ¬ (N < 0 ∨ 4096 < N)) (h2 : (ws.length : Int) = (N + 63) / 64) (h3 : ∀ i, i < 64 * ws.length → N.toNat ≤ i → bat ws i = false) : chk N ws = 0 := by
  unfold chk; rw [if_neg h, if_neg (by simpa using h2), if_pos h3]
theorem chk_bad {N : Int} {ws : List Nat} (h : ¬ (N < 0 ∨ 4096 < N)) (h2 : (ws.length : Int) = (N + 63) / 64) (i : Nat) (hi : i < 64 * ws.length) (hn : N.toNat ≤ i) (hb : bat ws i = true) : chk N ws = 6 := by
  unfold chk; rw [if_neg h, if_neg (by simpa using h2), if_neg]
  intro h3; rw [h3 i hi hn] at hb; cases hb

theorem getD_lt {ws : List Nat} {B : Nat} (h : ∀ x ∈ ws, x < B) (hB : 0 < B) (i : Nat) : ws.getD i 0 < B := by
  by_cases hi : i < ws.length
  · rw [List.getD_eq_getElem?_getD, List.getElem?_eq_getElem hi]; exact h _ (List.getElem_mem hi)
  · rw [List.getD_eq_getElem?_getD, List.getElem?_eq_none (by omega)]; exact hB

/-- The test that Check makes of the last word. -/
theorem chk_word0 {n : Nat} {ws : List Nat} (hn : n ≤ 4096) (hl : (ws.length : Int) = ((n : Int) + 63) / 64) (h64 : n % 64 = 0) : chk n ws = 0 := by
  refine chk_ok (by omega) hl fun i hi hni => ?_
  have : ws.length = n / 64 := by omega
  omega
theorem chk_word {n : Nat} {ws : List Nat} (hn : n ≤ 4096) (hl : (ws.length : Int) = ((n : Int) + 63) / 64) (h64 : 0 < n % 64) (hw : ∀ x ∈ ws, x < 2 ^ 64) :
    chk n ws = if ws.getD (n / 64) 0 / 2 ^ (n % 64) = 0 then 0 else 6 := by
  have hlen : ws.length = n / 64 + 1 := by omega
  split
  · rename_i h0
    refine chk_ok (by omega) hl fun i hi hni => ?_
    have e : i / 64 = n / 64 := by omega
    unfold bat
    rw [e]
    have hlt : ws.getD (n / 64) 0 < 2 ^ (n % 64) := by
      rcases Nat.div_eq_zero_iff.1 h0 with h | h
      · exact absurd h (by have := Nat.two_pow_pos (n % 64); omega)
      · exact h
    refine Nat.testBit_lt_two_pow (Nat.lt_of_lt_of_le hlt (Nat.pow_le_pow_right (by decide) ?_))
    omega
  · rename_i h0
    have hx := getD_lt hw (by decide) (n / 64)
    have hne : ws.getD (n / 64) 0 / 2 ^ (n % 64) ≠ 0 := h0
    obtain ⟨j, hj⟩ := Nat.exists_testBit_of_ne_zero hne
    rw [Nat.testBit_div_two_pow] at hj
    have hj64 : j + n % 64 < 64 := by
      rcases Nat.lt_or_ge (j + n % 64) 64 with h | h
      · exact h
      · have := Nat.testBit_lt_two_pow (Nat.lt_of_lt_of_le hx (Nat.pow_le_pow_right (by decide) h))
        rw [this] at hj; cases hj
    refine chk_bad (by omega) hl (64 * (n / 64) + (j + n % 64)) (by omega) (by omega) ?_
    unfold bat
    rw [show (64 * (n / 64) + (j + n % 64)) / 64 = n / 64 by omega, show (64 * (n / 64) + (j + n % 64)) % 64 = j + n % 64 by omega]
    exact hj
end Go.Proofs.YtpaecmpiokkdnaaDoor

namespace Go.Proofs.YtpaecmpiokkdnaaDoor
open Go.RowKit Go.Sort
attribute [local go_sem] cell_grow frozen_grow size_grow

theorem words_ok (n : Int) (w : World) (h0 : 0 ≤ n) (h1 : n ≤ 100000) :
    Calls Tryd.prog 76 #[.int .i64 n] w fun e w' => e = .returned (.int .i64 ((n + 63) / 64)) ∧ w = w' := by
  go_enter Tryd.func76, Tryd.ntmps76
  go_wp2
  go_ret
  exact ⟨rfl, rfl⟩

theorem words_quiet (n : Int) (w : World) (k : Nat) (h0 : 0 ≤ n) (h1 : n ≤ 100000) :
    Calls Tryd.prog 76 #[.int .i64 n] (w.drewN k) fun e w' => e = .returned (.int .i64 ((n + 63) / 64)) ∧ ∃ m, w' = w.drewN m :=
  Calls.quiet_of_same ((words_ok n _ h0 h1).mono fun _ _ h => ⟨h.1, h.2.symm⟩)

theorem below_box (w : World) (o : Obj) (k : Nat) : Below w.heap.size w ((w.alloc o).drewN k) := by
  have := (Below.refl w.heap.size w).alloc (Nat.le_refl _) o
  exact ⟨this.os, this.tape, this.output, this.size, this.block⟩
theorem below_box0 (w : World) (o : Obj) : Below w.heap.size w (w.alloc o) := (Below.refl _ _).alloc (Nat.le_refl _) o

theorem ret_i64 {a b : Int} (h : a = b) : Ending.returned (.int .i64 a) = .returned (.int .i64 b) := by rw [h]

theorem shr_yes {ws : List Nat} {i k : Nat} (h : ((ws[i]?.getD 0 : Nat) / 2 ^ k != (0 : Int)) = true) : ¬ ws.getD i 0 / 2 ^ k = 0 := by
  rw [List.getD_eq_getElem?_getD]
  intro h0
  have e : ((ws[i]?.getD 0 : Nat) : Int) / 2 ^ k = ((ws[i]?.getD 0 / 2 ^ k : Nat) : Int) := by simp
  rw [e, h0] at h; simp at h
theorem shr_no {ws : List Nat} {i k : Nat} (h : ((ws[i]?.getD 0 : Nat) / 2 ^ k != (0 : Int)) = false) : ws.getD i 0 / 2 ^ k = 0 := by
  rw [List.getD_eq_getElem?_getD]
  have e : ((ws[i]?.getD 0 : Nat) : Int) / 2 ^ k = ((ws[i]?.getD 0 / 2 ^ k : Nat) : Int) := by simp
  rw [e] at h; simp only [bne_eq_false_iff_eq] at h; exact_mod_cast h

set_option maxHeartbeats 400000 in
/-- bits.Check, whatever bits it is handed. -/
theorem bCheck_ok (N : Int) (a : Option Addr) (len cap : Nat) (ws : List Nat) (w : World) (hs : SlK .u64 w a len ws) (hw : ∀ x ∈ ws, x < 2 ^ 64) (hlen : len ≤ 9223372036854775807) :
    Calls Tryd.prog 83 #[.agg #[.int .i64 N, .slice a len cap]] w fun e w' => e = .returned (.int .i64 (chk N ws)) ∧ Below w.heap.size w w' := by
  have hL := hs.length
  by_cases h1 : N < 0
  · go_enter Tryd.func83, Tryd.ntmps83
    go_wp2
    go_ret
    exact ⟨ret_i64 (chk_range (.inl h1)).symm, below_box0 _ _⟩
  by_cases h2 : 4096 < N
  · go_enter Tryd.func83, Tryd.ntmps83
    go_wp2
    go_ret
    exact ⟨ret_i64 (chk_range (.inr h2)).symm, below_box0 _ _⟩
  obtain ⟨n, rfl⟩ := Int.eq_ofNat_of_zero_le (by omega : 0 ≤ N)
  have hr : ¬ ((n : Int) < 0 ∨ 4096 < (n : Int)) := by omega
  by_cases h3 : (len : Int) = ((n : Int) + 63) / 64
  · have hb : ((len : Int) != ((n : Int) + 63) / 64) = false := by simpa using h3
    by_cases h4 : n % 64 = 0
    · have R := Lib.hid (chk_word0 (by omega) (by rw [hL]; exact h3) h4 : chk n ws = 0)
      have hd : decide (0 < (n : Int) % 64) = false := by simp; omega
      clear hs hL h3 hr
      go_enter Tryd.func83, Tryd.ntmps83
      go_wp2
      go_quiet ((go_at_call 76; exact words_quiet _ _ _ (by omega) (by omega)))
      go_wp2
      go_ret
      exact ⟨ret_i64 R.out.symm, below_box _ _ _⟩
    · have R := Lib.hid (chk_word (by omega) (by rw [hL]; exact h3) (by omega) hw : chk n ws = _)
      have hd : decide (0 < (n : Int) % 64) = true := by simp; omega
      have hlt : n / 64 < len := by omega
      obtain ⟨b, off, rfl, hc⟩ := hs.cells.resolve_left (by omega)
      have hbl := World.block_lt_of_cell? _ _ (hc _ hlt)
      have hck := hc (n / 64) hlt
      have i0 : (0 : Int) ≤ (n : Int) / 64 := by omega
      have i1 : (n : Int) / 64 < (len : Int) := by omega
      clear hs hL h3 hr hc
      go_enter Tryd.func83, Tryd.ntmps83
      go_wp2
      go_quiet ((go_at_call 76; exact words_quiet _ _ _ (by omega) (by omega)))
      go_wp2
      · have ht : ((ws[n / 64]?.getD 0 : Nat) / 2 ^ (n % 64) != (0 : Int)) = true := by assumption
        go_ret
        exact ⟨ret_i64 (R.out.trans (if_neg (shr_yes ht))).symm, below_box _ _ _⟩
      · have ht : ((ws[n / 64]?.getD 0 : Nat) / 2 ^ (n % 64) != (0 : Int)) = false := by assumption
        go_ret
        exact ⟨ret_i64 (R.out.trans (if_pos (shr_no ht))).symm, below_box _ _ _⟩
  · have hb : ((len : Int) != ((n : Int) + 63) / 64) = true := by simpa using h3
    have R := Lib.hid (chk_len hr (by rw [hL]; exact h3) : chk n ws = 6)
    clear hs hL h3 hr
    go_enter Tryd.func83, Tryd.ntmps83
    go_wp2
    go_quiet ((go_at_call 76; exact words_quiet _ _ _ (by omega) (by omega)))
    go_wp2
    go_ret
    exact ⟨ret_i64 R.out.symm, below_box _ _ _⟩
end Go.Proofs.YtpaecmpiokkdnaaDoor

namespace Go.Proofs.YtpaecmpiokkdnaaDoor

/-- how many i with a ≤ i < b hold -/
def cnt (p : Nat → Bool) (a : Nat) : Nat → Nat
  | 0 => 0
  | b + 1 => cnt p a b + (if a ≤ b ∧ p b = true then 1 else 0)

theorem cnt_congr {p q : Nat → Bool} {a a' : Nat} : ∀ (b : Nat), (∀ i, i < b → ((a ≤ i ∧ p i = true) ↔ (a' ≤ i ∧ q i = true))) → cnt p a b = cnt q a' b
  | 0, _ => rfl
  | b + 1, h => by
    simp only [cnt]
    rw [cnt_congr b fun i hi => h i (by omega)]
    have := h b (by omega)
    simp only [this]
theorem cnt_le (p : Nat → Bool) (a : Nat) : ∀ b, cnt p a b ≤ b
  | 0 => Nat.le_refl _
  | b + 1 => by have := cnt_le p a b; simp only [cnt]; split <;> omega
theorem cnt_sub_le (p : Nat → Bool) (a : Nat) : ∀ b, cnt p a b ≤ b - a
  | 0 => by simp [cnt]
  | b + 1 => by have := cnt_sub_le p a b; simp only [cnt]; split <;> omega
theorem cnt_add (p : Nat → Bool) (a b : Nat) : ∀ m, cnt p a (b + m) = cnt p a b + cnt (fun j => p (b + j) && decide (a ≤ b + j)) 0 m
  | 0 => rfl
  | m + 1 => by
    rw [← Nat.add_assoc]
    simp only [cnt, cnt_add p a b m]
    by_cases h : a ≤ b + m <;> by_cases h' : p (b + m) = true <;> simp [h, h'] <;> omega
theorem cnt_none {p : Nat → Bool} {a : Nat} : ∀ (b : Nat), (∀ i, i < b → a ≤ i → p i = false) → cnt p a b = 0
  | 0, _ => rfl
  | b + 1, h => by
    simp only [cnt, cnt_none b fun i hi => h i (by omega)]
    rw [if_neg]
    rintro ⟨h1, h2⟩
    rw [h b (by omega) h1] at h2; cases h2
theorem cnt_cut {p : Nat → Bool} {a b : Nat} (c : Nat) (hc : b ≤ c) (h : ∀ i, b ≤ i → i < c → p i = false) : cnt p a c = cnt p a b := by
  obtain ⟨m, rfl⟩ := Nat.exists_eq_add_of_le hc
  rw [cnt_add, cnt_none (p := fun j => p (b + j) && decide (a ≤ b + j)) m, Nat.add_zero]
  intro i hi _
  simp [h (b + i) (by omega) (by omega)]
theorem cnt_zero {p : Nat → Bool} {a b : Nat} (h : b ≤ a) : cnt p a b = 0 := by
  have := cnt_sub_le p a b; omega
theorem cnt_eq_zero {p : Nat → Bool} {a : Nat} : ∀ {b : Nat}, cnt p a b = 0 → ∀ i, a ≤ i → i < b → p i = false
  | 0, _, _, _, hi => by omega
  | b + 1, h, i, ha, hi => by
    simp only [cnt] at h
    by_cases e : i = b
    · subst e
      cases hp : p i with
      | false => rfl
      | true => rw [if_pos ⟨ha, hp⟩] at h; omega
    · exact cnt_eq_zero (b := b) (by omega) i ha (by omega)

/-- the word with the bits from f on, below t -/
def mk (f t : Nat) : Nat := (18446744073709551615 * 2 ^ f % 18446744073709551616) &&& (18446744073709551615 / 2 ^ (64 - t))

theorem ones_testBit (i : Nat) : Nat.testBit 18446744073709551615 i = decide (i < 64) := by
  have : (18446744073709551615 : Nat) = 2 ^ 64 - 1 := by decide
  rw [this, Nat.testBit_two_pow_sub_one]
theorem mk_testBit {f t : Nat} (hf : f ≤ 64) (ht : t ≤ 64) (i : Nat) : (mk f t).testBit i = (decide (f ≤ i) && decide (i < t)) := by
  unfold mk
  rw [Nat.testBit_and, show (18446744073709551616 : Nat) = 2 ^ 64 by decide, Nat.testBit_mod_two_pow, Nat.mul_comm, Nat.testBit_two_pow_mul, Nat.testBit_div_two_pow, ones_testBit, ones_testBit]
  by_cases h1 : i < 64 <;> by_cases h2 : f ≤ i <;> by_cases h3 : i < t <;> simp [h1, h2, h3] <;> omega
theorem mk_lt (f t : Nat) : mk f t < 2 ^ 64 := by
  unfold mk
  refine Nat.lt_of_le_of_lt Nat.and_le_left ?_
  exact Nat.mod_lt _ (by decide)

/-- how many bits of a word are set -/
def pop (x : Nat) : Nat := cnt x.testBit 0 64
theorem pop_le (x : Nat) : pop x ≤ 64 := cnt_le _ _ _

theorem bat_at (ws : List Nat) (k j : Nat) (hj : j < 64) : bat ws (64 * k + j) = (ws.getD k 0).testBit j := by
  unfold bat
  rw [show (64 * k + j) / 64 = k by omega, show (64 * k + j) % 64 = j by omega]
theorem pop_mask {x f t : Nat} (hf : f ≤ 64) (ht : t ≤ 64) : pop (x &&& mk f t) = cnt (fun j => x.testBit j && decide (f ≤ j)) 0 t := by
  unfold pop
  rw [cnt_cut (b := t) 64 ht]
  · refine cnt_congr t fun i hi => ?_
    rw [Nat.testBit_and, mk_testBit hf ht]
    simp [hi]
  · intro i h1 h2
    rw [Nat.testBit_and, mk_testBit hf ht]
    simp; omega
theorem count_step (ws : List Nat) {f t k : Nat} (h : 64 * k < t) (hf : f / 64 ≤ k) :
    cnt (bat ws) f (min t (64 * (k + 1))) = cnt (bat ws) f (min t (64 * k)) + pop (ws.getD k 0 &&& mk (f - 64 * k) (min 64 (t - 64 * k))) := by
  rw [pop_mask (by omega) (by omega), show min t (64 * (k + 1)) = 64 * k + min 64 (t - 64 * k) by omega, cnt_add, show min t (64 * k) = 64 * k by omega]
  congr 1
  refine cnt_congr _ fun j hj => ?_
  rw [bat_at _ _ _ (by omega)]
  simp only [Bool.and_eq_true, decide_eq_true_eq]
  constructor <;> rintro ⟨h1, h2, h3⟩ <;> exact ⟨h1, h2, by omega⟩

/-! ### The number of set bits, by halves -/
def rep (c : Nat) : Nat → Nat
  | 0 => 0
  | n + 1 => rep c n * 256 + c
theorem and_split {b d : Nat} (a c : Nat) (hb : b < 256) (hd : d < 256) : (a * 256 + b) &&& (c * 256 + d) = (a &&& c) * 256 + (b &&& d) := by
  have hbd : b &&& d < 256 := Nat.lt_of_le_of_lt Nat.and_le_left hb
  rw [Nat.mul_comm a, Nat.mul_comm c, Nat.mul_comm (a &&& c), show (256 : Nat) = 2 ^ 8 from rfl]
  apply Nat.eq_of_testBit_eq
  intro i
  rw [Nat.testBit_and, Nat.testBit_two_pow_mul_add _ hb, Nat.testBit_two_pow_mul_add _ hd, Nat.testBit_two_pow_mul_add _ hbd]
  split <;> simp [Nat.testBit_and]
theorem rep_succ (c n : Nat) : rep c (n + 1) = rep c n * 256 + c := rfl
def s1 (n x : Nat) : Nat := ((x / 2) &&& rep 0x55 n) + (x &&& rep 0x55 n)
def s2 (n x : Nat) : Nat := ((x / 4) &&& rep 0x33 n) + (x &&& rep 0x33 n)
def s3 (n x : Nat) : Nat := (x / 16 + x) &&& rep 0x0f n
def g1 (b : Nat) : Nat := ((b / 2) &&& 0x55) + (b &&& 0x55)
def g2 (b : Nat) : Nat := ((b / 4) &&& 0x33) + (b &&& 0x33)
theorem g1_lt : ∀ b : Fin 256, g1 b.val < 256 := by decide +kernel
theorem g2_lt : ∀ b : Fin 256, g2 b.val < 256 := by decide +kernel
theorem c1 : ∀ b : Fin 256, ∀ t : Fin 2, (t.val * 128 + b.val / 2) &&& 0x55 = (b.val / 2) &&& 0x55 := by decide +kernel
theorem c2 : ∀ b : Fin 256, ∀ t : Fin 4, (t.val * 64 + b.val / 4) &&& 0x33 = (b.val / 4) &&& 0x33 := by decide +kernel
theorem s1_split (n a b : Nat) (hb : b < 256) : s1 (n + 1) (a * 256 + b) = s1 n a * 256 + g1 b := by
  unfold s1 g1
  rw [rep_succ]
  have e : (a * 256 + b) / 2 = (a / 2) * 256 + ((a % 2) * 128 + b / 2) := by omega
  rw [e, and_split _ _ (by omega) (by decide), and_split _ _ hb (by decide)]
  have := c1 ⟨b, hb⟩ ⟨a % 2, by omega⟩
  simp only at this
  rw [this]; omega
theorem s2_split (n a b : Nat) (hb : b < 256) : s2 (n + 1) (a * 256 + b) = s2 n a * 256 + g2 b := by
  unfold s2 g2
  rw [rep_succ]
  have e : (a * 256 + b) / 4 = (a / 4) * 256 + ((a % 4) * 64 + b / 4) := by omega
  rw [e, and_split _ _ (by omega) (by decide), and_split _ _ hb (by decide)]
  have := c2 ⟨b, hb⟩ ⟨a % 4, by omega⟩
  simp only at this
  rw [this]; omega
def g3 (b : Nat) : Nat := (b / 16 + b) % 16
theorem c3 : ∀ b : Fin 256, ∀ t : Fin 16, t.val ≤ 4 → b.val ≤ 68 → (t.val * 16 + b.val / 16 + b.val) &&& 0x0f = (b.val / 16 + b.val) % 16 := by decide +kernel
/-- each nibble is at most 4 -/
def Low : Nat → Nat → Prop
  | 0, x => x = 0
  | n + 1, x => x % 16 ≤ 4 ∧ x % 256 ≤ 68 ∧ Low n (x / 256)
theorem s3_split (n a b : Nat) (hb : b ≤ 68) (ha : a % 16 ≤ 4) : s3 (n + 1) (a * 256 + b) = s3 n a * 256 + g3 b := by
  unfold s3 g3
  rw [rep_succ]
  have e : (a * 256 + b) / 16 + (a * 256 + b) = (a / 16 + a) * 256 + ((a % 16) * 16 + b / 16 + b) := by omega
  rw [e, and_split _ _ (by omega) (by decide)]
  have := c3 ⟨b, by omega⟩ ⟨a % 16, by omega⟩ ha hb
  simp only at this
  rw [this]
def pop8 (b : Nat) : Nat := cnt b.testBit 0 8
theorem g_pop : ∀ b : Fin 256, g3 (g2 (g1 b.val)) = pop8 b.val ∧ g2 (g1 b.val) % 16 ≤ 4 ∧ g2 (g1 b.val) ≤ 68 := by decide +kernel
theorem pop_split (m a b : Nat) (hb : b < 256) : cnt (a * 256 + b).testBit 0 (8 + m) = pop8 b + cnt a.testBit 0 m := by
  rw [cnt_add]
  have h : ∀ i, (a * 256 + b).testBit i = if i < 8 then b.testBit i else a.testBit (i - 8) := fun i => by
    rw [Nat.mul_comm, show (256 : Nat) = 2 ^ 8 from rfl, Nat.testBit_two_pow_mul_add _ hb]
  congr 1
  · exact cnt_congr 8 fun i hi => by rw [h, if_pos hi]
  · refine cnt_congr m fun i hi => ?_
    simp only [h]
    rw [if_neg (by omega)]
    simp
/-- the first three steps, byte by byte -/
theorem steps (n : Nat) : ∀ x, x < 256 ^ n → ∃ z, s3 n (s2 n (s1 n x)) = z ∧ Low n (s2 n (s1 n x)) ∧ (∀ m, n = m + 1 → z = s3 m (s2 m (s1 m (x / 256))) * 256 + pop8 (x % 256)) := by
  induction n with
  | zero =>
    intro x hx
    refine ⟨_, rfl, ?_, fun m hm => by omega⟩
    have : x = 0 := by simpa using hx
    subst this; exact (show s2 0 (s1 0 0) = 0 by decide)
  | succ n ih =>
    intro x hx
    have hb : x % 256 < 256 := Nat.mod_lt _ (by decide)
    obtain ⟨g, hg1, hg2⟩ := g_pop ⟨x % 256, hb⟩
    simp only at g hg1 hg2
    have l1 := g1_lt ⟨x % 256, hb⟩
    have l2 := g2_lt ⟨g1 (x % 256), l1⟩
    simp only at l1 l2
    have ex : x = (x / 256) * 256 + x % 256 := by omega
    have hxa : x / 256 < 256 ^ n := by rw [Nat.pow_succ] at hx; omega
    obtain ⟨_, _, hL, _⟩ := ih (x / 256) hxa
    have e1 : s1 (n + 1) x = s1 n (x / 256) * 256 + g1 (x % 256) := by
      conv => lhs; rw [ex]
      exact s1_split n _ _ hb
    have e2 : s2 (n + 1) (s1 (n + 1) x) = s2 n (s1 n (x / 256)) * 256 + g2 (g1 (x % 256)) := by rw [e1]; exact s2_split n _ _ l1
    have hlow : s2 n (s1 n (x / 256)) % 16 ≤ 4 := by
      cases n with
      | zero => have : s2 0 (s1 0 (x / 256)) = 0 := hL; omega
      | succ m => exact hL.1
    have e3 : s3 (n + 1) (s2 (n + 1) (s1 (n + 1) x)) = s3 n (s2 n (s1 n (x / 256))) * 256 + g3 (g2 (g1 (x % 256))) := by rw [e2]; exact s3_split n _ _ hg2 hlow
    refine ⟨_, rfl, ?_, fun m hm => ?_⟩
    · rw [e2]
      refine ⟨by omega, by omega, ?_⟩
      rw [show (s2 n (s1 n (x / 256)) * 256 + g2 (g1 (x % 256))) / 256 = s2 n (s1 n (x / 256)) by omega]
      exact hL
    · obtain rfl : n = m := by omega
      rw [e3, g]
theorem step1 (n x : Nat) (hx : x < 256 ^ (n + 1)) : s3 (n + 1) (s2 (n + 1) (s1 (n + 1) x)) = s3 n (s2 n (s1 n (x / 256))) * 256 + pop8 (x % 256) := by
  obtain ⟨_, rfl, _, h⟩ := steps (n + 1) x hx
  exact h n rfl
theorem pop8_le (b : Nat) : pop8 b ≤ 8 := cnt_le _ _ _
theorem fold8 (z r0 r1 r2 r3 r4 r5 r6 r7 : Nat) (q0 : r0 ≤ 8) (q1 : r1 ≤ 8) (q2 : r2 ≤ 8) (q3 : r3 ≤ 8) (q4 : r4 ≤ 8) (q5 : r5 ≤ 8) (q6 : r6 ≤ 8) (q7 : r7 ≤ 8)
    (hz : z = (((((((0 * 256 + r7) * 256 + r6) * 256 + r5) * 256 + r4) * 256 + r3) * 256 + r2) * 256 + r1) * 256 + r0) : ∃ y v,
    z ≤ 578721382704613384 ∧ y = z + z / 256 ∧ y ≤ 18446744073709551615 ∧ v = y + y / 65536 ∧ v ≤ 18446744073709551615 ∧ v + v / 4294967296 ≤ 9223372036854775807 ∧ (v + v / 4294967296) % 128 = r0 + (r1 + (r2 + (r3 + (r4 + (r5 + (r6 + r7)))))) := by
  have hz' : z = r0 + 256 * r1 + 65536 * r2 + 16777216 * r3 + 4294967296 * r4 + 1099511627776 * r5 + 281474976710656 * r6 + 72057594037927936 * r7 := by omega
  clear hz
  have e1 : z / 256 = r1 + 256 * r2 + 65536 * r3 + 16777216 * r4 + 4294967296 * r5 + 1099511627776 * r6 + 281474976710656 * r7 := by omega
  obtain ⟨y, hy⟩ : ∃ y, y = z + z / 256 := ⟨_, rfl⟩
  have hy' : y = (r0 + r1) + 256 * (r1 + r2) + 65536 * (r2 + r3) + 16777216 * (r3 + r4) + 4294967296 * (r4 + r5) + 1099511627776 * (r5 + r6) + 281474976710656 * (r6 + r7) + 72057594037927936 * r7 := by rw [hy, e1]; omega
  have e2 : y / 65536 = (r2 + r3) + 256 * (r3 + r4) + 65536 * (r4 + r5) + 16777216 * (r5 + r6) + 4294967296 * (r6 + r7) + 1099511627776 * r7 := by clear hy e1 hz'; omega
  obtain ⟨v, hv⟩ : ∃ v, v = y + y / 65536 := ⟨_, rfl⟩
  have hv' : v = (r0 + r1 + r2 + r3) + 256 * (r1 + r2 + r3 + r4) + 65536 * (r2 + r3 + r4 + r5) + 16777216 * (r3 + r4 + r5 + r6) + 4294967296 * (r4 + r5 + r6 + r7) + 1099511627776 * (r5 + r6 + r7) + 281474976710656 * (r6 + r7) + 72057594037927936 * r7 := by
    rw [hv, e2]; clear e1 e2 hy hv hz'; omega
  have e3 : v / 4294967296 = (r4 + r5 + r6 + r7) + 256 * (r5 + r6 + r7) + 65536 * (r6 + r7) + 16777216 * r7 := by clear e1 e2 hy hy' hz' hv; omega
  refine ⟨y, v, ?_, hy, ?_, hv, ?_, ?_, ?_⟩
  · clear hv' hy' hy hv e1 e2 e3; omega
  · clear hv' hz' hy hv e1 e2 e3; omega
  · clear hy' hz' hy hv e1 e2 e3; omega
  · rw [e3]; clear hy' hz' hy hv e1 e2 e3; omega
  · rw [e3]; clear hy' hz' hy hv e1 e2 e3; omega
theorem swar (x : Nat) (hx : x < 18446744073709551616) : ∃ z y v, z = s3 8 (s2 8 (s1 8 x)) ∧ z ≤ 578721382704613384 ∧ y = z + z / 256 ∧ y ≤ 18446744073709551615 ∧ v = y + y / 65536 ∧ v ≤ 18446744073709551615 ∧
    v + v / 4294967296 ≤ 9223372036854775807 ∧ (v + v / 4294967296) % 128 = pop x := by
  have hx8 : x < 256 ^ 8 := by simpa using hx
  have h8 := step1 7 x hx8
  have b7 : x / 256 < 256 ^ 7 := by simp; omega
  have h7 := step1 6 _ b7
  have b6 : x / 256 / 256 < 256 ^ 6 := by simp; omega
  have h6 := step1 5 _ b6
  have b5 : x / 256 / 256 / 256 < 256 ^ 5 := by simp; omega
  have h5 := step1 4 _ b5
  have b4 : x / 256 / 256 / 256 / 256 < 256 ^ 4 := by simp; omega
  have h4 := step1 3 _ b4
  have b3 : x / 256 / 256 / 256 / 256 / 256 < 256 ^ 3 := by simp; omega
  have h3 := step1 2 _ b3
  have b2 : x / 256 / 256 / 256 / 256 / 256 / 256 < 256 ^ 2 := by simp; omega
  have h2 := step1 1 _ b2
  have b1 : x / 256 / 256 / 256 / 256 / 256 / 256 / 256 < 256 ^ 1 := by simp; omega
  have h1 := step1 0 _ b1
  have h0 : s3 0 (s2 0 (s1 0 (x / 256 / 256 / 256 / 256 / 256 / 256 / 256 / 256))) = 0 := by simp [s3, rep]
  rw [h0] at h1
  rw [h1] at h2; rw [h2] at h3; rw [h3] at h4; rw [h4] at h5; rw [h5] at h6; rw [h6] at h7; rw [h7] at h8
  have p8 : pop x = pop8 (x % 256) + (pop8 (x / 256 % 256) + (pop8 (x / 256 / 256 % 256) + (pop8 (x / 256 / 256 / 256 % 256) + (pop8 (x / 256 / 256 / 256 / 256 % 256) + (pop8 (x / 256 / 256 / 256 / 256 / 256 % 256) +
      (pop8 (x / 256 / 256 / 256 / 256 / 256 / 256 % 256) + pop8 (x / 256 / 256 / 256 / 256 / 256 / 256 / 256 % 256))))))) := by
    have key : ∀ (m y : Nat), cnt y.testBit 0 (8 + m) = pop8 (y % 256) + cnt (y / 256).testBit 0 m := fun m y => by
      have := pop_split m (y / 256) (y % 256) (Nat.mod_lt _ (by decide))
      rwa [show y / 256 * 256 + y % 256 = y by omega] at this
    unfold pop
    rw [show 64 = 8 + 56 from rfl, key, show 56 = 8 + 48 from rfl, key, show 48 = 8 + 40 from rfl, key, show 40 = 8 + 32 from rfl, key, show 32 = 8 + 24 from rfl, key, show 24 = 8 + 16 from rfl, key, show 16 = 8 + 8 from rfl, key,
      show 8 = 8 + 0 from rfl, key]
    simp [cnt]
  have q0 := pop8_le (x % 256)
  have q1 := pop8_le (x / 256 % 256)
  have q2 := pop8_le (x / 256 / 256 % 256)
  have q3 := pop8_le (x / 256 / 256 / 256 % 256)
  have q4 := pop8_le (x / 256 / 256 / 256 / 256 % 256)
  have q5 := pop8_le (x / 256 / 256 / 256 / 256 / 256 % 256)
  have q6 := pop8_le (x / 256 / 256 / 256 / 256 / 256 / 256 % 256)
  have q7 := pop8_le (x / 256 / 256 / 256 / 256 / 256 / 256 / 256 % 256)
  obtain ⟨y, v, f1, f2, f3, f4, f5, f6, f7⟩ := fold8 _ _ _ _ _ _ _ _ _ q0 q1 q2 q3 q4 q5 q6 q7 h8
  exact ⟨_, y, v, rfl, f1, f2, f3, f4, f5, f6, f7.trans p8.symm⟩
theorem swar_s1 (x : Nat) : s1 8 x = ((x / 2) &&& 6148914691236517205) + (x &&& 6148914691236517205) := rfl
theorem swar_s2 (x : Nat) : s2 8 x = ((x / 4) &&& 3689348814741910323) + (x &&& 3689348814741910323) := rfl
theorem swar_s3 (x : Nat) : s3 8 x = ((x / 16) + x) &&& 1085102592571150095 := rfl
end Go.Proofs.YtpaecmpiokkdnaaDoor

namespace Go.Proofs.YtpaecmpiokkdnaaDoor
open Go.RowKit Go.Sort
attribute [local go_sem] cell_grow frozen_grow size_grow

theorem ret_u64 {a b : Int} (h : a = b) : Ending.returned (.int .u64 a) = .returned (.int .u64 b) := by rw [h]
theorem below_draw (w : World) (k : Nat) : Below w.heap.size w (w.drewN k) := ⟨rfl, rfl, rfl, Nat.le_refl _, fun _ _ => rfl⟩

theorem mask_val (f t : Nat) (_ht : t ≤ 64) : bits BinOp.and IntKind.u64 (IntKind.u64.wrap (18446744073709551615 * 2 ^ f)) (18446744073709551615 / 2 ^ (64 - t)) = ((mk f t : Nat) : Int) := by
  have e1 : IntKind.u64.wrap (18446744073709551615 * 2 ^ f) = ((18446744073709551615 * 2 ^ f % 18446744073709551616 : Nat) : Int) := by
    rw [IntKind.wrap_u64]; simp
  have e2 : (18446744073709551615 : Int) / 2 ^ (64 - t) = ((18446744073709551615 / 2 ^ (64 - t) : Nat) : Int) := by simp
  rw [e1, e2, u64_and_nat _ _ (Nat.mod_lt _ (by decide))]
  · rfl
  · exact Nat.lt_of_le_of_lt (Nat.div_le_self _ _) (by decide)
theorem mask_ok (f t : Nat) (w : World) (hf : f ≤ 64) (ht : t ≤ 64) :
    Calls Tryd.prog 82 #[.int .i64 f, .int .i64 t] w fun e w' => e = .returned (.int .u64 (mk f t : Nat)) ∧ ∃ m, w' = w.drewN m := by
  have h0 : (0 : Int) ≤ 64 - (t : Int) := by omega
  go_enter Tryd.func82, Tryd.ntmps82
  go_wp2
  go_quiet (fail)
  go_wp2
  go_ret
  exact ⟨ret_u64 (mask_val f t ht), _, rfl⟩

/-- the same, over integers -/
theorem mask_int (f t : Int) (w : World) (hf0 : 0 ≤ f) (hf : f ≤ 64) (ht0 : 0 ≤ t) (ht : t ≤ 64) :
    Calls Tryd.prog 82 #[.int .i64 f, .int .i64 t] w fun e w' => e = .returned (.int .u64 (mk f.toNat t.toNat : Nat)) ∧ ∃ m, w' = w.drewN m := by
  obtain ⟨f, rfl⟩ := Int.eq_ofNat_of_zero_le hf0
  obtain ⟨t, rfl⟩ := Int.eq_ofNat_of_zero_le ht0
  exact mask_ok f t w (by omega) (by omega)

def A1 (X : Int) : Int := IntKind.u64.wrap (bits BinOp.and IntKind.u64 (X / 2) 6148914691236517205 + bits BinOp.and IntKind.u64 X 6148914691236517205)
def A2 (X : Int) : Int := IntKind.u64.wrap (bits BinOp.and IntKind.u64 (X / 4) 3689348814741910323 + bits BinOp.and IntKind.u64 X 3689348814741910323)
def A3 (X : Int) : Int := bits BinOp.and IntKind.u64 (IntKind.u64.wrap (X / 16 + X)) 1085102592571150095
def A4 (X : Int) : Int := IntKind.u64.wrap (X + X / 256)
def A5 (X : Int) : Int := IntKind.u64.wrap (X + X / 65536)
def A6 (X : Int) : Int := IntKind.u64.wrap (X + X / 4294967296)
def A7 (X : Int) : Int := bits BinOp.and IntKind.i64 (wrap64 X) 127
theorem A1_nat (x : Nat) (hx : x < 18446744073709551616) : A1 x = ((s1 8 x : Nat) : Int) := by
  unfold A1
  rw [swar_s1, show (x : Int) / 2 = ((x / 2 : Nat) : Int) by simp, show (6148914691236517205 : Int) = ((6148914691236517205 : Nat) : Int) from rfl, u64_and_nat _ _ (by omega) (by omega), u64_and_nat _ _ hx (by omega)]
  have a1 : (x / 2) &&& 6148914691236517205 ≤ 6148914691236517205 := Nat.and_le_right
  have a2 : x &&& 6148914691236517205 ≤ 6148914691236517205 := Nat.and_le_right
  rw [IntWalk.u64_in _ (by omega)]; simp
theorem A2_nat (x : Nat) (hx : x < 18446744073709551616) : A2 x = ((s2 8 x : Nat) : Int) := by
  unfold A2
  rw [swar_s2, show (x : Int) / 4 = ((x / 4 : Nat) : Int) by simp, show (3689348814741910323 : Int) = ((3689348814741910323 : Nat) : Int) from rfl, u64_and_nat _ _ (by omega) (by omega), u64_and_nat _ _ hx (by omega)]
  have a1 : (x / 4) &&& 3689348814741910323 ≤ 3689348814741910323 := Nat.and_le_right
  have a2 : x &&& 3689348814741910323 ≤ 3689348814741910323 := Nat.and_le_right
  rw [IntWalk.u64_in _ (by omega)]; simp
theorem A3_nat (x : Nat) (hx : x / 16 + x < 18446744073709551616) : A3 x = ((s3 8 x : Nat) : Int) := by
  unfold A3
  rw [swar_s3, show (x : Int) / 16 + x = ((x / 16 + x : Nat) : Int) by simp, show (1085102592571150095 : Int) = ((1085102592571150095 : Nat) : Int) from rfl, IntWalk.u64_in _ (by omega), u64_and_nat _ _ hx (by omega)]
theorem s1_le (x : Nat) : s1 8 x ≤ 12297829382473034410 := by
  rw [swar_s1]
  have a1 : (x / 2) &&& 6148914691236517205 ≤ 6148914691236517205 := Nat.and_le_right
  have a2 : x &&& 6148914691236517205 ≤ 6148914691236517205 := Nat.and_le_right
  omega
theorem s2_le (x : Nat) : s2 8 x ≤ 7378697629483820646 := by
  rw [swar_s2]
  have a1 : (x / 4) &&& 3689348814741910323 ≤ 3689348814741910323 := Nat.and_le_right
  have a2 : x &&& 3689348814741910323 ≤ 3689348814741910323 := Nat.and_le_right
  omega
theorem A7_nat (x : Nat) (hx : x ≤ 9223372036854775807) : A7 x = ((x % 128 : Nat) : Int) := by
  unfold A7
  rw [IntWalk.wrap64_in _ (by omega), show (127 : Int) = 2 ^ 7 - 1 from rfl, bits_mask .i64 63 (by decide) (fun n h0 h1 => IntWalk.i64_in n (by omega)) 7 (by decide) x (by omega) (by omega)]
  simp
theorem ones_val (x : Nat) (hx : x < 18446744073709551616) : A7 (A6 (A5 (A4 (A3 (A2 (A1 x)))))) = ((pop x : Nat) : Int) := by
  obtain ⟨z, y, v, h1, h2, h3, h4, h5, h6, h7, h8⟩ := swar x hx
  have b1 := s1_le x
  have b2 := s2_le (s1 8 x)
  rw [A1_nat x hx, A2_nat _ (by omega), A3_nat _ (by omega), ← h1]
  have e4 : A4 z = ((y : Nat) : Int) := by unfold A4; rw [IntWalk.u64_in _ (by omega), h3]; simp
  have e5 : A5 y = ((v : Nat) : Int) := by unfold A5; rw [IntWalk.u64_in _ (by omega), h5]; simp
  have e6 : A6 v = ((v + v / 4294967296 : Nat) : Int) := by unfold A6; rw [IntWalk.u64_in _ (by omega)]; simp
  rw [e4, e5, e6, A7_nat _ h7, h8]

theorem ones_ok (x : Nat) (w : World) (hx : x < 18446744073709551616) :
    Calls Tryd.prog 87 #[.int .u64 x] w fun e w' => e = .returned (.int .i64 (pop x : Nat)) ∧ w = w' := by
  have R := Lib.hid (ones_val x hx)
  go_enter Tryd.func87, Tryd.ntmps87
  go_wp2
  go_ret
  exact ⟨ret_i64 R.out, rfl⟩
theorem ones_int (x : Int) (w : World) (h0 : 0 ≤ x) (hx : x < 18446744073709551616) :
    Calls Tryd.prog 87 #[.int .u64 x] w fun e w' => e = .returned (.int .i64 (pop x.toNat : Nat)) ∧ w = w' := by
  obtain ⟨x, rfl⟩ := Int.eq_ofNat_of_zero_le h0
  exact ones_ok x w (by omega)
theorem and_rng (x y : Nat) (hx : x < 18446744073709551616) (hy : y < 18446744073709551616) : 0 ≤ bits BinOp.and IntKind.u64 (x : Int) (y : Int) ∧ bits BinOp.and IntKind.u64 (x : Int) (y : Int) < 18446744073709551616 := by
  rw [u64_and_nat _ _ hx hy]
  have : x &&& y ≤ x := Nat.and_le_left
  omega
theorem quiet_same {P : Program} {f : FuncId} {args : Array Value} {w : World} {n : Nat} {v : Value}
    (h : Calls P f args (w.drewN n) fun e w' => e = .returned v ∧ w.drewN n = w') : Calls P f args (w.drewN n) fun e w'' => e = .returned v ∧ ∃ m, w'' = w.drewN m :=
  h.mono fun _ _ ⟨he, hm⟩ => ⟨he, n, hm.symm⟩
end Go.Proofs.YtpaecmpiokkdnaaDoor

namespace Go.Proofs.YtpaecmpiokkdnaaDoor
open Go.RowKit Go.Sort
attribute [local go_sem] cell_grow frozen_grow size_grow

theorem lo_nat (f k : Nat) : (if (k : Int) * 64 < (f : Int) then (f : Int) - (k : Int) * 64 else 0).toNat = f - 64 * k := by split <;> omega
theorem hi_nat (t k : Nat) : (if (t : Int) - (k : Int) * 64 < 64 then (t : Int) - (k : Int) * 64 else 64).toNat = min 64 (t - 64 * k) := by split <;> omega
theorem count_round (ws : List Nat) (f t k : Nat) (h : 64 * k < t) (hf : f / 64 ≤ k) (ht : t ≤ 4096) (hx : ws[k]?.getD 0 < 18446744073709551616) :
    wrap64 (↑(cnt (bat ws) f (min t (64 * k))) + ↑(pop (bits BinOp.and IntKind.u64 ↑(ws[k]?.getD 0)
      ↑(mk (if (k : Int) * 64 < (f : Int) then (f : Int) - (k : Int) * 64 else 0).toNat (if (t : Int) - (k : Int) * 64 < 64 then (t : Int) - (k : Int) * 64 else 64).toNat)).toNat)) =
    ((cnt (bat ws) f (min t (64 * (k + 1))) : Nat) : Int) := by
  rw [count_step ws h hf, lo_nat, hi_nat, u64_and_nat _ _ hx (mk_lt _ _), List.getD_eq_getElem?_getD, Int.toNat_natCast]
  have h1 := cnt_le (bat ws) f (min t (64 * k))
  have h2 := pop_le (ws[k]?.getD 0 &&& mk (f - 64 * k) (min 64 (t - 64 * k)))
  rw [IntWalk.wrap64_in _ (by omega)]
  simp

theorem drewN_of {w wr : World} {m : Nat} (h : wr = w.drewN m) (k : Nat) : ∃ m', wr.drewN k = w.drewN m' := ⟨m + k, by rw [h, World.drewN_drewN]⟩
set_option maxHeartbeats 400000 in
theorem bcount_ok (a : Option Addr) (f t len cap : Nat) (ws : List Nat) (w : World) (hs : SlK .u64 w a len ws) (hw : ∀ x ∈ ws, x < 18446744073709551616) (hft : f ≤ t) (ht : t ≤ 64 * len) (hlen : len ≤ 64) :
    Calls Tryd.prog 81 #[.slice a len cap, .int .i64 f, .int .i64 t] w fun e w' => e = .returned (.int .i64 (cnt (bat ws) f t : Nat)) ∧ ∃ m, w' = w.drewN m := by
  go_enter Tryd.func81, Tryd.ntmps81
  go_wp2
  go_loopw [7, 8] (fun n i wr => ∃ k : Nat, f / 64 ≤ k ∧ k ≤ (t + 63) / 64 ∧ i = .int .i64 k ∧ n = .int .i64 (cnt (bat ws) f (min t (64 * k)) : Nat) ∧ ∃ m, wr = w.drewN m) (fun _ i _ => len - (intOf i).toNat)
  case atStart => exact ⟨f / 64, Nat.le_refl _, by omega, by go_num, by rw [cnt_zero (by omega)]; rfl, 0, rfl⟩
  case round =>
    obtain ⟨k, hk1, hk2, rfl, rfl, m, hm⟩ := hrel
    have Hm := Lib.hid hm
    by_cases hlt : 64 * k < t
    · obtain ⟨b, off, rfl, hc⟩ := hs.cells.resolve_left (by omega)
      have hck : wr.cell? ⟨b, off + k, none⟩ = some (.int .u64 (ws.getD k 0 : Nat)) := by rw [hm]; exact hc k (by omega)
      have hx : ws[k]?.getD 0 < 18446744073709551616 := by have := getD_lt hw (by decide) k; rwa [List.getD_eq_getElem?_getD] at this
      have hk0 : (0 : Int) ≤ (k : Int) := by omega
      have hk3 : (k : Int) < (len : Int) := by omega
      have hcl := cnt_le (bat ws) f (min t (64 * k))
      clear hc hs hk2 hm
      go_wp2
      go_quiet (first
        | (go_at_call 82; exact Calls.quiet_of (mask_int _ _ _ (by omega) (by omega) (by omega) (by omega)))
        | (go_at_call 87; exact quiet_same (ones_int _ _ (and_rng _ _ hx (mk_lt _ _)).1 (and_rng _ _ hx (mk_lt _ _)).2)))
      go_wp2
      go_roundw
      case rel => exact ⟨k + 1, by omega, by omega, by go_num, by rw [count_round ws f t k hlt hk1 (by omega) hx], drewN_of Hm.out _⟩
      case measure => simp [intOf]; omega
    · clear hm
      go_wp2
      go_ret
      have e : min t (64 * k) = t := by omega
      exact ⟨ret_i64 (by rw [e]), _, Hm.out⟩
end Go.Proofs.YtpaecmpiokkdnaaDoor

namespace Go.Proofs.YtpaecmpiokkdnaaDoor

/-- the first i from a on, below n, that holds; else n -/
def nxtF (p : Nat → Bool) : Nat → Nat → Nat
  | 0, a => a
  | m + 1, a => if p a = true then a else nxtF p m (a + 1)
def nxt (p : Nat → Bool) (a n : Nat) : Nat := nxtF p (n - a) a
theorem nxtF_spec (p : Nat → Bool) : ∀ m a, a ≤ nxtF p m a ∧ nxtF p m a ≤ a + m ∧ (∀ i, a ≤ i → i < nxtF p m a → p i = false) ∧ (nxtF p m a < a + m → p (nxtF p m a) = true)
  | 0, a => ⟨Nat.le_refl _, Nat.le_refl _, fun i h1 h2 => by simp only [nxtF] at h2; omega, fun h => by simp only [nxtF] at h; omega⟩
  | m + 1, a => by
    simp only [nxtF]
    split
    · rename_i h
      exact ⟨Nat.le_refl _, by omega, fun i h1 h2 => by omega, fun _ => h⟩
    · rename_i h
      obtain ⟨h1, h2, h3, h4⟩ := nxtF_spec p m (a + 1)
      refine ⟨by omega, by omega, fun i hi hj => ?_, fun hlt => h4 (by omega)⟩
      by_cases e : i = a
      · subst e; simpa using h
      · exact h3 i (by omega) hj
theorem nxt_spec {p : Nat → Bool} {a n : Nat} (h : a ≤ n) : a ≤ nxt p a n ∧ nxt p a n ≤ n ∧ (∀ i, a ≤ i → i < nxt p a n → p i = false) ∧ (nxt p a n < n → p (nxt p a n) = true) := by
  obtain ⟨h1, h2, h3, h4⟩ := nxtF_spec p (n - a) a
  refine ⟨h1, ?_, h3, fun hlt => h4 ?_⟩
  · unfold nxt; omega
  · unfold nxt at hlt; omega
theorem nxt_eq {p : Nat → Bool} {a n r : Nat} (h : a ≤ n) (h1 : a ≤ r) (h2 : r ≤ n) (h3 : ∀ i, a ≤ i → i < r → p i = false) (h4 : r < n → p r = true) : nxt p a n = r := by
  obtain ⟨g1, g2, g3, g4⟩ := nxt_spec (p := p) h
  rcases Nat.lt_trichotomy (nxt p a n) r with hlt | he | hgt
  · have := h3 _ g1 hlt
    rw [g4 (by omega)] at this; cases this
  · exact he
  · have := g3 _ h1 hgt
    rw [h4 (by omega)] at this; cases this

theorem ctz_bit {x : Nat} (h0 : x ≠ 0) (h : x < 18446744073709551616) : Lib.ctz 64 x < 64 ∧ x.testBit (Lib.ctz 64 x) = true ∧ ∀ j, j < Lib.ctz 64 x → x.testBit j = false := by
  obtain ⟨m, hm, hl⟩ := Lib.ctzFrom_spec 64 x (by omega) h
  have e : Lib.ctz 64 x = Lib.ctzFrom 64 x := by unfold Lib.ctz; rw [if_neg h0]
  rw [e]
  generalize Lib.ctzFrom 64 x = c at *
  subst hm
  refine ⟨hl, ?_, fun j hj => ?_⟩
  · rw [Nat.testBit_two_pow_mul]
    simp
  · rw [Nat.testBit_two_pow_mul]
    simp; omega

/-- the bits of a word that are looked for -/
def wrd (x : Nat) (on : Bool) (t : Nat) : Nat := (if on then x else 18446744073709551615 - x) &&& mk 0 t
theorem wrd_lt (x : Nat) (on : Bool) (t : Nat) : wrd x on t < 18446744073709551616 := Nat.lt_of_le_of_lt Nat.and_le_right (mk_lt 0 t)
theorem flip_testBit {x : Nat} (hx : x < 18446744073709551616) (j : Nat) : (18446744073709551615 - x).testBit j = (decide (j < 64) && !x.testBit j) := by
  have := Nat.testBit_two_pow_sub_succ (x := x) (n := 64) (by simpa using hx) j
  rw [show 2 ^ 64 - (x + 1) = 18446744073709551615 - x by omega] at this
  exact this
theorem wrd_testBit {x : Nat} (hx : x < 18446744073709551616) (on : Bool) {t : Nat} (ht : t ≤ 64) (j : Nat) : (wrd x on t).testBit j = (decide (j < t) && (x.testBit j == on)) := by
  unfold wrd
  rw [Nat.testBit_and, mk_testBit (by omega) ht]
  cases on
  · rw [if_neg (by simp), flip_testBit hx]
    by_cases h : j < t <;> simp [h] <;> omega
  · simp
    cases x.testBit j <;> simp
/-- what is looked for in bits -/
def look (ws : List Nat) (on : Bool) (i : Nat) : Bool := bat ws i == on
theorem look_word {ws : List Nat} {on : Bool} {n k j : Nat} (hw : ∀ x ∈ ws, x < 18446744073709551616) (hj : j < min 64 (n - 64 * k)) : (wrd (ws.getD k 0) on (min 64 (n - 64 * k))).testBit j = look ws on (64 * k + j) := by
  rw [wrd_testBit (getD_lt hw (by decide) k) on (by omega)]
  unfold look
  rw [bat_at _ _ _ (by omega)]
  simp [hj]
/-- one round of the search: nothing in this word -/
theorem next_none {ws : List Nat} {on : Bool} {n f k : Nat} (hw : ∀ x ∈ ws, x < 18446744073709551616)
    (h : wrd (ws.getD k 0) on (min 64 (n - 64 * k)) &&& mk (f - 64 * k) 64 = 0) (hf : f ≤ 64 * (k + 1)) : ∀ i, f ≤ i → 64 * k ≤ i → i < min n (64 * (k + 1)) → look ws on i = false := by
  intro i h1 h2 h3
  have e := look_word (ws := ws) (on := on) (n := n) (k := k) (j := i - 64 * k) hw (by omega)
  rw [show 64 * k + (i - 64 * k) = i by omega] at e
  have hb : (wrd (ws.getD k 0) on (min 64 (n - 64 * k)) &&& mk (f - 64 * k) 64).testBit (i - 64 * k) = false := by rw [h]; simp
  rw [Nat.testBit_and, mk_testBit (by omega) (by omega), e] at hb
  simpa [show f - 64 * k ≤ i - 64 * k by omega, show i - 64 * k < 64 by omega] using hb
/-- .. and where there is something -/
theorem next_some {ws : List Nat} {on : Bool} {n f k : Nat} (hw : ∀ x ∈ ws, x < 18446744073709551616)
    (h : wrd (ws.getD k 0) on (min 64 (n - 64 * k)) &&& mk (f - 64 * k) 64 ≠ 0) (hf : f ≤ 64 * (k + 1)) (hfn : f ≤ n) (hpre : ∀ i, f ≤ i → i < min n (64 * k) → look ws on i = false) :
    nxt (look ws on) f n = 64 * k + Lib.ctz 64 (wrd (ws.getD k 0) on (min 64 (n - 64 * k)) &&& mk (f - 64 * k) 64) := by
  obtain ⟨c1, c2, c3⟩ := ctz_bit h (Nat.lt_of_le_of_lt Nat.and_le_left (wrd_lt _ _ _))
  generalize Lib.ctz 64 (wrd (ws.getD k 0) on (min 64 (n - 64 * k)) &&& mk (f - 64 * k) 64) = c at *
  rw [Nat.testBit_and, mk_testBit (by omega) (by omega)] at c2
  simp only [Bool.and_eq_true, decide_eq_true_eq] at c2
  have hlt : c < min 64 (n - 64 * k) := by
    have := c2.1
    rw [wrd_testBit (getD_lt hw (by decide) k) on (by omega)] at this
    simp only [Bool.and_eq_true, decide_eq_true_eq] at this
    exact this.1
  have hl := look_word (ws := ws) (on := on) (n := n) (k := k) hw hlt
  rw [c2.1] at hl
  refine nxt_eq hfn (by omega) (by omega) (fun i h1 h2 => ?_) (fun _ => hl.symm)
  by_cases hik : i < 64 * k
  · exact hpre i h1 (by omega)
  · have e := look_word (ws := ws) (on := on) (n := n) (k := k) (j := i - 64 * k) hw (by omega)
    rw [show 64 * k + (i - 64 * k) = i by omega] at e
    have := c3 (i - 64 * k) (by omega)
    rw [Nat.testBit_and, mk_testBit (by omega) (by omega), e] at this
    simpa [show f - 64 * k ≤ i - 64 * k by omega, show i - 64 * k < 64 by omega] using this
end Go.Proofs.YtpaecmpiokkdnaaDoor

namespace Go.Proofs.YtpaecmpiokkdnaaDoor
open Go.RowKit Go.Sort
attribute [local go_sem] cell_grow frozen_grow size_grow

/-- the answer of part -/
def prt (N : Int) (ws : List Nat) (f t : Int) : Int := if chk N ws ≠ 0 then chk N ws else if f < 0 ∨ t < f ∨ N < t then 7 else 0
theorem prt_chk {N : Int} {ws : List Nat} {f t : Int} (h : chk N ws ≠ 0) : prt N ws f t = chk N ws := by unfold prt; rw [if_pos h]
theorem prt_bad {N : Int} {ws : List Nat} {f t : Int} (h : chk N ws = 0) (h2 : f < 0 ∨ t < f ∨ N < t) : prt N ws f t = 7 := by unfold prt; rw [if_neg (by simpa using h), if_pos h2]
theorem prt_ok {N : Int} {ws : List Nat} {f t : Int} (h : chk N ws = 0) (h2 : ¬ (f < 0 ∨ t < f ∨ N < t)) : prt N ws f t = 0 := by unfold prt; rw [if_neg (by simpa using h), if_neg h2]

/-- a pointer to bits -/
structure AtBits (w : World) (B : Nat) (N : Int) (a : Option Addr) (len cap : Nat) : Prop where
  n : w.cell? ⟨B, 0, none⟩ = some (.int .i64 N)
  s : w.cell? ⟨B, 1, none⟩ = some (.slice a len cap)
theorem AtBits.below {w w' : World} {B : Nat} {N : Int} {a : Option Addr} {len cap : Nat} (h : AtBits w B N a len cap) (hb : Below w.heap.size w w') : AtBits w' B N a len cap :=
  ⟨by rw [hb.cell (p := ⟨B, 0, none⟩) (World.block_lt_of_cell? _ _ h.n)]; exact h.n, by rw [hb.cell (p := ⟨B, 1, none⟩) (World.block_lt_of_cell? _ _ h.s)]; exact h.s⟩
theorem AtBits.new (w : World) (N : Int) (a : Option Addr) (len cap : Nat) (T : TypeId) : AtBits (w.alloc (.cells #[.int .i64 N, .slice a len cap] T)) w.heap.size N a len cap :=
  ⟨by rw [World.cell?_alloc_at _ _ _ _ rfl]; rfl, by rw [World.cell?_alloc_at _ _ _ _ rfl]; rfl⟩

theorem bne0_true {x : Int} (h : x ≠ 0) : (x != 0) = true := by simpa using h
theorem bne0_false {x : Int} (h : x = 0) : (x != 0) = false := by simpa using h

set_option maxHeartbeats 400000 in
theorem bpart_ok (B : Nat) (N f t : Int) (a : Option Addr) (len cap : Nat) (ws : List Nat) (w : World) (hB : AtBits w B N a len cap) (hs : SlK .u64 w a len ws) (hw : ∀ x ∈ ws, x < 18446744073709551616) (hlen : len ≤ 9223372036854775807) :
    Calls Tryd.prog 78 #[.pointer (some ⟨B, 0, none⟩), .int .i64 f, .int .i64 t] w fun e w' => e = .returned (.int .i64 (prt N ws f t)) ∧ Below w.heap.size w w' := by
  have hn := hB.n
  have hsl := hB.s
  have hlt := World.block_lt_of_cell? _ _ hn
  dsimp only at hlt
  clear hB
  by_cases hc : chk N ws = 0
  · have hcb := bne0_false hc
    by_cases h1 : f < 0 ∨ t < f ∨ N < t
    · have R := Lib.hid (prt_bad hc h1)
      clear hc
      by_cases g1 : f < 0
      · have d1 : decide (f < 0) = true := by simpa using g1
        clear h1
        go_enter Tryd.func78, Tryd.ntmps78
        go_wp2_with (go_at_call 83; refine (bCheck_ok N a len cap ws _ hs hw hlen).mono ?_; rintro e w1 ⟨rfl, hb⟩; obtain ⟨⟨d1, os1⟩, rfl⟩ := regrown_of_below hb; clear hb)
        go_ret
        exact ⟨ret_i64 R.out.symm, below_grow _ _ _⟩
      · have d1 : decide (f < 0) = false := by simpa using g1
        by_cases g2 : t < f
        · have d2 : decide (t < f) = true := by simpa using g2
          clear h1
          go_enter Tryd.func78, Tryd.ntmps78
          go_wp2_with (go_at_call 83; refine (bCheck_ok N a len cap ws _ hs hw hlen).mono ?_; rintro e w1 ⟨rfl, hb⟩; obtain ⟨⟨d1, os1⟩, rfl⟩ := regrown_of_below hb; clear hb)
          go_ret
          exact ⟨ret_i64 R.out.symm, below_grow _ _ _⟩
        · have d2 : decide (t < f) = false := by simpa using g2
          have d3 : decide (N < t) = true := by simp; omega
          clear h1
          go_enter Tryd.func78, Tryd.ntmps78
          go_wp2_with (go_at_call 83; refine (bCheck_ok N a len cap ws _ hs hw hlen).mono ?_; rintro e w1 ⟨rfl, hb⟩; obtain ⟨⟨d1, os1⟩, rfl⟩ := regrown_of_below hb; clear hb)
          go_ret
          exact ⟨ret_i64 R.out.symm, below_grow _ _ _⟩
    · have R := Lib.hid (prt_ok hc h1)
      have d1 : decide (f < 0) = false := by simp; omega
      have d2 : decide (t < f) = false := by simp; omega
      have d3 : decide (N < t) = false := by simp; omega
      clear hc h1
      go_enter Tryd.func78, Tryd.ntmps78
      go_wp2_with (go_at_call 83; refine (bCheck_ok N a len cap ws _ hs hw hlen).mono ?_; rintro e w1 ⟨rfl, hb⟩; obtain ⟨⟨d1, os1⟩, rfl⟩ := regrown_of_below hb; clear hb)
      go_ret
      exact ⟨ret_i64 R.out.symm, below_grow _ _ _⟩
  · have hcb := bne0_true hc
    have R := Lib.hid (prt_chk (f := f) (t := t) hc)
    clear hc
    go_enter Tryd.func78, Tryd.ntmps78
    go_wp2_with (go_at_call 83; refine (bCheck_ok N a len cap ws _ hs hw hlen).mono ?_; rintro e w1 ⟨rfl, hb⟩; obtain ⟨⟨d1, os1⟩, rfl⟩ := regrown_of_below hb; clear hb)
    go_ret
    exact ⟨ret_i64 R.out.symm, below_grow _ _ _⟩
theorem chk_zero {N : Int} {ws : List Nat} (h : chk N ws = 0) : 0 ≤ N ∧ N ≤ 4096 ∧ (ws.length : Int) = (N + 63) / 64 ∧ ∀ i, i < 64 * ws.length → N.toNat ≤ i → bat ws i = false := by
  unfold chk at h
  by_cases h1 : N < 0 ∨ 4096 < N
  · rw [if_pos h1] at h; cases h
  rw [if_neg h1] at h
  by_cases h2 : (ws.length : Int) ≠ (N + 63) / 64
  · rw [if_pos h2] at h; cases h
  rw [if_neg h2] at h
  by_cases h3 : ∀ i, i < 64 * ws.length → N.toNat ≤ i → bat ws i = false
  · exact ⟨by omega, by omega, by simpa using h2, h3⟩
  · rw [if_neg h3] at h; cases h
theorem prt_zero {N : Int} {ws : List Nat} {f t : Int} (h : prt N ws f t = 0) : chk N ws = 0 ∧ 0 ≤ f ∧ f ≤ t ∧ t ≤ N := by
  unfold prt at h
  by_cases h1 : chk N ws = 0
  · rw [if_neg (by simpa using h1)] at h
    by_cases h2 : f < 0 ∨ t < f ∨ N < t
    · rw [if_pos h2] at h; cases h
    · exact ⟨h1, by omega, by omega, by omega⟩
  · rw [if_pos h1] at h; exact absurd h h1

/-- what Count counts -/
def cntV (N : Int) (ws : List Nat) (f t : Int) : Int := if prt N ws f t = 0 then ((cnt (bat ws) f.toNat t.toNat : Nat) : Int) else 0
theorem ret_two {a b c d : Int} {k l : IntKind} (h : a = b) (h2 : c = d) : Ending.returned (.tuple #[.int k a, .int l c]) = .returned (.tuple #[.int k b, .int l d]) := by rw [h, h2]
theorem grow_drewN (W : World) (d : Nat) (os : Array Obj) (m : Nat) : Below W.heap.size W ((grow (redrawn W d) os).drewN m) := by
  have h := below_grow W d os
  exact ⟨h.os, h.tape, h.output, h.size, h.block⟩

set_option maxHeartbeats 400000 in
theorem bCount_ok (N f t : Int) (a : Option Addr) (len cap : Nat) (ws : List Nat) (w : World) (hs : SlK .u64 w a len ws) (hw : ∀ x ∈ ws, x < 18446744073709551616) (hlen : len ≤ 9223372036854775807) :
    Calls Tryd.prog 64 #[.agg #[.int .i64 N, .slice a len cap], .int .i64 f, .int .i64 t] w fun e w' => e = .returned (.tuple #[.int .i64 (cntV N ws f t), .int .i64 (prt N ws f t)]) ∧ Below w.heap.size w w' := by
  have hL := hs.length
  by_cases hp : prt N ws f t = 0
  · obtain ⟨hc, hf, hft, htN⟩ := prt_zero hp
    obtain ⟨hN0, hN, hl, _⟩ := chk_zero hc
    have R : cntV N ws f t = ((cnt (bat ws) f.toNat t.toNat : Nat) : Int) := by unfold cntV; rw [if_pos hp]
    have hpb := bne0_false hp
    obtain ⟨f, rfl⟩ := Int.eq_ofNat_of_zero_le hf
    obtain ⟨t, rfl⟩ := Int.eq_ofNat_of_zero_le (by omega : 0 ≤ t)
    have R := Lib.hid R
    have P := Lib.hid hp
    have L := Lib.hid hL
    have L2 := Lib.hid hl
    clear hp hc hL hl
    go_enter Tryd.func64, Tryd.ntmps64
    go_wp2_with (go_at_call 78; refine (bpart_ok _ N f t a len cap ws _ (AtBits.new w N a len cap _) (hs.alloc _) hw hlen).mono ?_; rintro e w1 ⟨rfl, hb⟩; obtain ⟨⟨d1, os1⟩, rfl⟩ := regrown_of_below hb; clear hb)
    refine (bcount_ok a f t len cap ws _ ((hs.alloc _).grow _ _) hw (by omega) (by have := L.out; have := L2.out; omega) (by have := L.out; have := L2.out; omega)).mono ?_
    rintro e w1 ⟨rfl, m, rfl⟩
    go_wp2
    go_ret2
    exact ⟨ret_two R.out.symm P.out.symm, (below_box0 _ _).trans ((grow_drewN _ _ _ _).mono (by simp))⟩
  · have hpb := bne0_true hp
    have R : cntV N ws f t = 0 := by unfold cntV; rw [if_neg hp]
    have R := Lib.hid R
    clear hp
    go_enter Tryd.func64, Tryd.ntmps64
    go_wp2_with (go_at_call 78; refine (bpart_ok _ N f t a len cap ws _ (AtBits.new w N a len cap _) (hs.alloc _) hw hlen).mono ?_; rintro e w1 ⟨rfl, hb⟩; obtain ⟨⟨d1, os1⟩, rfl⟩ := regrown_of_below hb; clear hb)
    go_ret2
    exact ⟨ret_two R.out.symm rfl, (below_box0 _ _).trans ((below_grow _ _ _).mono (by simp))⟩
end Go.Proofs.YtpaecmpiokkdnaaDoor

namespace Go.Proofs.YtpaecmpiokkdnaaDoor
open Go.RowKit Go.Sort
attribute [local go_sem] cell_grow frozen_grow size_grow

/-- the table of math/bits lies in block 0 -/
def Tab (w : World) : Prop := ∀ i, i < 64 → w.cell? ⟨0, i, none⟩ = some (.int .u8 (Lib.deBruijn64tab.getD i 0 : Nat))
theorem Tab.below {w w' : World} (h : Tab w) (hb : Below w.heap.size w w') : Tab w' := fun i hi => by
  rw [hb.cell (p := ⟨0, i, none⟩) (World.block_lt_of_cell? _ _ (h i hi))]; exact h i hi
theorem Tab.alloc {w : World} (h : Tab w) (o : Obj) : Tab (w.alloc o) := h.below (below_box0 _ _)
theorem Tab.grow {w : World} (h : Tab w) (d : Nat) (os : Array Obj) : Tab (grow (redrawn w d) os) := h.below (below_grow _ _ _)
theorem Tab.drewN {w : World} (h : Tab w) (d : Nat) : Tab (w.drewN d) := h

theorem tz_idx (x : Nat) (h0 : x ≠ 0) (hx : x < 18446744073709551616) :
    ∃ i, i < 64 ∧ IntKind.u64.wrap (bits BinOp.and IntKind.u64 (x : Int) (IntKind.u64.wrap (-(x : Int))) * 285870213051353865) / 288230376151711744 = ((i : Nat) : Int) ∧ Lib.deBruijn64tab.getD i 0 = Lib.ctz 64 x ∧ Lib.ctz 64 x < 64 := by
  obtain ⟨h1, h2⟩ := Lib.lowest_bit 64 x h0 hx
  obtain ⟨h3, h4⟩ := Lib.deBruijn64_at _ h2
  refine ⟨_, h3, ?_, h4, h2⟩
  have e : IntKind.u64.wrap (-(x : Int)) = ((2 ^ 64 - x : Nat) : Int) := by rw [IntKind.wrap_u64]; omega
  rw [e, u64_and_nat _ _ hx (by omega), h1, IntKind.wrap_u64]
  simp

theorem tz_ok (x : Nat) (w : World) (hT : Tab w) (h0 : x ≠ 0) (hx : x < 18446744073709551616) :
    Calls Tryd.prog 85 #[.int .u64 x] w fun e w' => e = .returned (.int .i64 (Lib.ctz 64 x : Nat)) ∧ w = w' := by
  have hb : ((x : Int) == 0) = false := by simpa using h0
  obtain ⟨i, hi, hv, htab, hlt⟩ := tz_idx x h0 hx
  have hc := hT i hi
  rw [htab] at hc
  clear htab hT
  go_enter Tryd.func85, Tryd.ntmps85
  go_wp2
  go_ret
  exact ⟨rfl, rfl⟩
theorem tz_int (x : Int) (w : World) (hT : Tab w) (h0 : 1 ≤ x) (hx : x < 18446744073709551616) :
    Calls Tryd.prog 85 #[.int .u64 x] w fun e w' => e = .returned (.int .i64 (Lib.ctz 64 x.toNat : Nat)) ∧ w = w' := by
  obtain ⟨x, rfl⟩ := Int.eq_ofNat_of_zero_le (by omega : 0 ≤ x)
  exact tz_ok x w hT (by omega) (by omega)

theorem xor_max (x : Nat) (hx : x < 18446744073709551616) : bits BinOp.xor IntKind.u64 18446744073709551615 (x : Int) = ((18446744073709551615 - x : Nat) : Int) := by
  rw [show (18446744073709551615 : Int) = ((18446744073709551615 : Nat) : Int) from rfl, u64_xor_nat _ _ (by omega) hx]
  congr 1
  apply Nat.eq_of_testBit_eq
  intro j
  rw [Nat.testBit_xor, ones_testBit, flip_testBit hx]
  by_cases hj : j < 64
  · simp [hj]
  · have : x.testBit j = false := Nat.testBit_lt_two_pow (Nat.lt_of_lt_of_le hx (by have := Nat.pow_le_pow_right (n := 2) (by decide) (by omega : 64 ≤ j); simpa using this))
    simp [hj, this]

theorem w_t (x t : Nat) (hx : x < 18446744073709551616) : bits BinOp.and IntKind.u64 (x : Int) (mk 0 t : Nat) = ((wrd x true t : Nat) : Int) := by
  rw [u64_and_nat _ _ hx (mk_lt _ _)]; rfl
theorem w_f (x t : Nat) (hx : x < 18446744073709551616) : bits BinOp.and IntKind.u64 (bits BinOp.xor IntKind.u64 IntKind.u64.max (x : Int)) (mk 0 t : Nat) = ((wrd x false t : Nat) : Int) := by
  rw [show IntKind.u64.max = (18446744073709551615 : Int) from rfl, xor_max x hx, u64_and_nat _ _ (by omega) (mk_lt _ _)]; rfl
theorem w_t1 (x n k : Nat) (hx : x < 18446744073709551616) (h : (n : Int) - (k : Int) * 64 < 64) (hk : 64 * k ≤ n) : bits BinOp.and IntKind.u64 (x : Int) (mk 0 ((n : Int) - (k : Int) * 64).toNat : Nat) = ((wrd x true (min 64 (n - 64 * k)) : Nat) : Int) := by
  rw [show ((n : Int) - (k : Int) * 64).toNat = min 64 (n - 64 * k) by omega, w_t _ _ hx]
theorem w_f1 (x n k : Nat) (hx : x < 18446744073709551616) (h : (n : Int) - (k : Int) * 64 < 64) (hk : 64 * k ≤ n) : bits BinOp.and IntKind.u64 (bits BinOp.xor IntKind.u64 IntKind.u64.max (x : Int)) (mk 0 ((n : Int) - (k : Int) * 64).toNat : Nat) = ((wrd x false (min 64 (n - 64 * k)) : Nat) : Int) := by
  rw [show ((n : Int) - (k : Int) * 64).toNat = min 64 (n - 64 * k) by omega, w_f _ _ hx]
theorem w_t2 (x n k : Nat) (hx : x < 18446744073709551616) (h : 64 ≤ (n : Int) - (k : Int) * 64) : bits BinOp.and IntKind.u64 (x : Int) (mk 0 64 : Nat) = ((wrd x true (min 64 (n - 64 * k)) : Nat) : Int) := by
  rw [show min 64 (n - 64 * k) = 64 by omega, w_t _ _ hx]
theorem w_f2 (x n k : Nat) (hx : x < 18446744073709551616) (h : 64 ≤ (n : Int) - (k : Int) * 64) : bits BinOp.and IntKind.u64 (bits BinOp.xor IntKind.u64 IntKind.u64.max (x : Int)) (mk 0 64 : Nat) = ((wrd x false (min 64 (n - 64 * k)) : Nat) : Int) := by
  rw [show min 64 (n - 64 * k) = 64 by omega, w_f _ _ hx]

set_option maxHeartbeats 400000 in
theorem bword_ok (B : Nat) (n k : Nat) (on : Bool) (a : Option Addr) (len cap : Nat) (ws : List Nat) (w : World) (hB : AtBits w B n a len cap) (hs : SlK .u64 w a len ws) (hw : ∀ x ∈ ws, x < 18446744073709551616) (hk : k < len) (hkn : 64 * k ≤ n) (hn : n ≤ 4096) :
    Calls Tryd.prog 84 #[.pointer (some ⟨B, 0, none⟩), .int .i64 k, .bool on] w fun e w' => e = .returned (.int .u64 (wrd (ws.getD k 0) on (min 64 (n - 64 * k)) : Nat)) ∧ ∃ m, w' = w.drewN m := by
  have hcn := hB.n
  have hsl := hB.s
  obtain ⟨b, off, rfl, hc⟩ := hs.cells.resolve_left (by omega)
  have hck := hc k hk
  have hx : ws[k]?.getD 0 < 18446744073709551616 := by have := getD_lt hw (by decide) k; rwa [List.getD_eq_getElem?_getD] at this
  have hk0 : (0 : Int) ≤ (k : Int) := by omega
  have hk3 : (k : Int) < (len : Int) := by omega
  clear hc hs hB hw
  cases on
  all_goals
    go_enter Tryd.func84, Tryd.ntmps84
    go_wp2_with (go_at_call 82; refine (mask_int _ _ _ (by omega) (by omega) (by omega) (by omega)).mono ?_; rintro e w1 ⟨rfl, m, rfl⟩)
    all_goals go_ret
    · have h : (n : Int) - (k : Int) * 64 < 64 := by assumption
      exact ⟨ret_u64 (by first | exact w_t1 _ _ _ hx h hkn | exact w_f1 _ _ _ hx h hkn), _, rfl⟩
    · have h : 64 ≤ (n : Int) - (k : Int) * 64 := by assumption
      exact ⟨ret_u64 (by first | exact w_t2 _ _ _ hx h | exact w_f2 _ _ _ hx h), _, rfl⟩
end Go.Proofs.YtpaecmpiokkdnaaDoor

namespace Go.Proofs.YtpaecmpiokkdnaaDoor
open Go.RowKit Go.Sort
attribute [local go_sem] cell_grow frozen_grow size_grow

theorem tz_test (x : Int) (w : World) (hT : Tab w) (ht : (x != 0) = true) (hr : 0 ≤ x ∧ x < 18446744073709551616) :
    Calls Tryd.prog 85 #[.int .u64 x] w fun e w' => e = .returned (.int .i64 (Lib.ctz 64 x.toNat : Nat)) ∧ w = w' := by
  have : x ≠ 0 := by simpa using ht
  exact tz_int x w hT (by omega) hr.2

/-- the word that next looks at -/
theorem nx_word (ws : List Nat) (on : Bool) (n f k : Nat) : bits BinOp.and IntKind.u64 ((wrd (ws[k]?.getD 0) on (min 64 (n - 64 * k)) : Nat) : Int) ((mk (if (k : Int) * 64 < (f : Int) then (f : Int) - (k : Int) * 64 else 0).toNat 64 : Nat) : Int) =
    ((wrd (ws.getD k 0) on (min 64 (n - 64 * k)) &&& mk (f - 64 * k) 64 : Nat) : Int) := by
  rw [lo_nat, u64_and_nat _ _ (wrd_lt _ _ _) (mk_lt _ _), List.getD_eq_getElem?_getD]

set_option maxHeartbeats 800000 in
theorem bnext_ok (B : Nat) (n f : Nat) (on : Bool) (a : Option Addr) (len cap : Nat) (ws : List Nat) (w : World) (hT : Tab w) (hB : AtBits w B n a len cap) (hs : SlK .u64 w a len ws) (hw : ∀ x ∈ ws, x < 18446744073709551616) (hf : f ≤ n) (hn : n ≤ 4096) (hl : len = (n + 63) / 64) :
    Calls Tryd.prog 79 #[.pointer (some ⟨B, 0, none⟩), .int .i64 f, .bool on] w fun e w' => e = .returned (.int .i64 (nxt (look ws on) f n : Nat)) ∧ ∃ m, w' = w.drewN m := by
  have Hl := Lib.hid hl
  have hlu : len ≤ 64 := by omega
  clear hl
  go_enter Tryd.func79, Tryd.ntmps79
  go_wp2
  go_loopw [7] (fun i wr => ∃ k : Nat, f / 64 ≤ k ∧ k ≤ len ∧ i = .int .i64 k ∧ (∀ i, f ≤ i → i < min n (64 * k) → look ws on i = false) ∧ ∃ m, wr = w.drewN m) (fun i _ => len - (intOf i).toNat)
  case atStart => exact ⟨f / 64, Nat.le_refl _, by have := Hl.out; omega, by go_num, fun i h1 h2 => by omega, 0, rfl⟩
  case round =>
    obtain ⟨k, hk1, hk2, rfl, hpre, m, hm⟩ := hrel
    have Hm := Lib.hid hm
    have Hp := Lib.hid hpre
    have hTr : Tab wr := by rw [hm]; exact hT
    have hBr : AtBits wr B n a len cap := by rw [hm]; exact ⟨hB.n, hB.s⟩
    have hsr : SlK .u64 wr a len ws := by rw [hm]; exact ⟨hs.length, hs.cells⟩
    have c0 := hBr.n
    have c1 := hBr.s
    clear hm hpre
    by_cases hlt : k < len
    · have hkn : 64 * k ≤ n := by have := Hl.out; omega
      have hX := nx_word ws on n f k
      obtain ⟨X, hXd⟩ : ∃ X : Nat, X = wrd (ws.getD k 0) on (min 64 (n - 64 * k)) &&& mk (f - 64 * k) 64 := ⟨_, rfl⟩
      rw [← hXd] at hX
      have hXr : X < 18446744073709551616 := by rw [hXd]; exact Nat.lt_of_le_of_lt Nat.and_le_left (wrd_lt _ _ _)
      have HX := Lib.hid hXd
      clear hXd
      by_cases h0 : X = 0
      · have hb : ((X : Int) != 0) = false := by simpa using h0
        have H0 := Lib.hid h0
        clear h0
        go_wp2_with (first
          | (go_at_call 84; refine (bword_ok B n k on a len cap ws _ hBr hsr hw hlt hkn hn).mono ?_; rintro e w1 ⟨rfl, m1, rfl⟩)
          | (go_at_call 82; refine (mask_int _ _ _ (by omega) (by omega) (by omega) (by omega)).mono ?_; rintro e w1 ⟨rfl, m2, rfl⟩))
        all_goals go_roundw
        all_goals first
          | (refine ⟨k + 1, by omega, by omega, by go_num, fun i h1 h2 => ?_, drewN_of Hm.out _⟩
             by_cases hik : i < 64 * k
             · exact Hp.out i h1 (by omega)
             · exact next_none hw (by rw [← HX.out]; exact H0.out) (by omega) i h1 (by omega) (by omega))
          | (simp [intOf]; omega)
      · have hb : ((X : Int) != 0) = true := by simpa using h0
        have R := Lib.hid (next_some (ws := ws) (on := on) (n := n) (f := f) (k := k) hw (by rw [← HX.out]; exact h0) (by omega) hf Hp.out)
        have hcz := (ctz_bit h0 hXr).1
        go_wp2_with (first
          | (go_at_call 84; refine (bword_ok B n k on a len cap ws _ hBr hsr hw hlt hkn hn).mono ?_; rintro e w1 ⟨rfl, m1, rfl⟩)
          | (go_at_call 82; refine (mask_int _ _ _ (by omega) (by omega) (by omega) (by omega)).mono ?_; rintro e w1 ⟨rfl, m2, rfl⟩)
          | (go_at_call 85; refine (tz_ok X _ (by exact hTr) h0 hXr).mono ?_; rintro e w1 ⟨rfl, rfl⟩))
        all_goals go_ret
        all_goals exact ⟨ret_i64 (by rw [R.out, ← HX.out]; omega), drewN_of Hm.out _⟩
    · go_wp2
      go_ret
      refine ⟨ret_i64 ?_, _, Hm.out⟩
      have e : nxt (look ws on) f n = n := nxt_eq hf hf (Nat.le_refl _) (fun i h1 h2 => Hp.out i h1 (by have := Hl.out; omega)) (fun h => absurd h (by omega))
      rw [e]
/-- what Next returns -/
def nextV (N : Int) (ws : List Nat) (f : Int) (on : Bool) : Int := if prt N ws 0 f = 0 ∧ nxt (look ws on) f.toNat N.toNat < N.toNat then ((nxt (look ws on) f.toNat N.toNat : Nat) : Int) else 0
def nextE (N : Int) (ws : List Nat) (f : Int) (on : Bool) : Int := if prt N ws 0 f ≠ 0 then prt N ws 0 f else if nxt (look ws on) f.toNat N.toNat < N.toNat then 0 else 4

set_option maxHeartbeats 800000 in
theorem bNext_ok (N f : Int) (on : Bool) (a : Option Addr) (len cap : Nat) (ws : List Nat) (w : World) (hT : Tab w) (hs : SlK .u64 w a len ws) (hw : ∀ x ∈ ws, x < 18446744073709551616) (hlen : len ≤ 9223372036854775807) :
    Calls Tryd.prog 53 #[.agg #[.int .i64 N, .slice a len cap], .int .i64 f, .bool on] w fun e w' => e = .returned (.tuple #[.int .i64 (nextV N ws f on), .int .i64 (nextE N ws f on)]) ∧ Below w.heap.size w w' := by
  have hL := hs.length
  by_cases hp : prt N ws 0 f = 0
  · obtain ⟨hc, _, hf, hfN⟩ := prt_zero hp
    obtain ⟨hN0, hN, hl, _⟩ := chk_zero hc
    have hpb := bne0_false hp
    obtain ⟨f, rfl⟩ := Int.eq_ofNat_of_zero_le hf
    obtain ⟨n, rfl⟩ := Int.eq_ofNat_of_zero_le hN0
    have R1 : nextV n ws f on = if nxt (look ws on) f n < n then ((nxt (look ws on) f n : Nat) : Int) else 0 := by unfold nextV; simp [hp]
    have R2 : nextE n ws f on = if nxt (look ws on) f n < n then 0 else 4 := by unfold nextE; simp [hp]
    have hl' : len = (n + 63) / 64 := by omega
    obtain ⟨_, hr2, _, _⟩ := nxt_spec (p := look ws on) (a := f) (n := n) (by omega)
    have R1 := Lib.hid R1
    have R2 := Lib.hid R2
    have HL := Lib.hid hl'
    clear hp hc hL hl hl'
    by_cases hr : nxt (look ws on) f n < n
    · have hd : decide (((nxt (look ws on) f n : Nat) : Int) < (n : Int)) = true := by simpa using hr
      go_enter Tryd.func53, Tryd.ntmps53
      go_wp2_with (go_at_call 78; refine (bpart_ok _ n 0 f a len cap ws _ (AtBits.new w n a len cap _) (hs.alloc _) hw hlen).mono ?_; rintro e w1 ⟨rfl, hb⟩; obtain ⟨⟨d1, os1⟩, rfl⟩ := regrown_of_below hb; clear hb)
      refine (bnext_ok w.heap.size n f on a len cap ws _ ((hT.alloc _).grow _ _) ((AtBits.new w n a len cap _).below (below_grow _ _ _)) ((hs.alloc _).grow _ _) hw (by omega) (by omega) HL.out).mono ?_
      rintro e w1 ⟨rfl, m, rfl⟩
      go_wp2
      go_ret2
      exact ⟨ret_two (by rw [R1.out, if_pos hr]) (by rw [R2.out, if_pos hr]), (below_box0 _ _).trans ((grow_drewN _ _ _ _).mono (by simp))⟩
    · have hd : decide (((nxt (look ws on) f n : Nat) : Int) < (n : Int)) = false := by simp; omega
      go_enter Tryd.func53, Tryd.ntmps53
      go_wp2_with (go_at_call 78; refine (bpart_ok _ n 0 f a len cap ws _ (AtBits.new w n a len cap _) (hs.alloc _) hw hlen).mono ?_; rintro e w1 ⟨rfl, hb⟩; obtain ⟨⟨d1, os1⟩, rfl⟩ := regrown_of_below hb; clear hb)
      refine (bnext_ok w.heap.size n f on a len cap ws _ ((hT.alloc _).grow _ _) ((AtBits.new w n a len cap _).below (below_grow _ _ _)) ((hs.alloc _).grow _ _) hw (by omega) (by omega) HL.out).mono ?_
      rintro e w1 ⟨rfl, m, rfl⟩
      go_wp2
      go_ret2
      exact ⟨ret_two (by rw [R1.out, if_neg hr]) (by rw [R2.out, if_neg hr]), (below_box0 _ _).trans ((grow_drewN _ _ _ _).mono (by simp))⟩
  · have hpb := bne0_true hp
    have R1 : nextV N ws f on = 0 := by unfold nextV; rw [if_neg (fun h => hp h.1)]
    have R2 : nextE N ws f on = prt N ws 0 f := by unfold nextE; rw [if_pos hp]
    have R1 := Lib.hid R1
    have R2 := Lib.hid R2
    clear hp
    go_enter Tryd.func53, Tryd.ntmps53
    go_wp2_with (go_at_call 78; refine (bpart_ok _ N 0 f a len cap ws _ (AtBits.new w N a len cap _) (hs.alloc _) hw hlen).mono ?_; rintro e w1 ⟨rfl, hb⟩; obtain ⟨⟨d1, os1⟩, rfl⟩ := regrown_of_below hb; clear hb)
    go_ret2
    exact ⟨ret_two R1.out.symm R2.out.symm, (below_box0 _ _).trans ((below_grow _ _ _).mono (by simp))⟩
end Go.Proofs.YtpaecmpiokkdnaaDoor

namespace Go.Proofs.YtpaecmpiokkdnaaDoor

/-- the word whose bit j is q j, of m bits -/
def wordOf (q : Nat → Bool) : Nat → Nat
  | 0 => 0
  | m + 1 => wordOf q m + (if q m = true then 2 ^ m else 0)
theorem wordOf_lt (q : Nat → Bool) : ∀ m, wordOf q m < 2 ^ m
  | 0 => by simp [wordOf]
  | m + 1 => by have := wordOf_lt q m; simp only [wordOf, Nat.pow_succ]; split <;> omega
theorem wordOf_testBit (q : Nat → Bool) : ∀ m j, (wordOf q m).testBit j = (decide (j < m) && q j)
  | 0, j => by simp [wordOf]
  | m + 1, j => by
    have hlt := wordOf_lt q m
    simp only [wordOf]
    by_cases hq : q m = true
    · rw [if_pos hq, Nat.add_comm, show 2 ^ m + wordOf q m = 2 ^ m * 1 + wordOf q m by simp, Nat.testBit_two_pow_mul_add _ hlt]
      by_cases h : j < m
      · rw [if_pos h, wordOf_testBit q m j]; simp [h, show j < m + 1 by omega]
      · rw [if_neg h]
        by_cases e : j = m
        · subst e; simp [hq]
        · have h1 : ¬ j < m + 1 := by omega
          rw [Nat.testBit_lt_two_pow (Nat.one_lt_two_pow (by omega : j - m ≠ 0))]; simp [h1]
    · rw [if_neg hq, Nat.add_zero, wordOf_testBit q m j]
      by_cases e : j = m
      · subst e; simp at hq; simp [hq]
      · by_cases h : j < m
        · simp [h, show j < m + 1 by omega]
        · simp [h, show ¬ j < m + 1 by omega]
/-- words with these bits -/
def pack (p : Nat → Bool) (len : Nat) : List Nat := (List.range len).map fun w => wordOf (fun j => p (64 * w + j)) 64
theorem pack_length (p : Nat → Bool) (len : Nat) : (pack p len).length = len := by simp [pack]
theorem pack_getD (p : Nat → Bool) (len k : Nat) (hk : k < len) : (pack p len).getD k 0 = wordOf (fun j => p (64 * k + j)) 64 := by
  simp [pack, List.getD_eq_getElem?_getD, hk]
theorem pack_lt (p : Nat → Bool) (len : Nat) : ∀ x ∈ pack p len, x < 18446744073709551616 := by
  intro x hx
  simp only [pack, List.mem_map] at hx
  obtain ⟨_, _, rfl⟩ := hx
  exact wordOf_lt _ 64
theorem pack_bat (p : Nat → Bool) (len i : Nat) (hi : i < 64 * len) : bat (pack p len) i = p i := by
  unfold bat
  rw [pack_getD _ _ _ (by omega), wordOf_testBit]
  simp only [show i % 64 < 64 by omega, decide_true, Bool.true_and]
  congr 1; omega
theorem bat_out (ws : List Nat) (i : Nat) (h : 64 * ws.length ≤ i) : bat ws i = false := by
  unfold bat
  rw [List.getD_eq_getElem?_getD, List.getElem?_eq_none (by omega)]; simp
theorem pack_unique {L : List Nat} {p : Nat → Bool} {len : Nat} (hl : L.length = len) (hw : ∀ x ∈ L, x < 18446744073709551616) (h : ∀ i, i < 64 * len → bat L i = p i) : L = pack p len := by
  apply List.ext_getElem?
  intro k
  by_cases hk : k < len
  · have e1 : L[k]? = some (L.getD k 0) := by rw [List.getD_eq_getElem?_getD, List.getElem?_eq_getElem (by omega)]; rfl
    have e2 : (pack p len)[k]? = some ((pack p len).getD k 0) := by rw [List.getD_eq_getElem?_getD, List.getElem?_eq_getElem (by rw [pack_length]; exact hk)]; rfl
    rw [e1, e2]
    congr 1
    apply Nat.eq_of_testBit_eq
    intro j
    by_cases hj : j < 64
    · have a1 := bat_at L k j hj
      have a2 := bat_at (pack p len) k j hj
      rw [← a1, ← a2, h _ (by omega), pack_bat _ _ _ (by omega)]
    · have hb : (64 : Nat) ≤ j := by omega
      have t : ∀ x, x < 18446744073709551616 → Nat.testBit x j = false := fun x hx => Nat.testBit_lt_two_pow (Nat.lt_of_lt_of_le hx (by have := Nat.pow_le_pow_right (n := 2) (by decide) hb; simpa using this))
      rw [t _ (getD_lt hw (by decide) k), t _ (getD_lt (pack_lt p len) (by decide) k)]
  · rw [List.getElem?_eq_none (by omega), List.getElem?_eq_none (by rw [pack_length]; omega)]
theorem pack_congr {p q : Nat → Bool} {len : Nat} (h : ∀ i, i < 64 * len → p i = q i) : pack p len = pack q len :=
  pack_unique (pack_length _ _) (pack_lt _ _) fun i hi => by rw [pack_bat _ _ _ hi, h i hi]

theorem bat_set {L : List Nat} {k v : Nat} (hk : k < L.length) (i : Nat) : bat (L.set k v) i = if i / 64 = k then v.testBit (i % 64) else bat L i := by
  unfold bat
  rw [List.getD_eq_getElem?_getD, List.getElem?_set]
  by_cases h : k = i / 64
  · rw [if_pos h, if_pos (by omega), if_pos h.symm]; rfl
  · rw [if_neg h, if_neg (fun e => h e.symm), List.getD_eq_getElem?_getD]
theorem set_lt {L : List Nat} {k v B : Nat} (hw : ∀ x ∈ L, x < B) (hv : v < B) : ∀ x ∈ L.set k v, x < B := by
  intro x hx
  rcases List.mem_or_eq_of_mem_set hx with h | h
  · exact hw x h
  · rw [h]; exact hv

/-- what fill makes of the bits -/
def filled (p : Nat → Bool) (f t : Nat) (on : Bool) (i : Nat) : Bool := if f ≤ i ∧ i < t then on else p i
/-- one round of fill -/
theorem fill_step (p : Nat → Bool) {f t k len : Nat} (on : Bool) (h : 64 * k < t) (hf : f / 64 ≤ k) (hk : k < len) :
    (pack (filled p f (min t (64 * k)) on) len).set k (if on = true then (pack (filled p f (min t (64 * k)) on) len).getD k 0 ||| mk (f - 64 * k) (min 64 (t - 64 * k)) else (pack (filled p f (min t (64 * k)) on) len).getD k 0 &&& (18446744073709551615 - mk (f - 64 * k) (min 64 (t - 64 * k)))) =
    pack (filled p f (min t (64 * (k + 1))) on) len := by
  have hx := getD_lt (pack_lt (filled p f (min t (64 * k)) on) len) (by decide) k
  refine pack_unique (by rw [List.length_set, pack_length]) (set_lt (pack_lt _ _) ?_) fun i hi => ?_
  · split
    · exact Nat.or_lt_two_pow (n := 64) hx (mk_lt _ _)
    · exact Nat.lt_of_le_of_lt Nat.and_le_left hx
  · rw [bat_set (by rw [pack_length]; exact hk)]
    by_cases hik : i / 64 = k
    · rw [if_pos hik]
      have e := bat_at (pack (filled p f (min t (64 * k)) on) len) k (i % 64) (by omega)
      rw [show 64 * k + i % 64 = i by omega, pack_bat _ _ _ hi] at e
      have e' : filled p f (min t (64 * k)) on i = p i := by unfold filled; rw [if_neg (by omega)]
      rw [e'] at e
      cases on
      · rw [if_neg (by simp), Nat.testBit_and, ← e, flip_testBit (mk_lt _ _), mk_testBit (by omega) (by omega)]
        unfold filled
        by_cases c : f ≤ i ∧ i < min t (64 * (k + 1))
        · rw [if_pos c]; simp [show f - 64 * k ≤ i % 64 by omega, show i % 64 < min 64 (t - 64 * k) by omega]
        · rw [if_neg c]
          by_cases c1 : f - 64 * k ≤ i % 64
          · have : ¬ i % 64 < min 64 (t - 64 * k) := by omega
            simp [this, show i % 64 < 64 by omega]
          · simp [c1, show i % 64 < 64 by omega]
      · rw [if_pos rfl, Nat.testBit_or, ← e, mk_testBit (by omega) (by omega)]
        unfold filled
        by_cases c : f ≤ i ∧ i < min t (64 * (k + 1))
        · rw [if_pos c]; simp [show f - 64 * k ≤ i % 64 by omega, show i % 64 < min 64 (t - 64 * k) by omega]
        · rw [if_neg c]
          by_cases c1 : f - 64 * k ≤ i % 64
          · have : ¬ i % 64 < min 64 (t - 64 * k) := by omega
            simp [this]
          · simp [c1]
    · rw [if_neg hik, pack_bat _ _ _ hi]
      unfold filled
      by_cases c : f ≤ i ∧ i < min t (64 * k)
      · rw [if_pos c, if_pos (by omega)]
      · rw [if_neg c, if_neg (by omega)]
theorem fill_start (ws : List Nat) (hw : ∀ x ∈ ws, x < 18446744073709551616) (f t : Nat) (on : Bool) : ws = pack (filled (bat ws) f (min t (64 * (f / 64))) on) ws.length :=
  pack_unique rfl hw fun i _ => by unfold filled; rw [if_neg (by omega)]
theorem fill_end (p : Nat → Bool) {f t k : Nat} (on : Bool) (len : Nat) (h : t ≤ 64 * k) : pack (filled p f (min t (64 * k)) on) len = pack (filled p f t on) len := by rw [show min t (64 * k) = t by omega]
end Go.Proofs.YtpaecmpiokkdnaaDoor

namespace Go.Proofs.YtpaecmpiokkdnaaDoor
open Go.RowKit Go.Sort Go.Joins
attribute [local go_sem] cell_grow frozen_grow size_grow

theorem gb_drewN {a w : World} {row : Option Nat} (h : a.grownBy w row) (n : Nat) : a.grownBy (w.drewN n) row := ⟨h.os, h.tape, h.output, h.size, h.block⟩
theorem gb_setCell {a w : World} {g : Nat} (h : a.grownBy w (some g)) (o : Nat) (u : Value) : a.grownBy (w.setCell ⟨g, o, none⟩ u) (some g) :=
  ⟨h.os, h.tape, h.output, by simpa [World.setCell] using h.size, fun i hi hne => (Below.heap_setCell w ⟨g, o, none⟩ u i (fun e => hne (by rw [e]))).trans (h.block i hi hne)⟩
theorem own_drewN {w : World} {base : Nat} {e : TypeId} {size : Nat} {v : Value} {n : Nat} {xs : List Value} (h : w.ownsRow base e size v n xs) (k : Nat) : (w.drewN k).ownsRow base e size v n xs := h
/-- words as values -/
def u64s (ws : List Nat) : List Value := ws.map fun (x : Nat) => Value.int .u64 (x : Int)
theorem u64s_length (ws : List Nat) : (u64s ws).length = ws.length := by simp [u64s]
theorem u64s_get (ws : List Nat) (k : Nat) (h : k < ws.length) : (u64s ws)[k]? = some (.int .u64 (ws.getD k 0 : Nat)) := by
  simp [u64s, h]
theorem u64s_set (ws : List Nat) (k v : Nat) : (u64s ws).set k (.int .u64 (v : Int)) = u64s (ws.set k v) := by simp [u64s, List.map_set]

theorem or_val (x m : Nat) (hx : x < 18446744073709551616) (hm : m < 18446744073709551616) : bits BinOp.or IntKind.u64 (x : Int) (m : Int) = ((x ||| m : Nat) : Int) := u64_or_nat x m hx hm
theorem andNot_val (x m : Nat) (hx : x < 18446744073709551616) (hm : m < 18446744073709551616) : bits BinOp.andNot IntKind.u64 (x : Int) (m : Int) = ((x &&& (18446744073709551615 - m) : Nat) : Int) := u64_andNot_nat x m hx hm

/-- the store of a round -/
theorem fill_store {w wr : World} {base g cap len k m2 x v : Nat} {e : TypeId} {P L : List Nat} {op : BinOp} {m : Nat} (ho : wr.ownsRow base e 1 (.slice (some ⟨g, 0, none⟩) len cap) len (u64s P)) (hg : w.grownBy wr (some g))
    (hv : bits op IntKind.u64 (x : Int) (m : Int) = (v : Int)) (hS : P.set k v = L) :
    ((wr.drewN m2).setCell ⟨g, k, none⟩ (.int .u64 (bits op IntKind.u64 (x : Int) (m : Int)))).ownsRow base e 1 (.slice (some ⟨g, 0, none⟩) len cap) len (u64s L) ∧
    w.grownBy ((wr.drewN m2).setCell ⟨g, k, none⟩ (.int .u64 (bits op IntKind.u64 (x : Int) (m : Int)))) (some g) := by
  have h := (own_drewN ho m2).stored k (.int .u64 (v : Int))
  rw [hv]
  rw [u64s_set, hS] at h
  exact ⟨h.1, gb_setCell (gb_drewN hg _) _ _⟩

set_option maxHeartbeats 800000 in
theorem bfill_ok (base : Nat) (v : Value) (len f t : Nat) (on : Bool) (ws : List Nat) (w : World) (ho : w.ownsRow base 144 1 v len (u64s ws)) (hw : ∀ x ∈ ws, x < 18446744073709551616) (hl : ws.length = len) (ht : t ≤ 64 * len) (hlen : len ≤ 64) (hf : f ≤ t) :
    Calls Tryd.prog 77 #[v, .int .i64 f, .int .i64 t, .bool on] w fun e w' => e = .returned (.tuple #[]) ∧ w'.ownsRow base 144 1 v len (u64s (pack (filled (bat ws) f t on) len)) ∧ w.grownBy w' v.ownBlock := by
  go_enter Tryd.func77, Tryd.ntmps77
  go_wp2
  go_loopw [8] (fun i wr => ∃ k : Nat, f / 64 ≤ k ∧ k ≤ (t + 63) / 64 ∧ i = .int .i64 k ∧ wr.ownsRow base 144 1 v len (u64s (pack (filled (bat ws) f (min t (64 * k)) on) len)) ∧ w.grownBy wr v.ownBlock) (fun i _ => len - (intOf i).toNat)
  case atStart => exact ⟨f / 64, Nat.le_refl _, by omega, by go_num, by have := fill_start ws hw f t on; rw [hl] at this; rw [← this]; exact ho, World.grownBy.refl _ _⟩
  case round =>
    obtain ⟨k, hk1, hk2, rfl, hown, hg⟩ := hrel
    by_cases hlt : 64 * k < t
    · obtain ⟨g, cap, rfl⟩ := ownsRow_form hown (by omega)
      have S := Lib.hid (fill_step (bat ws) on hlt hk1 (by omega : k < len))
      have hcell := hown.cellAt k (by omega)
      rw [u64s_get _ _ (by rw [pack_length]; omega)] at hcell
      have hfz := hown.frozenAt k
      have hx := getD_lt (pack_lt (filled (bat ws) f (min t (64 * k)) on) len) (by decide) k
      generalize hPd : pack (filled (bat ws) f (min t (64 * k)) on) len = P at *
      obtain ⟨X, hX⟩ : ∃ X, X = P.getD k 0 := ⟨_, rfl⟩
      rw [← hX] at hcell hx S
      have hm := mk_lt (f - 64 * k) (min 64 (t - 64 * k))
      have e1 := lo_nat f k
      have e2 := hi_nat t k
      have HO := Lib.hid hown
      have HG := Lib.hid hg
      have hk0 : (0 : Int) ≤ (k : Int) := by omega
      have hk3 : (k : Int) < (len : Int) := by omega
      clear hown hg hX hPd ho hw hl
      cases on
      all_goals
        go_wp2_with (go_at_call 82; refine (mask_int _ _ _ (by omega) (by omega) (by omega) (by omega)).mono ?_; rintro e w1 ⟨rfl, m2, rfl⟩)
        go_roundw
        case rel =>
          have Q := fill_store (k := k) (m2 := m2) HO.out HG.out (by first | exact or_val X _ hx hm | exact andNot_val X _ hx hm) (S.out)
          exact ⟨k + 1, by omega, by omega, by go_num, Q.1, Q.2⟩
        case measure => simp [intOf]; omega
    · have HO := Lib.hid hown
      have HG := Lib.hid hg
      clear hown hg ho
      go_wp2
      go_end0
      have e := fill_end (bat ws) (f := f) (t := t) (k := k) on len (by omega)
      exact ⟨rfl, by rw [← e]; exact HO.out, HG.out⟩
end Go.Proofs.YtpaecmpiokkdnaaDoor

namespace Go.Proofs.YtpaecmpiokkdnaaDoor
open Go.RowKit Go.Sort Go.Joins
attribute [local go_sem] cell_grow frozen_grow size_grow

theorem info_u64 : (Tryd.prog.info? 144).map (fun i => (i.zero, i.size, i.bytes)) = some (some (.int .u64 0), 1, 8) := by kernel_rfl

theorem SlK.news {w : World} {ad : Addr} {len : Nat} {ws : List Nat} (h : SlK .u64 w (some ad) len ws) : ∀ j u, (u64s ws)[j]? = some u → w.cell? (ad.add j) = some u := by
  intro j u hu
  have hj : j < ws.length := by
    have := (List.getElem?_eq_some_iff.1 hu).1
    simpa [u64s] using this
  rcases h.cells with h0 | ⟨b, off, ha, hc⟩
  · rw [h.length, h0] at hj; omega
  · obtain rfl := Option.some.inj ha
    rw [Addr.add_lit, hc j (by rw [← h.length]; exact hj), ← hu, u64s_get _ _ hj]
theorem u64s_one (ws : List Nat) : ∀ u ∈ u64s ws, u.oneCell' = true := by
  intro u hu
  obtain ⟨_, _, rfl⟩ := List.mem_map.1 hu
  rfl

set_option maxHeartbeats 800000 in
theorem clone_ok (a : Option Addr) (len cap : Nat) (ws : List Nat) (w : World) (hs : SlK .u64 w a len ws) (hlen : len ≤ 100000) :
    Calls Tryd.prog 86 #[.slice a len cap] w fun e w' => ∃ v, e = .returned v ∧ w'.ownsRow w.heap.size 144 1 v len (u64s ws) ∧ Below w.heap.size w w' := by
  obtain ⟨i0, hi, hz0, hz1, hz2⟩ := info_parts info_u64
  cases a with
  | none =>
    have h0 : len = 0 := by rcases hs.cells with h | ⟨_, _, h, _⟩; exact h; cases h
    subst h0
    have hq := fun (w : World) => Lib.run_eql_slice_nil (P := Tryd.prog) w 95 144 none 0 cap 0 0 Tryd.underlying95
    go_enter Tryd.func86, Tryd.ntmps86
    go_wp2
    go_ret
    have hws : ws = [] := List.eq_nil_of_length_eq_zero hs.length
    subst hws
    exact ⟨_, rfl, World.ownsRow_nil _ _ _ _, Below.refl _ _⟩
  | some ad =>
    have hq := fun (w : World) => Lib.run_eql_slice_nil (P := Tryd.prog) w 95 144 (some ad) len cap 0 0 Tryd.underlying95
    go_enter Tryd.func86, Tryd.ntmps86
    go_wp2_with (at_builtin; refine wpList_append_own _ rfl (.tmp 5) (.tmp 6) 95 rfl w.heap.size 144 i0 (.int .u64 0) 1 8 Tryd.underlying95 hi hz0 hz1 hz2 rfl (by decide) _ _ _ rfl (World.ownsRow_lit w #[] 0 (Nat.le_refl _) (by decide) rfl) ad len cap (u64s ws) rfl ?c1 (hs.alloc _).news (u64s_one ws) ?c2 ?c3 ?c4 ?_)
    case c1 => rw [u64s_length, hs.length, Nat.mul_one]
    case c2 => unfold maxLen; omega
    case c3 => omega
    case c4 => simp
    intro v' w1 hown hg _
    go_wp2
    go_ret
    exact ⟨v', rfl, by simpa using hown, ((below_box0 _ _).grown hg (by simp) (by intro k hk; simp [Value.ownBlock] at hk; omega))⟩
end Go.Proofs.YtpaecmpiokkdnaaDoor

namespace Go.Proofs.YtpaecmpiokkdnaaDoor
open Go.RowKit Go.Sort Go.Joins
attribute [local go_sem] cell_grow frozen_grow size_grow

theorem SlK.of_own {w : World} {base len : Nat} {e : TypeId} {a : Option Addr} {cap : Nat} {ws : List Nat} (h : w.ownsRow base e 1 (.slice a len cap) len (u64s ws)) : SlK .u64 w a len ws := by
  have hl : ws.length = len := by have := h.1; rw [u64s_length] at this; omega
  refine ⟨hl, ?_⟩
  rcases Nat.eq_zero_or_pos len with h0 | hp
  · exact .inl h0
  · obtain ⟨g, cap', he⟩ := ownsRow_form h hp
    simp only [Value.slice.injEq] at he
    obtain ⟨rfl, _, rfl⟩ := he
    exact .inr ⟨g, 0, rfl, fun j hj => by rw [Nat.zero_add, h.cellAt j (by omega), u64s_get _ _ (by omega)]⟩

theorem zeros_own (w : World) (len : Nat) (h : len ≤ 100000) : (w.alloc (.cells (madeCells #[.int .u64 0] len) 144)).ownsRow w.heap.size 144 1 (.slice (some ⟨w.heap.size, 0, none⟩) len len) len (u64s (pack (fun _ => false) len)) := by
  have h1 := World.ownsRow_lit (base := w.heap.size) (e := 144) (size := 1) w (madeCells #[.int .u64 0] len) len (Nat.le_refl _) (by unfold maxLen; omega) (by simp [madeCells])
  rw [toList_madeCells_one] at h1
  have e : List.replicate len (0 : Nat) = pack (fun _ => false) len := pack_unique (by simp) (by intro x hx; rw [List.eq_of_mem_replicate hx]; decide) fun i hi => by
    unfold bat
    rw [List.getD_eq_getElem?_getD, List.getElem?_replicate]
    split <;> simp
  rw [← e]
  have e2 : u64s (List.replicate len 0) = List.replicate len (.int .u64 0) := by simp [u64s]
  rw [e2]
  exact h1

theorem filled_new (n len : Nat) : pack (filled (bat (pack (fun _ => false) len)) 0 n true) len = pack (fun i => decide (i < n)) len :=
  pack_congr fun i hi => by unfold filled; rw [pack_bat _ _ _ hi]; by_cases h : i < n <;> simp [h]

set_option maxHeartbeats 800000 in
theorem bNew_bad (N : Int) (on : Bool) (w : World) (h : N < 0 ∨ 4096 < N) :
    Calls Tryd.prog 51 #[.int .i64 N, .bool on] w fun e w' => e = .returned (.tuple #[.agg #[.int .i64 0, .slice none 0 0], .int .i64 7]) ∧ Below w.heap.size w w' := by
  by_cases h1 : N < 0
  · go_enter Tryd.func51, Tryd.ntmps51
    go_wp2
    exact bodyPost_ret (v := .tuple #[.agg #[.int .i64 0, .slice none 0 0], .int .i64 7]) (by simp [results, Tryd.results51, go_sem]) rfl ⟨rfl, (Below.refl _ _).alloc (Nat.le_refl _) _⟩
  · have h2 : 4096 < N := by omega
    clear h
    go_enter Tryd.func51, Tryd.ntmps51
    go_wp2
    exact bodyPost_ret (v := .tuple #[.agg #[.int .i64 0, .slice none 0 0], .int .i64 7]) (by simp [results, Tryd.results51, go_sem]) rfl ⟨rfl, (Below.refl _ _).alloc (Nat.le_refl _) _⟩

set_option maxHeartbeats 1600000 in
theorem bNew_ok (n : Nat) (on : Bool) (w : World) (hn : n ≤ 4096) :
    Calls Tryd.prog 51 #[.int .i64 n, .bool on] w fun e w' => ∃ a cap, e = .returned (.tuple #[.agg #[.int .i64 n, .slice a ((n + 63) / 64) cap], .int .i64 0]) ∧
      w'.ownsRow w.heap.size 144 1 (.slice a ((n + 63) / 64) cap) ((n + 63) / 64) (u64s (pack (fun i => on && decide (i < n)) ((n + 63) / 64))) ∧ Below w.heap.size w w' := by
  obtain ⟨len, hlen⟩ : ∃ len, len = (n + 63) / 64 := ⟨_, rfl⟩
  have hmk := fun W => run_make_row' (P := Tryd.prog) 95 144 (.int .u64 0) 8 Tryd.underlying95 info_u64 rfl .i64 .i64 len (by omega) (by omega) W
  have hli : ((len : Nat) : Int) = ((n : Int) + 63) / 64 := by omega
  rw [hli] at hmk
  rw [← hlen]
  have HL := Lib.hid hlen
  clear hlen hli
  have Z0 : ((w.alloc (.cells #[.int .i64 0, .slice none 0 0] 97)).alloc (.cells (madeCells #[.int .u64 0] len) 144)).ownsRow w.heap.size 144 1 (.slice (some ⟨w.heap.size + 1, 0, none⟩) len len) len (u64s (pack (fun _ => false) len)) := by
    have := zeros_own (w.alloc (.cells #[.int .i64 0, .slice none 0 0] 97)) len (by have := HL.out; omega)
    rw [World.size_alloc] at this
    exact ownsRow_le this (by omega)
  have Z1 := Z0.alloc (.cells #[.int .i64 n, .slice (some ⟨w.heap.size + 1, 0, none⟩) len len] 97)
  have HB : Below w.heap.size w (((w.alloc (.cells #[.int .i64 0, .slice none 0 0] 97)).alloc (.cells (madeCells #[.int .u64 0] len) 144)).alloc (.cells #[.int .i64 n, .slice (some ⟨w.heap.size + 1, 0, none⟩) len len] 97)) :=
    below_alloc3 w _ _ _
  have HZ := Lib.hid Z1
  have HH := Lib.hid HB
  clear Z0 Z1 HB
  cases on
  · go_enter Tryd.func51, Tryd.ntmps51
    go_wp2_with (go_at_call 76; refine (words_ok _ _ (by omega) (by omega)).mono ?_; rintro e w1 ⟨rfl, rfl⟩)
    refine bodyPost_ret (v := .tuple #[.agg #[.int .i64 n, .slice (some ⟨w.heap.size + 1, 0, none⟩) len len], .int .i64 0]) (by simp [results, Tryd.results51, go_sem]) rfl ?_
    refine ⟨_, _, rfl, ?_, below_alloc3 w _ _ _⟩
    have Z := zeros_own (w.alloc (.cells #[.int .i64 n, .slice (some ⟨w.heap.size + 1, 0, none⟩) len len] 97)) len (by have := HL.out; omega)
    rw [World.size_alloc] at Z
    have Z2 := (ownsRow_le Z (by omega : w.heap.size ≤ w.heap.size + 1)).alloc (.cells #[.int .i64 n, .slice (some ⟨w.heap.size + 1, 0, none⟩) len len] 97)
    simpa using Z2
  · have F := bfill_ok w.heap.size (.slice (some ⟨w.heap.size + 1, 0, none⟩) len len) len 0 n true (pack (fun _ => false) len) _ HZ.out (pack_lt _ _) (pack_length _ _) (by have := HL.out; omega) (by have := HL.out; omega) (by omega)
    rw [show ((0 : Nat) : Int) = 0 from rfl, filled_new] at F
    have HF := Lib.hid F
    clear F
    go_enter Tryd.func51, Tryd.ntmps51
    go_wp2_with (go_at_call 76; refine (words_ok _ _ (by omega) (by omega)).mono ?_; rintro e w1 ⟨rfl, rfl⟩)
    refine HF.out.mono ?_
    rintro e w1 ⟨rfl, hown, hg⟩
    have c0 : w1.cell? ⟨w.heap.size, 0, none⟩ = some (.int .i64 0) := hg.cell (by simp [go_sem]) (by simp [Value.ownBlock])
    have c1 : w1.cell? ⟨w.heap.size, 1, none⟩ = some (.slice none 0 0) := hg.cell (by simp [go_sem]) (by simp [Value.ownBlock])
    have c2 : w1.cell? ⟨w.heap.size + 1 + 1, 0, none⟩ = some (.int .i64 n) := hg.cell (by simp [go_sem]) (by simp [Value.ownBlock])
    have c3 : w1.cell? ⟨w.heap.size + 1 + 1, 1, none⟩ = some (.slice (some ⟨w.heap.size + 1, 0, none⟩) len len) := hg.cell (by simp [go_sem]) (by simp [Value.ownBlock])
    have f0 : ∀ j, w1.frozen? ⟨w.heap.size, j, none⟩ = false := fun j => by
      rw [World.frozen?_of_block (hg.block w.heap.size (by simp; omega) (by simp [Value.ownBlock]))]; simp [go_sem]
    have HB2 : Below w.heap.size w w1 := HH.out.grown hg (by simp; omega) (by intro k hk; simp [Value.ownBlock] at hk; omega)
    have HO := Lib.hid hown
    have HB3 := Lib.hid HB2
    clear hown hg HB2
    go_wp2
    refine bodyPost_ret (v := .tuple #[.agg #[.int .i64 n, .slice (some ⟨w.heap.size + 1, 0, none⟩) len len], .int .i64 0]) (by simp [results, Tryd.results51, go_sem, c0, c1]) rfl ?_
    exact ⟨_, _, rfl, by simpa using ownsRow_setCell_other (ownsRow_setCell_other HO.out (by simp [Value.ownBlock]) _) (by simp [Value.ownBlock]) _, (HB3.out.setCell (Nat.le_refl _) _).setCell (Nat.le_refl _) _⟩
end Go.Proofs.YtpaecmpiokkdnaaDoor

namespace Go.Proofs.YtpaecmpiokkdnaaDoor
open Go.RowKit Go.Sort Go.Joins
attribute [local go_sem] cell_grow frozen_grow size_grow

theorem keepN {W nxt : World} {C : World → Prop} (hC : Hid (∀ w', Below W.heap.size W w' → C w')) (h : Below W.heap.size W nxt) : Below W.heap.size W nxt ∧ C nxt := ⟨h, hC _ h⟩
theorem lay_alloc {G : Prop} {W w' : World} {a b : Value} {T : TypeId} {g : Nat} (hb : Below (W.alloc (.cells #[a, b] T)).drew.heap.size (W.alloc (.cells #[a, b] T)).drew w') (hg : g = W.heap.size)
    (k : w'.cell? ⟨g, 0, none⟩ = some a → w'.cell? ⟨g, 1, none⟩ = some b → (∀ j, w'.frozen? ⟨g, j, none⟩ = false) → G) : G := by
  subst hg
  refine k ?_ ?_ fun j => ?_
  · rw [hb.cell (p := ⟨W.heap.size, 0, none⟩) (by simp)]; exact (World.cell?_alloc_at (w := W) _ _ _ _ rfl).trans rfl
  · rw [hb.cell (p := ⟨W.heap.size, 1, none⟩) (by simp)]; exact (World.cell?_alloc_at (w := W) _ _ _ _ rfl).trans rfl
  · rw [hb.frozen (p := ⟨W.heap.size, j, none⟩) (by simp)]; exact World.frozen?_alloc_at (w := W) _ _ _ _ rfl
theorem own_slice {w : World} {base len : Nat} {e : TypeId} {v : Value} {xs : List Value} (h : w.ownsRow base e 1 v len xs) : ∃ a cap, v = .slice a len cap := by
  rcases ownsRow_forms h with ⟨rfl, rfl⟩ | ⟨g, cap, rfl⟩
  · exact ⟨_, _, rfl⟩
  · exact ⟨_, _, rfl⟩
theorem bel_alloc {W cur : World} {C : Prop} (h : Below W.heap.size W cur ∧ C) (o : Obj) : Below W.heap.size W (cur.alloc o) := h.1.alloc h.1.size o
theorem bel_realloc {W cur : World} {o : Obj} {C : Prop} (h : Below W.heap.size W (cur.alloc o) ∧ C) (hle : W.heap.size ≤ cur.heap.size) (o' : Obj) : Below W.heap.size W (cur.alloc o') :=
  ⟨h.1.os, h.1.tape, h.1.output, by simp; omega, fun k hk => by rw [Below.heap_alloc _ _ _ (by omega), ← h.1.block k hk, Below.heap_alloc _ _ _ (by omega)]⟩
theorem bel_call {W cur nxt : World} {C : Prop} (h : Below W.heap.size W cur ∧ C) (hb : Below cur.heap.size cur nxt) : Below W.heap.size W nxt := below_tr h.1 hb
theorem bel_set2 {W cur : World} {C : Prop} (h : Below W.heap.size W cur ∧ C) {g i j : Nat} (hg : W.heap.size ≤ g) (u v : Value) : Below W.heap.size W ((cur.setCell ⟨g, i, none⟩ u).setCell ⟨g, j, none⟩ v) := (h.1.setCell (p := ⟨g, i, none⟩) hg u).setCell (p := ⟨g, j, none⟩) hg v

set_option maxHeartbeats 1600000 in
theorem bSet_ok (n f t : Nat) (on : Bool) (a : Option Addr) (len cap : Nat) (ws : List Nat) (w : World) (hs : SlK .u64 w a len ws) (hw : ∀ x ∈ ws, x < 18446744073709551616) (hc : chk n ws = 0) (hft : f ≤ t) (ht : t ≤ n) :
    Calls Tryd.prog 80 #[.agg #[.int .i64 n, .slice a len cap], .int .i64 f, .int .i64 t, .bool on] w fun e w' => ∃ a' cap', e = .returned (.tuple #[.agg #[.int .i64 n, .slice a' len cap'], .int .i64 0]) ∧
      w'.ownsRow w.heap.size 144 1 (.slice a' len cap') len (u64s (pack (filled (bat ws) f t on) len)) ∧ Below w.heap.size w w' := by
  have hp : prt n ws f t = 0 := prt_ok hc (by omega)
  obtain ⟨_, hN, hl, _⟩ := chk_zero hc
  have hL := hs.length
  have hlen : len ≤ 64 := by omega
  have htl : t ≤ 64 * len := by omega
  clear hl hc
  have P1 := bpart_ok w.heap.size n f t a len cap ws _ ((AtBits.new w n a len cap 97).below (below_box0 _ (.cells #[.int .i64 0, .slice none 0 0] 97))) ((hs.alloc _).alloc _) hw (by omega)
  rw [hp] at P1
  have HP := Lib.hid P1
  clear P1 hp
  go_enter Tryd.func80, Tryd.ntmps80
  go_wp2_with fail
  refine HP.out.mono ?_
  rintro e W ⟨rfl, hb⟩
  have hz : w.heap.size + 1 < W.heap.size := by have := hb.size; simp at this; omega
  have c0 : W.cell? ⟨w.heap.size, 0, none⟩ = some (.int .i64 n) := by rw [hb.cell (p := ⟨w.heap.size, 0, none⟩) (by simp; omega)]; simp [go_sem]
  have c1 : W.cell? ⟨w.heap.size, 1, none⟩ = some (.slice a len cap) := by rw [hb.cell (p := ⟨w.heap.size, 1, none⟩) (by simp; omega)]; simp [go_sem]
  have d0 : W.cell? ⟨w.heap.size + 1, 0, none⟩ = some (.int .i64 0) := by rw [hb.cell (p := ⟨w.heap.size + 1, 0, none⟩) (by simp)]; simp [go_sem]
  have d1 : W.cell? ⟨w.heap.size + 1, 1, none⟩ = some (.slice none 0 0) := by rw [hb.cell (p := ⟨w.heap.size + 1, 1, none⟩) (by simp)]; simp [go_sem]
  have d2 : ∀ j, W.frozen? ⟨w.heap.size + 1, j, none⟩ = false := fun j => by rw [hb.frozen (p := ⟨w.heap.size + 1, j, none⟩) (by simp)]; simp [go_sem]
  have hsW : SlK .u64 W a len ws := ((hs.alloc _).alloc _).below hb
  have hB : Below w.heap.size w W := (below_alloc2 w _ _).trans (hb.mono (by simp; omega))
  have HB := Lib.hid hB
  clear hb hB hs HP
  go_upto_region 4 with fail
  go_cut [11] (fun s11 wx => ∃ g a' cap', s11 = .pointer (some ⟨g, 0, none⟩) ∧ wx.cell? ⟨g, 0, none⟩ = some (.int .i64 n) ∧ wx.cell? ⟨g, 1, none⟩ = some (.slice a' len cap') ∧ wx.ownsRow W.heap.size 144 1 (.slice a' len cap') len (u64s ws) ∧
    (∀ h, a' = some h → h.block ≠ g) ∧ Below W.heap.size W wx)
  case first =>
    have HC : Hid (∀ w', Below W.heap.size W w' → w'.cell? ⟨w.heap.size, 0, none⟩ = some (.int .i64 n) ∧ w'.cell? ⟨w.heap.size, 1, none⟩ = some (.slice a len cap)) := fun w' h => ⟨cell_later h c0, cell_later h c1⟩
    go_region_held3 (fun w' => Below W.heap.size W w' ∧ w'.cell? ⟨w.heap.size, 0, none⟩ = some (.int .i64 n) ∧ w'.cell? ⟨w.heap.size, 1, none⟩ = some (.slice a len cap))
      ((refine keepN HC ?_; first | exact (Below.refl _ _).drew | exact bel_alloc (by assumption) _ | exact bel_call (by assumption) (by assumption) | exact bel_realloc (by assumption) (by first | omega | (simp; omega) | simp) _ | exact bel_set2 (by assumption) (by first | omega | (simp; omega) | simp) _ _))
      (first | (go_at_call 86; refine (clone_ok a len cap ws _ (hsW.below (And.left (by assumption))) (by omega)).mono ?_; rintro e w' ⟨v, rfl, hown, hb⟩; have hbW : Below W.heap.size W w' := bel_call (W := W) (by assumption) hb; have hsz : W.heap.size ≤ w'.heap.size := hbW.size; obtain ⟨va, vcap, rfl⟩ : ∃ va vcap, v = .slice va len vcap := own_slice hown; first | (refine lay_alloc (g := W.heap.size) hb rfl (fun q0 q1 q2 => ?_)) | skip))
    · go_wp2_with fail
      go_meet
      exact ⟨w'.heap.size, va, vcap, rfl, by simp [go_sem], by simp [go_sem], hown.alloc _, fun h e => by have := (hown.lt h.block (by rw [e]; rfl)).2; omega, hbW.alloc hsz _⟩
    · go_wp2_with fail
      go_meet
      have hne : ∀ h, va = some h → h.block ≠ W.heap.size := fun h e => by have := (hown.lt h.block (by rw [e]; rfl)).1; simp at this; omega
      have hob : ∀ j, (Value.slice va len vcap).ownBlock ≠ some (⟨W.heap.size, j, none⟩ : Addr).block := fun j e => by
        cases va with
        | none => cases e
        | some h => exact hne h rfl (by simpa [Value.ownBlock] using e)
      exact ⟨W.heap.size, va, vcap, rfl, by simp [go_sem, q0], by simp [go_sem, q1], ownsRow_setCell_other (ownsRow_setCell_other (ownsRow_le hown (by simp)) (hob 0) _) (hob 1) _, hne, (hbW.setCell (p := ⟨W.heap.size, 0, none⟩) (Nat.le_refl _) _).setCell (p := ⟨W.heap.size, 1, none⟩) (Nat.le_refl _) _⟩
  case rest =>
    obtain ⟨g, a', cap', rfl, e0, e1, ho, hne, hb⟩ := hcut
    have hob : (some g : Option Nat) ≠ (Value.slice a' len cap').ownBlock := fun e => by
      cases a' with
      | none => cases e
      | some h => exact hne h rfl (by simpa [Value.ownBlock] using e.symm)
    have hoH : (some (w.heap.size + 1) : Option Nat) ≠ (Value.slice a' len cap').ownBlock := fun e => by
      have := (ho.lt _ e.symm).1; omega
    have q0 : wc.cell? ⟨w.heap.size + 1, 0, none⟩ = some (.int .i64 0) := cell_later hb d0
    have q1 : wc.cell? ⟨w.heap.size + 1, 1, none⟩ = some (.slice none 0 0) := cell_later hb d1
    have q2 : ∀ j, wc.frozen? ⟨w.heap.size + 1, j, none⟩ = false := fun j => by rw [hb.frozen (p := ⟨w.heap.size + 1, j, none⟩) (by dsimp only; omega)]; exact d2 j
    have F := Lib.hid (bfill_ok W.heap.size (.slice a' len cap') len f t on ws wc ho hw hL htl hlen hft)
    have HBX := Lib.hid (HB.out.trans (hb.mono (by omega)))
    have HO := Lib.hid ho
    have HN := Lib.hid hob
    have HN2 := Lib.hid hoH
    have hzx : w.heap.size + 1 < wc.heap.size := by have := hb.size; omega
    have hgx : g < wc.heap.size := World.block_lt_of_cell? _ _ e0
    clear hb ho hob hoH hne c0 c1 d0 d1 d2 hsW hL
    go_wp2_with fail
    refine F.out.mono ?_
    rintro e w2 ⟨rfl, hown, hg⟩
    have r0 : w2.cell? ⟨w.heap.size + 1, 0, none⟩ = some (.int .i64 0) := hg.cell q0 HN2.out
    have r1 : w2.cell? ⟨w.heap.size + 1, 1, none⟩ = some (.slice none 0 0) := hg.cell q1 HN2.out
    have r2 : ∀ j, w2.frozen? ⟨w.heap.size + 1, j, none⟩ = false := fun j => by rw [World.frozen?_of_block (hg.block (w.heap.size + 1) hzx HN2.out)]; exact q2 j
    have r3 : w2.cell? ⟨g, 0, none⟩ = some (.int .i64 n) := hg.cell e0 HN.out
    have r4 : w2.cell? ⟨g, 1, none⟩ = some (.slice a' len cap') := hg.cell e1 HN.out
    have HB2 := Lib.hid (HBX.out.grown hg (by omega) (fun k hk => by have := (HO.out.lt k hk).1; omega))
    have HO2 := Lib.hid hown
    clear hown hg q0 q1 q2 e0 e1
    go_wp2
    refine bodyPost_ret (v := .tuple #[.agg #[.int .i64 n, .slice a' len cap'], .int .i64 0]) (by simp [results, Tryd.results80, go_sem, r0, r1]) rfl ?_
    have hob : ∀ j, (Value.slice a' len cap').ownBlock ≠ some (⟨w.heap.size + 1, j, none⟩ : Addr).block := fun j e => HN2.out e.symm
    exact ⟨_, _, rfl, ownsRow_le (ownsRow_setCell_other (ownsRow_setCell_other HO2.out (hob 0) _) (hob 1) _) (by omega), (HB2.out.setCell (p := ⟨w.heap.size + 1, 0, none⟩) (by simp) _).setCell (p := ⟨w.heap.size + 1, 1, none⟩) (by simp) _⟩
end Go.Proofs.YtpaecmpiokkdnaaDoor

namespace Go.Proofs.YtpaecmpiokkdnaaDoor
open Go.RowKit Go.Sort Go.Joins

/-- a slot: how many handles, alive, value -/
abbrev Slt := Nat × Bool × Value
def sc (s : Slt) : List Value := [.int .i64 (s.1 : Int), .bool s.2.1, s.2.2]
def slotCells : List Slt → List Value
  | [] => []
  | s :: l => sc s ++ slotCells l
theorem slotCells_length : ∀ st : List Slt, (slotCells st).length = 3 * st.length
  | [] => rfl
  | s :: l => by simp only [slotCells, List.length_append, slotCells_length l, sc, List.length_cons, List.length_nil]; omega
theorem slotCells_get : ∀ (st : List Slt) (i j : Nat) (_ : i < st.length) (_ : j < 3), (slotCells st)[i * 3 + j]? = (sc (st.getD i (0, false, undef)))[j]?
  | [], i, _, h, _ => by simp at h
  | s :: l, 0, j, _, hj => by
    simp only [slotCells, Nat.zero_mul, Nat.zero_add]
    rw [List.getElem?_append_left (by simp [sc]; omega)]; rfl
  | s :: l, i + 1, j, h, hj => by
    simp only [slotCells]
    rw [List.getElem?_append_right (by simp [sc]; omega), show (i + 1) * 3 + j - (sc s).length = i * 3 + j by simp [sc]; omega, slotCells_get l i j (by simpa using h) hj]
    rfl
theorem slotCells_set : ∀ (st : List Slt) (i : Nat) (_ : i < st.length) (s : Slt), slotCells (st.set i s) = (((slotCells st).set (i * 3) (.int .i64 (s.1 : Int))).set (i * 3 + 1) (.bool s.2.1)).set (i * 3 + 2) s.2.2
  | [], i, h, _ => by simp at h
  | t :: l, 0, _, s => by simp [slotCells, sc]
  | t :: l, i + 1, h, s => by
    simp only [List.set_cons_succ, slotCells]
    rw [slotCells_set l i (by simpa using h) s, show (i + 1) * 3 = (i * 3) + 3 by omega]
    simp [sc]
theorem set_get {α : Type} (l : List α) (i : Nat) (d : α) (_ : i < l.length) : l.set i (l.getD i d) = l := by
  apply List.ext_getElem?
  intro j
  rw [List.getElem?_set]
  by_cases h : i = j
  · subst h
    rw [if_pos rfl, if_pos (by assumption)]
    simp [*]
  · rw [if_neg h]

/-- can the slot give a handle? -/
def rdy (s : Slt) : Bool := !s.2.1 && decide (s.1 < 65535)
/-- a table at block p, its slots at block q; the bits r say which slots can give a handle -/
structure Tb (TBL SLOT : TypeId) (w : World) (B p q : Nat) (st : List Slt) (m : Nat) (r : Nat → Bool) : Prop where
  hp : B ≤ p
  hq : B ≤ q
  ne : p ≠ q
  n1 : 1 ≤ st.length
  n2 : st.length ≤ 1024
  tbl : ∃ ra rcap, w.heap[p]? = some (.cells #[.slice (some ⟨q, 0, none⟩) st.length st.length, .int .i64 (st.length : Int), .slice ra ((st.length + 63) / 64) rcap, .int .i64 (m : Int)] TBL (0, 0)) ∧
    w.ownsRow B 144 1 (.slice ra ((st.length + 63) / 64) rcap) ((st.length + 63) / 64) (u64s (pack r ((st.length + 63) / 64)))
  slots : w.heap[q]? = some (.cells (slotCells st).toArray SLOT (0, 0))
  rb : ∀ i, st.length ≤ i → r i = false

/-- all but the blocks p and q is as it was -/
structure Fr (p q : Nat) (w w' : World) : Prop where
  os : w'.os = w.os
  tape : w'.tape = w.tape
  output : w'.output = w.output
  size : w.heap.size ≤ w'.heap.size
  block : ∀ k, k < w.heap.size → k ≠ p → k ≠ q → w'.heap[k]? = w.heap[k]?
theorem Fr.refl (p q : Nat) (w : World) : Fr p q w w := ⟨rfl, rfl, rfl, Nat.le_refl _, fun _ _ _ _ => rfl⟩
theorem Fr.trans {p q : Nat} {a b c : World} (h : Fr p q a b) (k : Fr p q b c) : Fr p q a c :=
  ⟨k.os.trans h.os, k.tape.trans h.tape, k.output.trans h.output, Nat.le_trans h.size k.size, fun i hi h1 h2 => (k.block i (Nat.lt_of_lt_of_le hi h.size) h1 h2).trans (h.block i hi h1 h2)⟩
theorem Fr.of_below {p q : Nat} {w w' : World} (h : Below w.heap.size w w') : Fr p q w w' := ⟨h.os, h.tape, h.output, h.size, fun k hk _ _ => h.block k hk⟩
theorem Fr.setP {p q : Nat} (w : World) (j : Nat) (v : Value) : Fr p q w (w.setCell ⟨p, j, none⟩ v) :=
  ⟨rfl, rfl, rfl, by simp [World.setCell], fun k _ h1 _ => Below.heap_setCell _ _ _ _ h1⟩
theorem Fr.setQ {p q : Nat} (w : World) (j : Nat) (v : Value) : Fr p q w (w.setCell ⟨q, j, none⟩ v) :=
  ⟨rfl, rfl, rfl, by simp [World.setCell], fun k _ _ h2 => Below.heap_setCell _ _ _ _ h2⟩
theorem Fr.below {p q B : Nat} {a w w' : World} (h : Below B a w) (k : Fr p q w w') (hp : B ≤ p) (hq : B ≤ q) (hB : B ≤ w.heap.size) : Below B a w' :=
  h.trans ⟨k.os, k.tape, k.output, k.size, fun i hi => k.block i (by omega) (by omega) (by omega)⟩

theorem blk_lt {w : World} {k : Nat} {o : Obj} (h : w.heap[k]? = some o) : k < w.heap.size := by
  rcases Nat.lt_or_ge k w.heap.size with h' | h'
  · exact h'
  · rw [Array.getElem?_eq_none h'] at h; cases h
theorem own_below {w w' : World} {base : Nat} {e : TypeId} {size : Nat} {v : Value} {n : Nat} {xs : List Value} (h : w.ownsRow base e size v n xs) (hb : Below w.heap.size w w') : w'.ownsRow base e size v n xs := by
  obtain ⟨h1, h2⟩ := h
  refine ⟨h1, ?_⟩
  rcases h2 with h2 | ⟨g, cap, cur, hv, hg, hh, r⟩
  · exact Or.inl h2
  · exact Or.inr ⟨g, cap, cur, hv, hg, by rw [hb.block _ (blk_lt hh)]; exact hh, r⟩
/-- an owned row is not in a block of another type -/
theorem own_ne {w : World} {base : Nat} {e t : TypeId} {v : Value} {n : Nat} {xs : List Value} {k : Nat} {cs : Array Value} {fz : Nat × Nat} (h : w.ownsRow base e 1 v n xs) (hk : w.heap[k]? = some (.cells cs t fz)) (hne : e ≠ t) : v.ownBlock ≠ some k := by
  rcases h.2 with ⟨h2, _⟩ | ⟨g, cap, cur, hv, hg, hh, _⟩
  · rw [h2]; intro e; cases e
  · rw [hv]
    intro e'
    have : g = k := by simpa [Value.ownBlock] using e'
    subst this
    rw [hh] at hk
    simp only [Option.some.injEq, Obj.cells.injEq] at hk
    exact hne hk.2.1

section
variable {TBL SLOT : TypeId} {w w' : World} {B p q : Nat} {st : List Slt} {m : Nat} {r : Nat → Bool}

theorem Tb.below (h : Tb TBL SLOT w B p q st m r) (hb : Below w.heap.size w w') : Tb TBL SLOT w' B p q st m r := by
  obtain ⟨ra, rcap, h1, h2⟩ := h.tbl
  exact ⟨h.hp, h.hq, h.ne, h.n1, h.n2, ⟨ra, rcap, by rw [hb.block _ (blk_lt h1)]; exact h1, own_below h2 hb⟩, by rw [hb.block _ (blk_lt h.slots)]; exact h.slots, h.rb⟩

theorem setCell_block {w : World} {g i : Nat} {cs : Array Value} {t : TypeId} (h : w.heap[g]? = some (.cells cs t (0, 0))) (v : Value) : (w.setCell ⟨g, i, none⟩ v).heap[g]? = some (.cells (cs.setIfInBounds i v) t (0, 0)) := by
  have := block_setCell h (i := i) v; exact this

/-- the three cells of a slot are stored, and the number of those alive -/
theorem Tb.stored (h : Tb TBL SLOT w B p q st m r) (hs : 144 ≠ SLOT) (ht : 144 ≠ TBL) {i : Nat} (hi : i < st.length) (s : Slt) (m' : Nat) :
    Tb TBL SLOT ((((w.setCell ⟨q, i * 3, none⟩ (.int .i64 (s.1 : Int))).setCell ⟨q, i * 3 + 1, none⟩ (.bool s.2.1)).setCell ⟨q, i * 3 + 2, none⟩ s.2.2).setCell ⟨p, 3, none⟩ (.int .i64 (m' : Int))) B p q (st.set i s) m' r := by
  obtain ⟨ra, rcap, h1, h2⟩ := h.tbl
  have o1 := own_ne h2 h.slots hs
  have o2 := own_ne h2 h1 ht
  have hq0 := h.slots
  have hne := h.ne
  refine ⟨h.hp, h.hq, h.ne, by simpa using h.n1, by simpa using h.n2, ⟨ra, rcap, ?_, ?_⟩, ?_, by simpa using h.rb⟩
  · have e : ((((w.setCell ⟨q, i * 3, none⟩ (.int .i64 (s.1 : Int))).setCell ⟨q, i * 3 + 1, none⟩ (.bool s.2.1)).setCell ⟨q, i * 3 + 2, none⟩ s.2.2)).heap[p]? = some (.cells #[.slice (some ⟨q, 0, none⟩) st.length st.length, .int .i64 (st.length : Int), .slice ra ((st.length + 63) / 64) rcap, .int .i64 (m : Int)] TBL (0, 0)) := by
      rw [Below.heap_setCell _ _ _ _ hne, Below.heap_setCell _ _ _ _ hne, Below.heap_setCell _ _ _ _ hne]; exact h1
    rw [setCell_block e]; simp
  · rw [List.length_set]
    exact ownsRow_setCell_other (ownsRow_setCell_other (ownsRow_setCell_other (ownsRow_setCell_other h2 (by simpa using o1) _) (by simpa using o1) _) (by simpa using o1) _) (by simpa using o2) _
  · rw [Below.heap_setCell _ _ _ _ hne.symm, setCell_block (setCell_block (setCell_block hq0 _) _) _, slotCells_set st i hi s]; simp

/-- the bits are stored anew -/
theorem Tb.noted {ra' : Option Addr} {rcap' : Nat} {r' : Nat → Bool} (h : Tb TBL SLOT w B p q st m r) (ht : 144 ≠ TBL) (hb : Below w.heap.size w w') (ho : w'.ownsRow B 144 1 (.slice ra' ((st.length + 63) / 64) rcap') ((st.length + 63) / 64) (u64s (pack r' ((st.length + 63) / 64))))
    (hr : ∀ i, st.length ≤ i → r' i = false) :
    Tb TBL SLOT ((w'.setCell ⟨p, 1, none⟩ (.int .i64 (st.length : Int))).setCell ⟨p, 2, none⟩ (.slice ra' ((st.length + 63) / 64) rcap')) B p q st m r' := by
  have h' := h.below hb
  obtain ⟨ra, rcap, h1, h2⟩ := h'.tbl
  have o2 := own_ne ho h1 ht
  have hne := h.ne
  refine ⟨h.hp, h.hq, h.ne, h.n1, h.n2, ⟨ra', rcap', ?_, ?_⟩, ?_, hr⟩
  · rw [setCell_block (setCell_block h1 _) _]; simp
  · exact ownsRow_setCell_other (ownsRow_setCell_other ho (by simpa using o2) _) (by simpa using o2) _
  · rw [Below.heap_setCell _ _ _ _ hne.symm, Below.heap_setCell _ _ _ _ hne.symm]; exact h'.slots

theorem pack_filled (r : Nat → Bool) (len f t : Nat) (b : Bool) : pack (filled (bat (pack r len)) f t b) len = pack (filled r f t b) len :=
  pack_congr fun i hi => by unfold filled; rw [pack_bat _ _ _ hi]
/-- .. as note leaves them -/
theorem Tb.noted' {ra' : Option Addr} {rcap' i : Nat} {b c : Bool} (h : Tb TBL SLOT w B p q st m r) (ht : 144 ≠ TBL) (hi : i < st.length) (hB : B ≤ w.heap.size) (hbc : b = c) (hb : Below w.drew.heap.size w.drew w')
    (ho : w'.ownsRow w.drew.heap.size 144 1 (.slice ra' ((st.length + 63) / 64) rcap') ((st.length + 63) / 64) (u64s (pack (filled (bat (pack r ((st.length + 63) / 64))) i (i + 1) b) ((st.length + 63) / 64)))) :
    Tb TBL SLOT ((w'.setCell ⟨p, 1, none⟩ (.int .i64 (st.length : Int))).setCell ⟨p, 2, none⟩ (.slice ra' ((st.length + 63) / 64) rcap')) B p q st m (filled r i (i + 1) c) ∧
    Fr p q w ((w'.setCell ⟨p, 1, none⟩ (.int .i64 (st.length : Int))).setCell ⟨p, 2, none⟩ (.slice ra' ((st.length + 63) / 64) rcap')) := by
  subst hbc
  have hb' : Below w.heap.size w w' := ⟨hb.os, hb.tape, hb.output, hb.size, hb.block⟩
  rw [pack_filled] at ho
  refine ⟨h.noted ht hb' (ownsRow_le ho hB) fun j hj => ?_, ((Fr.of_below hb').trans (Fr.setP _ _ _)).trans (Fr.setP _ _ _)⟩
  unfold filled
  rw [if_neg (by omega)]
  exact h.rb j hj

/-- the cells that the methods read -/
theorem Tb.c0 (h : Tb TBL SLOT w B p q st m r) : w.cell? ⟨p, 0, none⟩ = some (.slice (some ⟨q, 0, none⟩) st.length st.length) := by
  obtain ⟨ra, rcap, h1, h2⟩ := h.tbl; rw [cell_of_block h1]; rfl
theorem Tb.c1 (h : Tb TBL SLOT w B p q st m r) : w.cell? ⟨p, 1, none⟩ = some (.int .i64 (st.length : Int)) := by
  obtain ⟨ra, rcap, h1, h2⟩ := h.tbl; rw [cell_of_block h1]; rfl
theorem Tb.c2 (h : Tb TBL SLOT w B p q st m r) : ∃ ra rcap, w.cell? ⟨p, 2, none⟩ = some (.slice ra ((st.length + 63) / 64) rcap) ∧ SlK .u64 w ra ((st.length + 63) / 64) (pack r ((st.length + 63) / 64)) := by
  obtain ⟨ra, rcap, h1, h2⟩ := h.tbl; exact ⟨ra, rcap, by rw [cell_of_block h1]; rfl, SlK.of_own h2⟩
theorem Tb.c3 (h : Tb TBL SLOT w B p q st m r) : w.cell? ⟨p, 3, none⟩ = some (.int .i64 (m : Int)) := by
  obtain ⟨ra, rcap, h1, h2⟩ := h.tbl; rw [cell_of_block h1]; rfl
theorem Tb.fp (h : Tb TBL SLOT w B p q st m r) (j : Nat) : w.frozen? ⟨p, j, none⟩ = false := by
  obtain ⟨ra, rcap, h1, h2⟩ := h.tbl; exact unfrozen_of_block h1 j
theorem Tb.fq (h : Tb TBL SLOT w B p q st m r) (j : Nat) : w.frozen? ⟨q, j, none⟩ = false := unfrozen_of_block h.slots j
theorem Tb.s0 (h : Tb TBL SLOT w B p q st m r) {i : Nat} (hi : i < st.length) : w.cell? ⟨q, i * 3, none⟩ = some (.int .i64 ((st.getD i (0, false, undef)).1 : Int)) := by
  rw [cell_of_block h.slots, List.getElem?_toArray]; exact (slotCells_get st i 0 hi (by decide)).trans rfl
theorem Tb.s1 (h : Tb TBL SLOT w B p q st m r) {i : Nat} (hi : i < st.length) : w.cell? ⟨q, i * 3 + 1, none⟩ = some (.bool (st.getD i (0, false, undef)).2.1) := by
  rw [cell_of_block h.slots, List.getElem?_toArray]; exact (slotCells_get st i 1 hi (by decide)).trans rfl
theorem Tb.s2 (h : Tb TBL SLOT w B p q st m r) {i : Nat} (hi : i < st.length) : w.cell? ⟨q, i * 3 + 2, none⟩ = some (st.getD i (0, false, undef)).2.2 := by
  rw [cell_of_block h.slots, List.getElem?_toArray]; exact (slotCells_get st i 2 hi (by decide)).trans rfl
theorem Tb.chk0 (h : Tb TBL SLOT w B p q st m r) : chk st.length (pack r ((st.length + 63) / 64)) = 0 := by
  have := h.n2
  refine chk_ok (by omega) (by rw [pack_length]; omega) fun i hi hn => ?_
  rw [pack_length] at hi
  rw [pack_bat _ _ _ hi]
  exact h.rb i (by omega)
end
end Go.Proofs.YtpaecmpiokkdnaaDoor

namespace Go.Proofs.YtpaecmpiokkdnaaDoor
open Go.RowKit Go.Sort Go.Joins

theorem slotCells_replicate (s : Slt) : ∀ (n k : Nat), k < n * 3 → (slotCells (List.replicate n s))[k]? = (sc s)[k % 3]?
  | 0, k, h => by omega
  | n + 1, k, h => by
    rw [List.replicate_succ]
    simp only [slotCells]
    by_cases hk : k < 3
    · rw [List.getElem?_append_left (by simp [sc]; omega), Nat.mod_eq_of_lt hk]
    · rw [List.getElem?_append_right (by simp [sc]; omega), show k - (sc s).length = k - 3 by simp [sc], slotCells_replicate s n (k - 3) (by omega), show (k - 3) % 3 = k % 3 by omega]
theorem made_slots (n : Nat) (z : Value) : (madeCells #[.int .i64 0, .bool false, z] (n * 3)).toList = slotCells (List.replicate n (0, false, z)) := by
  apply List.ext_getElem?
  intro k
  by_cases hk : k < n * 3
  · rw [slotCells_replicate _ _ _ hk]
    have h3 : k % 3 < 3 := Nat.mod_lt _ (by decide)
    simp only [madeCells, Array.toList_map, Array.toList_range, List.getElem?_map, List.getElem?_range hk, Option.map_some]
    obtain ⟨j, hj⟩ : ∃ j, j = k % 3 := ⟨_, rfl⟩
    have e : k % (#[Value.int .i64 0, .bool false, z] : Array Value).size = j := by rw [hj]; rfl
    rw [e, ← hj]
    rw [← hj] at h3
    match j, h3 with
    | 0, _ => rfl
    | 1, _ => rfl
    | 2, _ => rfl
  · rw [List.getElem?_eq_none (by simp [madeCells]; omega), List.getElem?_eq_none (by rw [slotCells_length, List.length_replicate]; omega)]
end Go.Proofs.YtpaecmpiokkdnaaDoor

namespace Go.Proofs.YtpaecmpiokkdnaaDoor
open Go.RowKit Go.Sort Go.Joins

theorem nxt_congr {p q : Nat → Bool} {a n : Nat} (han : a ≤ n) (h : ∀ i, a ≤ i → i < n → p i = q i) : nxt p a n = nxt q a n := by
  obtain ⟨h1, h2, h3, h4⟩ := nxt_spec (p := q) han
  exact nxt_eq han h1 h2 (fun i hi hj => by rw [h i hi (by omega)]; exact h3 i hi hj) (fun hlt => by rw [h _ h1 hlt]; exact h4 hlt)
theorem next_tb {TBL SLOT : TypeId} {w : World} {B p q : Nat} {st : List Slt} {m : Nat} {r : Nat → Bool} (h : Tb TBL SLOT w B p q st m r) :
    nextV st.length (pack r ((st.length + 63) / 64)) 0 true = (if nxt r 0 st.length < st.length then ((nxt r 0 st.length : Nat) : Int) else 0) ∧
    nextE st.length (pack r ((st.length + 63) / 64)) 0 true = (if nxt r 0 st.length < st.length then 0 else 4) := by
  have e : nxt (look (pack r ((st.length + 63) / 64)) true) 0 st.length = nxt r 0 st.length := nxt_congr (Nat.zero_le _) fun i _ hi => by
    unfold look
    rw [pack_bat _ _ _ (by omega)]; simp
  have hp : prt st.length (pack r ((st.length + 63) / 64)) 0 0 = 0 := prt_ok h.chk0 (by omega)
  unfold nextV nextE
  simp only [Int.toNat_natCast, hp, Int.toNat_zero, e]
  simp
end Go.Proofs.YtpaecmpiokkdnaaDoor

namespace Go.Proofs.YtpaecmpiokkdnaaDoor
open Go.RowKit Go.Sort Go.Joins
attribute [local go_sem] cell_grow frozen_grow size_grow

def slotI (h : Int) : Int := if h < 65536 ∨ 4294967296 ≤ h then -1 else h % 65536
def numI (h : Int) : Int := if h < 65536 ∨ 4294967296 ≤ h then 0 else h / 65536
theorem and_65535 (h : Int) (h0 : 0 ≤ h) (h1 : h < 4294967296) : bits BinOp.and IntKind.i64 h 65535 = h % 65536 :=
  bits_mask .i64 63 (by decide) (fun n h0 h1 => IntWalk.i64_in n (by omega)) 16 (by decide) h h0 (by omega)

theorem slot_ok (h : Int) (w : World) :
    Calls Tryd.prog 11 #[.int .i64 h] w fun e w' => e = .returned (.tuple #[.int .i64 (slotI h), .int .i64 (numI h)]) ∧ w = w' := by
  by_cases h1 : h < 65536
  · have R1 := Lib.hid (show slotI h = -1 from if_pos (.inl h1))
    have R2 := Lib.hid (show numI h = 0 from if_pos (.inl h1))
    go_enter Tryd.func11, Tryd.ntmps11
    go_wp2
    go_ret2
    exact ⟨ret_two R1.out.symm R2.out.symm, rfl⟩
  by_cases h2 : 4294967296 ≤ h
  · have R1 := Lib.hid (show slotI h = -1 from if_pos (.inr h2))
    have R2 := Lib.hid (show numI h = 0 from if_pos (.inr h2))
    go_enter Tryd.func11, Tryd.ntmps11
    go_wp2
    go_ret2
    exact ⟨ret_two R1.out.symm R2.out.symm, rfl⟩
  · have R1 := Lib.hid (show slotI h = h % 65536 from if_neg (by omega))
    have R2 := Lib.hid (show numI h = h / 65536 from if_neg (by omega))
    have hb := Lib.hid (and_65535 h (by omega) (by omega))
    have g1 : 65536 ≤ h := by omega
    have g2 : h < 4294967296 := by omega
    clear h1 h2
    go_enter Tryd.func11, Tryd.ntmps11
    go_wp2
    go_ret2
    exact ⟨ret_two (hb.out.trans R1.out.symm) R2.out.symm, rfl⟩

theorem rslot_ok (h : Int) (w : World) :
    Calls Tryd.prog 12 #[.int .i64 h] w fun e w' => e = .returned (.tuple #[.int .i64 (slotI h), .int .i64 (numI h)]) ∧ w = w' := by
  by_cases h1 : h < 65536
  · have R1 := Lib.hid (show slotI h = -1 from if_pos (.inl h1))
    have R2 := Lib.hid (show numI h = 0 from if_pos (.inl h1))
    go_enter Tryd.func12, Tryd.ntmps12
    go_wp2
    go_ret2
    exact ⟨ret_two R1.out.symm R2.out.symm, rfl⟩
  by_cases h2 : 4294967296 ≤ h
  · have R1 := Lib.hid (show slotI h = -1 from if_pos (.inr h2))
    have R2 := Lib.hid (show numI h = 0 from if_pos (.inr h2))
    go_enter Tryd.func12, Tryd.ntmps12
    go_wp2
    go_ret2
    exact ⟨ret_two R1.out.symm R2.out.symm, rfl⟩
  · have R1 := Lib.hid (show slotI h = h % 65536 from if_neg (by omega))
    have R2 := Lib.hid (show numI h = h / 65536 from if_neg (by omega))
    have g1 : 65536 ≤ h := by omega
    have g2 : h < 4294967296 := by omega
    clear h1 h2
    go_enter Tryd.func12, Tryd.ntmps12
    go_wp2
    go_ret2
    exact ⟨ret_two R1.out.symm R2.out.symm, rfl⟩
end Go.Proofs.YtpaecmpiokkdnaaDoor
