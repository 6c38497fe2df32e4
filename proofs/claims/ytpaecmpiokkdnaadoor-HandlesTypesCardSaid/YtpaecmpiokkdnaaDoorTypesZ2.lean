/- Package bits: mask. math/bits: OnesCount64. What they return. | Package bits: count. | Plain facts: the first set bit; searching. No program. | Package bits: part, Count; math/bits: TrailingZeros64; word, next, Next. | math/bits: TrailingZeros64; package bits: word, next, Next. -/
import Derived.Test.YtpaecmpiokkdnaaDoorTypesZ1
import Derived.Lib.TrailingZeros
namespace Go.Proofs.YtpaecmpiokkdnaaDoor
open Go.RowKit Go.Sort
attribute [local go_sem] cell_grow frozen_grow size_grow

theorem ret_u64 {a b : Int} (h : a = b) : Ending.returned (.int .u64 a) = .returned (.int .u64 b) := by rw [h]
theorem below_draw (w : World) (k : Nat) : Below w.heap.size w (w.drewN k) := ⟨rfl, rfl, rfl, Nat.le_refl _, fun _ _ => rfl⟩

theorem mask_val (f t : Nat) (_ht : t ≤ 64) : bits BinOp.and IntKind.u64 (IntKind.u64.wrap (18446744073709551615 * 2 ^ f)) (18446744073709551615 / 2 ^ (64 - t)) = ((mk f t : Nat) : Int) := by
  have e1 : IntKind.u64.wrap (18446744073709551615 * 2 ^ f) = ((18446744073709551615 * 2 ^ f % 18446744073709551616 : Nat) : Int) := by
    rw [IntKind.wrap_u64]; simp
  have e2 : (18446744073709551615 : Int) / 2 ^ (64 - t) = ((18446744073709551615 / 2 ^ (64 - t) : Nat) : Int) := by simp
  rw [e1, e2, u64_and_nat _ _ (Nat.mod_lt _ (by decide))]
  · rfl
  · exact Nat.lt_of_le_of_lt (Nat.div_le_self _ _) (by decide)
theorem mask_ok (f t : Nat) (w : World) (hf : f ≤ 64) (ht : t ≤ 64) :
    Calls Tryd.prog 82 #[.int .i64 f, .int .i64 t] w fun e w' => e = .returned (.int .u64 (mk f t : Nat)) ∧ ∃ m, w' = w.drewN m := by
  have h0 : (0 : Int) ≤ 64 - (t : Int) := by omega
  go_enter Tryd.func82, Tryd.ntmps82
  go_wp2
  go_quiet (fail)
  go_wp2
  go_ret
  exact ⟨ret_u64 (mask_val f t ht), _, rfl⟩

/-- the same, over integers -/
theorem mask_int (f t : Int) (w : World) (hf0 : 0 ≤ f) (hf : f ≤ 64) (ht0 : 0 ≤ t) (ht : t ≤ 64) :
    Calls Tryd.prog 82 #[.int .i64 f, .int .i64 t] w fun e w' => e = .returned (.int .u64 (mk f.toNat t.toNat : Nat)) ∧ ∃ m, w' = w.drewN m := by
  obtain ⟨f, rfl⟩ := Int.eq_ofNat_of_zero_le hf0
  obtain ⟨t, rfl⟩ := Int.eq_ofNat_of_zero_le ht0
  exact mask_ok f t w (by omega) (by omega)

def A1 (X : Int) : Int := IntKind.u64.wrap (bits BinOp.and IntKind.u64 (X / 2) 6148914691236517205 + bits BinOp.and IntKind.u64 X 6148914691236517205)
def A2 (X : Int) : Int := IntKind.u64.wrap (bits BinOp.and IntKind.u64 (X / 4) 3689348814741910323 + bits BinOp.and IntKind.u64 X 3689348814741910323)
def A3 (X : Int) : Int := bits BinOp.and IntKind.u64 (IntKind.u64.wrap (X / 16 + X)) 1085102592571150095
def A4 (X : Int) : Int := IntKind.u64.wrap (X + X / 256)
def A5 (X : Int) : Int := IntKind.u64.wrap (X + X / 65536)
def A6 (X : Int) : Int := IntKind.u64.wrap (X + X / 4294967296)
def A7 (X : Int) : Int := bits BinOp.and IntKind.i64 (wrap64 X) 127
theorem A1_nat (x : Nat) (hx : x < 18446744073709551616) : A1 x = ((s1 8 x : Nat) : Int) := by
  unfold A1
  rw [swar_s1, show (x : Int) / 2 = ((x / 2 : Nat) : Int) by simp, show (6148914691236517205 : Int) = ((6148914691236517205 : Nat) : Int) from rfl, u64_and_nat _ _ (by omega) (by omega), u64_and_nat _ _ hx (by omega)]
  have a1 : (x / 2) &&& 6148914691236517205 ≤ 6148914691236517205 := Nat.and_le_right
  have a2 : x &&& 6148914691236517205 ≤ 6148914691236517205 := Nat.and_le_right
  rw [IntWalk.u64_in _ (by omega)]; simp
theorem A2_nat (x : Nat) (hx : x < 18446744073709551616) : A2 x = ((s2 8 x : Nat) : Int) := by
  unfold A2
  rw [swar_s2, show (x : Int) / 4 = ((x / 4 : Nat) : Int) by simp, show (3689348814741910323 : Int) = ((3689348814741910323 : Nat) : Int) from rfl, u64_and_nat _ _ (by omega) (by omega), u64_and_nat _ _ hx (by omega)]
  have a1 : (x / 4) &&& 3689348814741910323 ≤ 3689348814741910323 := Nat.and_le_right
  have a2 : x &&& 3689348814741910323 ≤ 3689348814741910323 := Nat.and_le_right
  rw [IntWalk.u64_in _ (by omega)]; simp
theorem A3_nat (x : Nat) (hx : x / 16 + x < 18446744073709551616) : A3 x = ((s3 8 x : Nat) : Int) := by
  unfold A3
  rw [swar_s3, show (x : Int) / 16 + x = ((x / 16 + x : Nat) : Int) by simp, show (1085102592571150095 : Int) = ((1085102592571150095 : Nat) : Int) from rfl, IntWalk.u64_in _ (by omega), u64_and_nat _ _ hx (by omega)]
theorem s1_le (x : Nat) : s1 8 x ≤ 12297829382473034410 := by
  rw [swar_s1]
  have a1 : (x / 2) &&& 6148914691236517205 ≤ 6148914691236517205 := Nat.and_le_right
  have a2 : x &&& 6148914691236517205 ≤ 6148914691236517205 := Nat.and_le_right
  omega
theorem s2_le (x : Nat) : s2 8 x ≤ 7378697629483820646 := by
  rw [swar_s2]
  have a1 : (x / 4) &&& 3689348814741910323 ≤ 3689348814741910323 := Nat.and_le_right
  have a2 : x &&& 3689348814741910323 ≤ 3689348814741910323 := Nat.and_le_right
  omega
theorem A7_nat (x : Nat) (hx : x ≤ 9223372036854775807) : A7 x = ((x % 128 : Nat) : Int) := by
  unfold A7
  rw [IntWalk.wrap64_in _ (by omega), show (127 : Int) = 2 ^ 7 - 1 from rfl, bits_mask .i64 63 (by decide) (fun n h0 h1 => IntWalk.i64_in n (by omega)) 7 (by decide) x (by omega) (by omega)]
  simp
theorem ones_val (x : Nat) (hx : x < 18446744073709551616) : A7 (A6 (A5 (A4 (A3 (A2 (A1 x)))))) = ((pop x : Nat) : Int) := by
  obtain ⟨z, y, v, h1, h2, h3, h4, h5, h6, h7, h8⟩ := swar x hx
  have b1 := s1_le x
  have b2 := s2_le (s1 8 x)
  rw [A1_nat x hx, A2_nat _ (by omega), A3_nat _ (by omega), ← h1]
  have e4 : A4 z = ((y : Nat) : Int) := by unfold A4; rw [IntWalk.u64_in _ (by omega), h3]; simp
  have e5 : A5 y = ((v : Nat) : Int) := by unfold A5; rw [IntWalk.u64_in _ (by omega), h5]; simp
  have e6 : A6 v = ((v + v / 4294967296 : Nat) : Int) := by unfold A6; rw [IntWalk.u64_in _ (by omega)]; simp
  rw [e4, e5, e6, A7_nat _ h7, h8]

theorem ones_ok (x : Nat) (w : World) (hx : x < 18446744073709551616) :
    Calls Tryd.prog 87 #[.int .u64 x] w fun e w' => e = .returned (.int .i64 (pop x : Nat)) ∧ w = w' := by
  have R := Lib.hid (ones_val x hx)
  go_enter Tryd.func87, Tryd.ntmps87
  go_wp2
  go_ret
  exact ⟨ret_i64 R.out, rfl⟩
theorem ones_int (x : Int) (w : World) (h0 : 0 ≤ x) (hx : x < 18446744073709551616) :
    Calls Tryd.prog 87 #[.int .u64 x] w fun e w' => e = .returned (.int .i64 (pop x.toNat : Nat)) ∧ w = w' := by
  obtain ⟨x, rfl⟩ := Int.eq_ofNat_of_zero_le h0
  exact ones_ok x w (by omega)
theorem and_rng (x y : Nat) (hx : x < 18446744073709551616) (hy : y < 18446744073709551616) : 0 ≤ bits BinOp.and IntKind.u64 (x : Int) (y : Int) ∧ bits BinOp.and IntKind.u64 (x : Int) (y : Int) < 18446744073709551616 := by
  rw [u64_and_nat _ _ hx hy]
  have : x &&& y ≤ x := Nat.and_le_left
  omega
theorem quiet_same {P : Program} {f : FuncId} {args : Array Value} {w : World} {n : Nat} {v : Value}
    (h : Calls P f args (w.drewN n) fun e w' => e = .returned v ∧ w.drewN n = w') : Calls P f args (w.drewN n) fun e w'' => e = .returned v ∧ ∃ m, w'' = w.drewN m :=
  h.mono fun _ _ ⟨he, hm⟩ => ⟨he, n, hm.symm⟩
end Go.Proofs.YtpaecmpiokkdnaaDoor

namespace Go.Proofs.YtpaecmpiokkdnaaDoor
open Go.RowKit Go.Sort
attribute [local go_sem] cell_grow frozen_grow size_grow

theorem lo_nat (f k : Nat) : (if (k : Int) * 64 < (f : Int) then (f : Int) - (k : Int) * 64 else 0).toNat = f - 64 * k := by split <;> omega
theorem hi_nat (t k : Nat) : (if (t : Int) - (k : Int) * 64 < 64 then (t : Int) - (k : Int) * 64 else 64).toNat = min 64 (t - 64 * k) := by split <;> omega
theorem count_round (ws : List Nat) (f t k : Nat) (h : 64 * k < t) (hf : f / 64 ≤ k) (ht : t ≤ 4096) (hx : ws[k]?.getD 0 < 18446744073709551616) :
    wrap64 (↑(cnt (bat ws) f (min t (64 * k))) + ↑(pop (bits BinOp.and IntKind.u64 ↑(ws[k]?.getD 0)
      ↑(mk (if (k : Int) * 64 < (f : Int) then (f : Int) - (k : Int) * 64 else 0).toNat (if (t : Int) - (k : Int) * 64 < 64 then (t : Int) - (k : Int) * 64 else 64).toNat)).toNat)) =
    ((cnt (bat ws) f (min t (64 * (k + 1))) : Nat) : Int) := by
  rw [count_step ws h hf, lo_nat, hi_nat, u64_and_nat _ _ hx (mk_lt _ _), List.getD_eq_getElem?_getD, Int.toNat_natCast]
  have h1 := cnt_le (bat ws) f (min t (64 * k))
  have h2 := pop_le (ws[k]?.getD 0 &&& mk (f - 64 * k) (min 64 (t - 64 * k)))
  rw [IntWalk.wrap64_in _ (by omega)]
  simp

theorem drewN_of {w wr : World} {m : Nat} (h : wr = w.drewN m) (k : Nat) : ∃ m', wr.drewN k = w.drewN m' := ⟨m + k, by rw [h, World.drewN_drewN]⟩
set_option maxHeartbeats 400000 in
theorem bcount_ok (a : Option Addr) (f t len cap : Nat) (ws : List Nat) (w : World) (hs : SlK .u64 w a len ws) (hw : ∀ x ∈ ws, x < 18446744073709551616) (hft : f ≤ t) (ht : t ≤ 64 * len) (hlen : len ≤ 64) :
    Calls Tryd.prog 81 #[.slice a len cap, .int .i64 f, .int .i64 t] w fun e w' => e = .returned (.int .i64 (cnt (bat ws) f t : Nat)) ∧ ∃ m, w' = w.drewN m := by
  go_enter Tryd.func81, Tryd.ntmps81
  go_wp2
  go_loopw [7, 8] (fun n i wr => ∃ k : Nat, f / 64 ≤ k ∧ k ≤ (t + 63) / 64 ∧ i = .int .i64 k ∧ n = .int .i64 (cnt (bat ws) f (min t (64 * k)) : Nat) ∧ ∃ m, wr = w.drewN m) (fun _ i _ => len - (intOf i).toNat)
  case atStart => exact ⟨f / 64, Nat.le_refl _, by omega, by go_num, by rw [cnt_zero (by omega)]; rfl, 0, rfl⟩
  case round =>
    obtain ⟨k, hk1, hk2, rfl, rfl, m, hm⟩ := hrel
    have Hm := Lib.hid hm
    by_cases hlt : 64 * k < t
    · obtain ⟨b, off, rfl, hc⟩ := hs.cells.resolve_left (by omega)
      have hck : wr.cell? ⟨b, off + k, none⟩ = some (.int .u64 (ws.getD k 0 : Nat)) := by rw [hm]; exact hc k (by omega)
      have hx : ws[k]?.getD 0 < 18446744073709551616 := by have := getD_lt hw (by decide) k; rwa [List.getD_eq_getElem?_getD] at this
      have hk0 : (0 : Int) ≤ (k : Int) := by omega
      have hk3 : (k : Int) < (len : Int) := by omega
      have hcl := cnt_le (bat ws) f (min t (64 * k))
      clear hc hs hk2 hm
      go_wp2
      go_quiet (first
        | (go_at_call 82; exact Calls.quiet_of (mask_int _ _ _ (by omega) (by omega) (by omega) (by omega)))
        | (go_at_call 87; exact quiet_same (ones_int _ _ (and_rng _ _ hx (mk_lt _ _)).1 (and_rng _ _ hx (mk_lt _ _)).2)))
      go_wp2
      go_roundw
      case rel => exact ⟨k + 1, by omega, by omega, by go_num, by rw [count_round ws f t k hlt hk1 (by omega) hx], drewN_of Hm.out _⟩
      case measure => simp [intOf]; omega
    · clear hm
      go_wp2
      go_ret
      have e : min t (64 * k) = t := by omega
      exact ⟨ret_i64 (by rw [e]), _, Hm.out⟩
end Go.Proofs.YtpaecmpiokkdnaaDoor

namespace Go.Proofs.YtpaecmpiokkdnaaDoor

/-- the first i from a on, below n, that holds; else n -/
def nxtF (p : Nat → Bool) : Nat → Nat → Nat
  | 0, a => a
  | m + 1, a => if p a = true then a else nxtF p m (a + 1)
def nxt (p : Nat → Bool) (a n : Nat) : Nat := nxtF p (n - a) a
theorem nxtF_spec (p : Nat → Bool) : ∀ m a, a ≤ nxtF p m a ∧ nxtF p m a ≤ a + m ∧ (∀ i, a ≤ i → i < nxtF p m a → p i = false) ∧ (nxtF p m a < a + m → p (nxtF p m a) = true)
  | 0, a => ⟨Nat.le_refl _, Nat.le_refl _, fun i h1 h2 => by simp only [nxtF] at h2; omega, fun h => by simp only [nxtF] at h; omega⟩
  | m + 1, a => by
    simp only [nxtF]
    split
    · rename_i h
      exact ⟨Nat.le_refl _, by omega, fun i h1 h2 => by omega, fun _ => h⟩
    · rename_i h
      obtain ⟨h1, h2, h3, h4⟩ := nxtF_spec p m (a + 1)
      refine ⟨by omega, by omega, fun i hi hj => ?_, fun hlt => h4 (by omega)⟩
      by_cases e : i = a
      · subst e; simpa using h
      · exact h3 i (by omega) hj
theorem nxt_spec {p : Nat → Bool} {a n : Nat} (h : a ≤ n) : a ≤ nxt p a n ∧ nxt p a n ≤ n ∧ (∀ i, a ≤ i → i < nxt p a n → p i = false) ∧ (nxt p a n < n → p (nxt p a n) = true) := by
  obtain ⟨h1, h2, h3, h4⟩ := nxtF_spec p (n - a) a
  refine ⟨h1, ?_, h3, fun hlt => h4 ?_⟩
  · unfold nxt; omega
  · unfold nxt at hlt; omega
theorem nxt_eq {p : Nat → Bool} {a n r : Nat} (h : a ≤ n) (h1 : a ≤ r) (h2 : r ≤ n) (h3 : ∀ i, a ≤ i → i < r → p i = false) (h4 : r < n → p r = true) : nxt p a n = r := by
  obtain ⟨g1, g2, g3, g4⟩ := nxt_spec (p := p) h
  rcases Nat.lt_trichotomy (nxt p a n) r with hlt | he | hgt
  · have := h3 _ g1 hlt
    rw [g4 (by omega)] at this; cases this
  · exact he
  · have := g3 _ h1 hgt
    rw [h4 (by omega)] at this; cases this

theorem ctz_bit {x : Nat} (h0 : x ≠ 0) (h : x < 18446744073709551616) : Lib.ctz 64 x < 64 ∧ x.testBit (Lib.ctz 64 x) = true ∧ ∀ j, j < Lib.ctz 64 x → x.testBit j = false := by
  obtain ⟨m, hm, hl⟩ := Lib.ctzFrom_spec 64 x (by omega) h
  have e : Lib.ctz 64 x = Lib.ctzFrom 64 x := by unfold Lib.ctz; rw [if_neg h0]
  rw [e]
  generalize Lib.ctzFrom 64 x = c at *
  subst hm
  refine ⟨hl, ?_, fun j hj => ?_⟩
  · rw [Nat.testBit_two_pow_mul]
    simp
  · rw [Nat.testBit_two_pow_mul]
    simp; omega

/-- the bits of a word that are looked for -/
def wrd (x : Nat) (on : Bool) (t : Nat) : Nat := (if on then x else 18446744073709551615 - x) &&& mk 0 t
theorem wrd_lt (x : Nat) (on : Bool) (t : Nat) : wrd x on t < 18446744073709551616 := Nat.lt_of_le_of_lt Nat.and_le_right (mk_lt 0 t)
theorem flip_testBit {x : Nat} (hx : x < 18446744073709551616) (j : Nat) : (18446744073709551615 - x).testBit j = (decide (j < 64) && !x.testBit j) := by
  have := Nat.testBit_two_pow_sub_succ (x := x) (n := 64) (by simpa using hx) j
  rw [show 2 ^ 64 - (x + 1) = 18446744073709551615 - x by omega] at this
  exact this
theorem wrd_testBit {x : Nat} (hx : x < 18446744073709551616) (on : Bool) {t : Nat} (ht : t ≤ 64) (j : Nat) : (wrd x on t).testBit j = (decide (j < t) && (x.testBit j == on)) := by
  unfold wrd
  rw [Nat.testBit_and, mk_testBit (by omega) ht]
  cases on
  · rw [if_neg (by simp), flip_testBit hx]
    by_cases h : j < t <;> simp [h] <;> omega
  · simp
    cases x.testBit j <;> simp
/-- what is looked for in bits -/
def look (ws : List Nat) (on : Bool) (i : Nat) : Bool := bat ws i == on
theorem look_word {ws : List Nat} {on : Bool} {n k j : Nat} (hw : ∀ x ∈ ws, x < 18446744073709551616) (hj : j < min 64 (n - 64 * k)) : (wrd (ws.getD k 0) on (min 64 (n - 64 * k))).testBit j = look ws on (64 * k + j) := by
  rw [wrd_testBit (getD_lt hw (by decide) k) on (by omega)]
  unfold look
  rw [bat_at _ _ _ (by omega)]
  simp [hj]
/-- one round of the search: nothing in this word -/
theorem next_none {ws : List Nat} {on : Bool} {n f k : Nat} (hw : ∀ x ∈ ws, x < 18446744073709551616)
    (h : wrd (ws.getD k 0) on (min 64 (n - 64 * k)) &&& mk (f - 64 * k) 64 = 0) (hf : f ≤ 64 * (k + 1)) : ∀ i, f ≤ i → 64 * k ≤ i → i < min n (64 * (k + 1)) → look ws on i = false := by
  intro i h1 h2 h3
  have e := look_word (ws := ws) (on := on) (n := n) (k := k) (j := i - 64 * k) hw (by omega)
  rw [show 64 * k + (i - 64 * k) = i by omega] at e
  have hb : (wrd (ws.getD k 0) on (min 64 (n - 64 * k)) &&& mk (f - 64 * k) 64).testBit (i - 64 * k) = false := by rw [h]; simp
  rw [Nat.testBit_and, mk_testBit (by omega) (by omega), e] at hb
  simpa [show f - 64 * k ≤ i - 64 * k by omega, show i - 64 * k < 64 by omega] using hb
/-- .. and where there is something -/
theorem next_some {ws : List Nat} {on : Bool} {n f k : Nat} (hw : ∀ x ∈ ws, x < 18446744073709551616)
    (h : wrd (ws.getD k 0) on (min 64 (n - 64 * k)) &&& mk (f - 64 * k) 64 ≠ 0) (hf : f ≤ 64 * (k + 1)) (hfn : f ≤ n) (hpre : ∀ i, f ≤ i → i < min n (64 * k) → look ws on i = false) :
    nxt (look ws on) f n = 64 * k + Lib.ctz 64 (wrd (ws.getD k 0) on (min 64 (n - 64 * k)) &&& mk (f - 64 * k) 64) := by
  obtain ⟨c1, c2, c3⟩ := ctz_bit h (Nat.lt_of_le_of_lt Nat.and_le_left (wrd_lt _ _ _))
  generalize Lib.ctz 64 (wrd (ws.getD k 0) on (min 64 (n - 64 * k)) &&& mk (f - 64 * k) 64) = c at *
  rw [Nat.testBit_and, mk_testBit (by omega) (by omega)] at c2
  simp only [Bool.and_eq_true, decide_eq_true_eq] at c2
  have hlt : c < min 64 (n - 64 * k) := by
    have := c2.1
    rw [wrd_testBit (getD_lt hw (by decide) k) on (by omega)] at this
    simp only [Bool.and_eq_true, decide_eq_true_eq] at this
    exact this.1
  have hl := look_word (ws := ws) (on := on) (n := n) (k := k) hw hlt
  rw [c2.1] at hl
  refine nxt_eq hfn (by omega) (by omega) (fun i h1 h2 => ?_) (fun _ => hl.symm)
  by_cases hik : i < 64 * k
  · exact hpre i h1 (by omega)
  · have e := look_word (ws := ws) (on := on) (n := n) (k := k) (j := i - 64 * k) hw (by omega)
    rw [show 64 * k + (i - 64 * k) = i by omega] at e
    have := c3 (i - 64 * k) (by omega)
    rw [Nat.testBit_and, mk_testBit (by omega) (by omega), e] at this
    simpa [show f - 64 * k ≤ i - 64 * k by omega, show i - 64 * k < 64 by omega] using this
end Go.Proofs.YtpaecmpiokkdnaaDoor

namespace Go.Proofs.YtpaecmpiokkdnaaDoor
open Go.RowKit Go.Sort
attribute [local go_sem] cell_grow frozen_grow size_grow

/-- the answer of part -/
def prt (N : Int) (ws : List Nat) (f t : Int) : Int := if chk N ws ≠ 0 then chk N ws else if f < 0 ∨ t < f ∨ N < t then 7 else 0
theorem prt_chk {N : Int} {ws : List Nat} {f t : Int} (h : chk N ws ≠ 0) : prt N ws f t = chk N ws := by unfold prt; rw [if_pos h]
theorem prt_bad {N : Int} {ws : List Nat} {f t : Int} (h : chk N ws = 0) (h2 : f < 0 ∨ t < f ∨ N < t) : prt N ws f t = 7 := by unfold prt; rw [if_neg (by simpa using h), if_pos h2]
theorem prt_ok {N : Int} {ws : List Nat} {f t : Int} (h : chk N ws = 0) (h2 : ¬ (f < 0 ∨ t < f ∨ N < t)) : prt N ws f t = 0 := by unfold prt; rw [if_neg (by simpa using h), if_neg h2]

/-- a pointer to bits -/
structure AtBits (w : World) (B : Nat) (N : Int) (a : Option Addr) (len cap : Nat) : Prop where
  n : w.cell? ⟨B, 0, none⟩ = some (.int .i64 N)
  s : w.cell? ⟨B, 1, none⟩ = some (.slice a len cap)
theorem AtBits.below {w w' : World} {B : Nat} {N : Int} {a : Option Addr} {len cap : Nat} (h : AtBits w B N a len cap) (hb : Below w.heap.size w w') : AtBits w' B N a len cap :=
  ⟨by rw [hb.cell (p := ⟨B, 0, none⟩) (World.block_lt_of_cell? _ _ h.n)]; exact h.n, by rw [hb.cell (p := ⟨B, 1, none⟩) (World.block_lt_of_cell? _ _ h.s)]; exact h.s⟩
theorem AtBits.new (w : World) (N : Int) (a : Option Addr) (len cap : Nat) (T : TypeId) : AtBits (w.alloc (.cells #[.int .i64 N, .slice a len cap] T)) w.heap.size N a len cap :=
  ⟨by rw [World.cell?_alloc_at _ _ _ _ rfl]; rfl, by rw [World.cell?_alloc_at _ _ _ _ rfl]; rfl⟩

theorem bne0_true {x : Int} (h : x ≠ 0) : (x != 0) = true := by simpa using h
theorem bne0_false {x : Int} (h : x = 0) : (x != 0) = false := by simpa using h

set_option maxHeartbeats 400000 in
theorem bpart_ok (B : Nat) (N f t : Int) (a : Option Addr) (len cap : Nat) (ws : List Nat) (w : World) (hB : AtBits w B N a len cap) (hs : SlK .u64 w a len ws) (hw : ∀ x ∈ ws, x < 18446744073709551616) (hlen : len ≤ 9223372036854775807) :
    Calls Tryd.prog 78 #[.pointer (some ⟨B, 0, none⟩), .int .i64 f, .int .i64 t] w fun e w' => e = .returned (.int .i64 (prt N ws f t)) ∧ Below w.heap.size w w' := by
  have hn := hB.n
  have hsl := hB.s
  have hlt := World.block_lt_of_cell? _ _ hn
  dsimp only at hlt
  clear hB
  by_cases hc : chk N ws = 0
  · have hcb := bne0_false hc
    by_cases h1 : f < 0 ∨ t < f ∨ N < t
    · have R := Lib.hid (prt_bad hc h1)
      clear hc
      by_cases g1 : f < 0
      · have d1 : decide (f < 0) = true := by simpa using g1
        clear h1
        go_enter Tryd.func78, Tryd.ntmps78
        go_wp2_with (go_at_call 83; refine (bCheck_ok N a len cap ws _ hs hw hlen).mono ?_; rintro e w1 ⟨rfl, hb⟩; obtain ⟨⟨d1, os1⟩, rfl⟩ := regrown_of_below hb; clear hb)
        go_ret
        exact ⟨ret_i64 R.out.symm, below_grow _ _ _⟩
      · have d1 : decide (f < 0) = false := by simpa using g1
        by_cases g2 : t < f
        · have d2 : decide (t < f) = true := by simpa using g2
          clear h1
          go_enter Tryd.func78, Tryd.ntmps78
          go_wp2_with (go_at_call 83; refine (bCheck_ok N a len cap ws _ hs hw hlen).mono ?_; rintro e w1 ⟨rfl, hb⟩; obtain ⟨⟨d1, os1⟩, rfl⟩ := regrown_of_below hb; clear hb)
          go_ret
          exact ⟨ret_i64 R.out.symm, below_grow _ _ _⟩
        · have d2 : decide (t < f) = false := by simpa using g2
          have d3 : decide (N < t) = true := by simp; omega
          clear h1
          go_enter Tryd.func78, Tryd.ntmps78
          go_wp2_with (go_at_call 83; refine (bCheck_ok N a len cap ws _ hs hw hlen).mono ?_; rintro e w1 ⟨rfl, hb⟩; obtain ⟨⟨d1, os1⟩, rfl⟩ := regrown_of_below hb; clear hb)
          go_ret
          exact ⟨ret_i64 R.out.symm, below_grow _ _ _⟩
    · have R := Lib.hid (prt_ok hc h1)
      have d1 : decide (f < 0) = false := by simp; omega
      have d2 : decide (t < f) = false := by simp; omega
      have d3 : decide (N < t) = false := by simp; omega
      clear hc h1
      go_enter Tryd.func78, Tryd.ntmps78
      go_wp2_with (go_at_call 83; refine (bCheck_ok N a len cap ws _ hs hw hlen).mono ?_; rintro e w1 ⟨rfl, hb⟩; obtain ⟨⟨d1, os1⟩, rfl⟩ := regrown_of_below hb; clear hb)
      go_ret
      exact ⟨ret_i64 R.out.symm, below_grow _ _ _⟩
  · have hcb := bne0_true hc
    have R := Lib.hid (prt_chk (f := f) (t := t) hc)
    clear hc
    go_enter Tryd.func78, Tryd.ntmps78
    go_wp2_with (go_at_call 83; refine (bCheck_ok N a len cap ws _ hs hw hlen).mono ?_; rintro e w1 ⟨rfl, hb⟩; obtain ⟨⟨d1, os1⟩, rfl⟩ := regrown_of_below hb; clear hb)
    go_ret
    exact ⟨ret_i64 R.out.symm, below_grow _ _ _⟩
theorem chk_zero {N : Int} {ws : List Nat} (h : chk N ws = 0) : 0 ≤ N ∧ N ≤ 4096 ∧ (ws.length : Int) = (N + 63) / 64 ∧ ∀ i, i < 64 * ws.length → N.toNat ≤ i → bat ws i = false := by
  unfold chk at h
  by_cases h1 : N < 0 ∨ 4096 < N
  · rw [if_pos h1] at h; cases h
  rw [if_neg h1] at h
  by_cases h2 : (ws.length : Int) ≠ (N + 63) / 64
  · rw [if_pos h2] at h; cases h
  rw [if_neg h2] at h
  by_cases h3 : ∀ i, i < 64 * ws.length → N.toNat ≤ i → bat ws i = false
  · exact ⟨by omega, by omega, by simpa using h2, h3⟩
  · rw [if_neg h3] at h; cases h
theorem prt_zero {N : Int} {ws : List Nat} {f t : Int} (h : prt N ws f t = 0) : chk N ws = 0 ∧ 0 ≤ f ∧ f ≤ t ∧ t ≤ N := by
  unfold prt at h
  by_cases h1 : chk N ws = 0
  · rw [if_neg (by simpa using h1)] at h
    by_cases h2 : f < 0 ∨ t < f ∨ N < t
    · rw [if_pos h2] at h; cases h
    · exact ⟨h1, by omega, by omega, by omega⟩
  · rw [if_pos h1] at h; exact absurd h h1

/-- what Count counts -/
def cntV (N : Int) (ws : List Nat) (f t : Int) : Int := if prt N ws f t = 0 then ((cnt (bat ws) f.toNat t.toNat : Nat) : Int) else 0
theorem ret_two {a b c d : Int} {k l : IntKind} (h : a = b) (h2 : c = d) : Ending.returned (.tuple #[.int k a, .int l c]) = .returned (.tuple #[.int k b, .int l d]) := by rw [h, h2]
theorem grow_drewN (W : World) (d : Nat) (os : Array Obj) (m : Nat) : Below W.heap.size W ((grow (redrawn W d) os).drewN m) := by
  have h := below_grow W d os
  exact ⟨h.os, h.tape, h.output, h.size, h.block⟩

set_option maxHeartbeats 400000 in
theorem bCount_ok (N f t : Int) (a : Option Addr) (len cap : Nat) (ws : List Nat) (w : World) (hs : SlK .u64 w a len ws) (hw : ∀ x ∈ ws, x < 18446744073709551616) (hlen : len ≤ 9223372036854775807) :
    Calls Tryd.prog 64 #[.agg #[.int .i64 N, .slice a len cap], .int .i64 f, .int .i64 t] w fun e w' => e = .returned (.tuple #[.int .i64 (cntV N ws f t), .int .i64 (prt N ws f t)]) ∧ Below w.heap.size w w' := by
  have hL := hs.length
  by_cases hp : prt N ws f t = 0
  · obtain ⟨hc, hf, hft, htN⟩ := prt_zero hp
    obtain ⟨hN0, hN, hl, _⟩ := chk_zero hc
    have R : cntV N ws f t = ((cnt (bat ws) f.toNat t.toNat : Nat) : Int) := by unfold cntV; rw [if_pos hp]
    have hpb := bne0_false hp
    obtain ⟨f, rfl⟩ := Int.eq_ofNat_of_zero_le hf
    obtain ⟨t, rfl⟩ := Int.eq_ofNat_of_zero_le (by omega : 0 ≤ t)
    have R := Lib.hid R
    have P := Lib.hid hp
    have L := Lib.hid hL
    have L2 := Lib.hid hl
    clear hp hc hL hl
    go_enter Tryd.func64, Tryd.ntmps64
    go_wp2_with (go_at_call 78; refine (bpart_ok _ N f t a len cap ws _ (AtBits.new w N a len cap _) (hs.alloc _) hw hlen).mono ?_; rintro e w1 ⟨rfl, hb⟩; obtain ⟨⟨d1, os1⟩, rfl⟩ := regrown_of_below hb; clear hb)
    refine (bcount_ok a f t len cap ws _ ((hs.alloc _).grow _ _) hw (by omega) (by have := L.out; have := L2.out; omega) (by have := L.out; have := L2.out; omega)).mono ?_
    rintro e w1 ⟨rfl, m, rfl⟩
    go_wp2
    go_ret2
    exact ⟨ret_two R.out.symm P.out.symm, (below_box0 _ _).trans ((grow_drewN _ _ _ _).mono (by simp))⟩
  · have hpb := bne0_true hp
    have R : cntV N ws f t = 0 := by unfold cntV; rw [if_neg hp]
    have R := Lib.hid R
    clear hp
    go_enter Tryd.func64, Tryd.ntmps64
    go_wp2_with (go_at_call 78; refine (bpart_ok _ N f t a len cap ws _ (AtBits.new w N a len cap _) (hs.alloc _) hw hlen).mono ?_; rintro e w1 ⟨rfl, hb⟩; obtain ⟨⟨d1, os1⟩, rfl⟩ := regrown_of_below hb; clear hb)
    go_ret2
    exact ⟨ret_two R.out.symm rfl, (below_box0 _ _).trans ((below_grow _ _ _).mono (by simp))⟩
end Go.Proofs.YtpaecmpiokkdnaaDoor

namespace Go.Proofs.YtpaecmpiokkdnaaDoor
open Go.RowKit Go.Sort
attribute [local go_sem] cell_grow frozen_grow size_grow

/-- the table of math/bits lies in block 0 -/
def Tab (w : World) : Prop := ∀ i, i < 64 → w.cell? ⟨0, i, none⟩ = some (.int .u8 (Lib.deBruijn64tab.getD i 0 : Nat))
theorem Tab.below {w w' : World} (h : Tab w) (hb : Below w.heap.size w w') : Tab w' := fun i hi => by
  rw [hb.cell (p := ⟨0, i, none⟩) (World.block_lt_of_cell? _ _ (h i hi))]; exact h i hi
theorem Tab.alloc {w : World} (h : Tab w) (o : Obj) : Tab (w.alloc o) := h.below (below_box0 _ _)
theorem Tab.grow {w : World} (h : Tab w) (d : Nat) (os : Array Obj) : Tab (grow (redrawn w d) os) := h.below (below_grow _ _ _)
theorem Tab.drewN {w : World} (h : Tab w) (d : Nat) : Tab (w.drewN d) := h

theorem tz_idx (x : Nat) (h0 : x ≠ 0) (hx : x < 18446744073709551616) :
    ∃ i, i < 64 ∧ IntKind.u64.wrap (bits BinOp.and IntKind.u64 (x : Int) (IntKind.u64.wrap (-(x : Int))) * 285870213051353865) / 288230376151711744 = ((i : Nat) : Int) ∧ Lib.deBruijn64tab.getD i 0 = Lib.ctz 64 x ∧ Lib.ctz 64 x < 64 := by
  obtain ⟨h1, h2⟩ := Lib.lowest_bit 64 x h0 hx
  obtain ⟨h3, h4⟩ := Lib.deBruijn64_at _ h2
  refine ⟨_, h3, ?_, h4, h2⟩
  have e : IntKind.u64.wrap (-(x : Int)) = ((2 ^ 64 - x : Nat) : Int) := by rw [IntKind.wrap_u64]; omega
  rw [e, u64_and_nat _ _ hx (by omega), h1, IntKind.wrap_u64]
  simp

theorem tz_ok (x : Nat) (w : World) (hT : Tab w) (h0 : x ≠ 0) (hx : x < 18446744073709551616) :
    Calls Tryd.prog 85 #[.int .u64 x] w fun e w' => e = .returned (.int .i64 (Lib.ctz 64 x : Nat)) ∧ w = w' := by
  have hb : ((x : Int) == 0) = false := by simpa using h0
  obtain ⟨i, hi, hv, htab, hlt⟩ := tz_idx x h0 hx
  have hc := hT i hi
  rw [htab] at hc
  clear htab hT
  go_enter Tryd.func85, Tryd.ntmps85
  go_wp2
  go_ret
  exact ⟨rfl, rfl⟩
theorem tz_int (x : Int) (w : World) (hT : Tab w) (h0 : 1 ≤ x) (hx : x < 18446744073709551616) :
    Calls Tryd.prog 85 #[.int .u64 x] w fun e w' => e = .returned (.int .i64 (Lib.ctz 64 x.toNat : Nat)) ∧ w = w' := by
  obtain ⟨x, rfl⟩ := Int.eq_ofNat_of_zero_le (by omega : 0 ≤ x)
  exact tz_ok x w hT (by omega) (by omega)

theorem xor_max (x : Nat) (hx : x < 18446744073709551616) : bits BinOp.xor IntKind.u64 18446744073709551615 (x : Int) = ((18446744073709551615 - x : Nat) : Int) := by
  rw [show (18446744073709551615 : Int) = ((18446744073709551615 : Nat) : Int) from rfl, u64_xor_nat _ _ (by omega) hx]
  congr 1
  apply Nat.eq_of_testBit_eq
  intro j
  rw [Nat.testBit_xor, ones_testBit, flip_testBit hx]
  by_cases hj : j < 64
  · simp [hj]
  · have : x.testBit j = false := Nat.testBit_lt_two_pow (Nat.lt_of_lt_of_le hx (by have := Nat.pow_le_pow_right (n := 2) (by decide) (by omega : 64 ≤ j); simpa using this))
    simp [hj, this]

theorem w_t (x t : Nat) (hx : x < 18446744073709551616) : bits BinOp.and IntKind.u64 (x : Int) (mk 0 t : Nat) = ((wrd x true t : Nat) : Int) := by
  rw [u64_and_nat _ _ hx (mk_lt _ _)]; rfl
theorem w_f (x t : Nat) (hx : x < 18446744073709551616) : bits BinOp.and IntKind.u64 (bits BinOp.xor IntKind.u64 IntKind.u64.max (x : Int)) (mk 0 t : Nat) = ((wrd x false t : Nat) : Int) := by
  rw [show IntKind.u64.max = (18446744073709551615 : Int) from rfl, xor_max x hx, u64_and_nat _ _ (by omega) (mk_lt _ _)]; rfl
theorem w_t1 (x n k : Nat) (hx : x < 18446744073709551616) (h : (n : Int) - (k : Int) * 64 < 64) (hk : 64 * k ≤ n) : bits BinOp.and IntKind.u64 (x : Int) (mk 0 ((n : Int) - (k : Int) * 64).toNat : Nat) = ((wrd x true (min 64 (n - 64 * k)) : Nat) : Int) := by
  rw [show ((n : Int) - (k : Int) * 64).toNat = min 64 (n - 64 * k) by omega, w_t _ _ hx]
theorem w_f1 (x n k : Nat) (hx : x < 18446744073709551616) (h : (n : Int) - (k : Int) * 64 < 64) (hk : 64 * k ≤ n) : bits BinOp.and IntKind.u64 (bits BinOp.xor IntKind.u64 IntKind.u64.max (x : Int)) (mk 0 ((n : Int) - (k : Int) * 64).toNat : Nat) = ((wrd x false (min 64 (n - 64 * k)) : Nat) : Int) := by
  rw [show ((n : Int) - (k : Int) * 64).toNat = min 64 (n - 64 * k) by omega, w_f _ _ hx]
theorem w_t2 (x n k : Nat) (hx : x < 18446744073709551616) (h : 64 ≤ (n : Int) - (k : Int) * 64) : bits BinOp.and IntKind.u64 (x : Int) (mk 0 64 : Nat) = ((wrd x true (min 64 (n - 64 * k)) : Nat) : Int) := by
  rw [show min 64 (n - 64 * k) = 64 by omega, w_t _ _ hx]
theorem w_f2 (x n k : Nat) (hx : x < 18446744073709551616) (h : 64 ≤ (n : Int) - (k : Int) * 64) : bits BinOp.and IntKind.u64 (bits BinOp.xor IntKind.u64 IntKind.u64.max (x : Int)) (mk 0 64 : Nat) = ((wrd x false (min 64 (n - 64 * k)) : Nat) : Int) := by
  rw [show min 64 (n - 64 * k) = 64 by omega, w_f _ _ hx]

set_option maxHeartbeats 400000 in
theorem bword_ok (B : Nat) (n k : Nat) (on : Bool) (a : Option Addr) (len cap : Nat) (ws : List Nat) (w : World) (hB : AtBits w B n a len cap) (hs : SlK .u64 w a len ws) (hw : ∀ x ∈ ws, x < 18446744073709551616) (hk : k < len) (hkn : 64 * k ≤ n) (hn : n ≤ 4096) :
    Calls Tryd.prog 84 #[.pointer (some ⟨B, 0, none⟩), .int .i64 k, .bool on] w fun e w' => e = .returned (.int .u64 (wrd (ws.getD k 0) on (min 64 (n - 64 * k)) : Nat)) ∧ ∃ m, w' = w.drewN m := by
  have hcn := hB.n
  have hsl := hB.s
  obtain ⟨b, off, rfl, hc⟩ := hs.cells.resolve_left (by omega)
  have hck := hc k hk
  have hx : ws[k]?.getD 0 < 18446744073709551616 := by have := getD_lt hw (by decide) k; rwa [List.getD_eq_getElem?_getD] at this
  have hk0 : (0 : Int) ≤ (k : Int) := by omega
  have hk3 : (k : Int) < (len : Int) := by omega
  clear hc hs hB hw
  cases on
  all_goals
    go_enter Tryd.func84, Tryd.ntmps84
    go_wp2_with (go_at_call 82; refine (mask_int _ _ _ (by omega) (by omega) (by omega) (by omega)).mono ?_; rintro e w1 ⟨rfl, m, rfl⟩)
    all_goals go_ret
    · have h : (n : Int) - (k : Int) * 64 < 64 := by assumption
      exact ⟨ret_u64 (by first | exact w_t1 _ _ _ hx h hkn | exact w_f1 _ _ _ hx h hkn), _, rfl⟩
    · have h : 64 ≤ (n : Int) - (k : Int) * 64 := by assumption
      exact ⟨ret_u64 (by first | exact w_t2 _ _ _ hx h | exact w_f2 _ _ _ hx h), _, rfl⟩
end Go.Proofs.YtpaecmpiokkdnaaDoor
