/- Plain facts: masks, counting, the number of set bits of a word by halves. No program. | Plain facts: the first set bit; searching. No program. | Clocks: names, the checks of plans, counts, what is left of a plan. No program. -/
import Derived.Test.YtjceahbikdncmaaDoorPZ1
import Derived.Lib.TrailingZeros
namespace Go.Proofs.YtjceahbikdncmaaDoor

/-- how many i with a ≤ i < b hold -/
def cnt (p : Nat → Bool) (a : Nat) : Nat → Nat
  | 0 => 0
  | b + 1 => cnt p a b + (if a ≤ b ∧ p b = true then 1 else 0)

theorem cnt_congr {p q : Nat → Bool} {a a' : Nat} : ∀ (b : Nat), (∀ i, i < b → ((a ≤ i ∧ p i = true) ↔ (a' ≤ i ∧ q i = true))) → cnt p a b = cnt q a' b
  | 0, _ => rfl
  | b + 1, h => by
    simp only [cnt]
    rw [cnt_congr b fun i hi => h i (by omega)]
    have := h b (by omega)
    simp only [this]
theorem cnt_le (p : Nat → Bool) (a : Nat) : ∀ b, cnt p a b ≤ b
  | 0 => Nat.le_refl _
  | b + 1 => by have := cnt_le p a b; simp only [cnt]; split <;> omega
theorem cnt_sub_le (p : Nat → Bool) (a : Nat) : ∀ b, cnt p a b ≤ b - a
  | 0 => by simp [cnt]
  | b + 1 => by have := cnt_sub_le p a b; simp only [cnt]; split <;> omega
theorem cnt_add (p : Nat → Bool) (a b : Nat) : ∀ m, cnt p a (b + m) = cnt p a b + cnt (fun j => p (b + j) && decide (a ≤ b + j)) 0 m
  | 0 => rfl
  | m + 1 => by
    rw [← Nat.add_assoc]
    simp only [cnt, cnt_add p a b m]
    by_cases h : a ≤ b + m <;> by_cases h' : p (b + m) = true <;> simp [h, h'] <;> omega
theorem cnt_none {p : Nat → Bool} {a : Nat} : ∀ (b : Nat), (∀ i, i < b → a ≤ i → p i = false) → cnt p a b = 0
  | 0, _ => rfl
  | b + 1, h => by
    simp only [cnt, cnt_none b fun i hi => h i (by omega)]
    rw [if_neg]
    rintro ⟨h1, h2⟩
    rw [h b (by omega) h1] at h2; cases h2
theorem cnt_cut {p : Nat → Bool} {a b : Nat} (c : Nat) (hc : b ≤ c) (h : ∀ i, b ≤ i → i < c → p i = false) : cnt p a c = cnt p a b := by
  obtain ⟨m, rfl⟩ := Nat.exists_eq_add_of_le hc
  rw [cnt_add, cnt_none (p := fun j => p (b + j) && decide (a ≤ b + j)) m, Nat.add_zero]
  intro i hi _
  simp [h (b + i) (by omega) (by omega)]
theorem cnt_zero {p : Nat → Bool} {a b : Nat} (h : b ≤ a) : cnt p a b = 0 := by
  have := cnt_sub_le p a b; omega
theorem cnt_eq_zero {p : Nat → Bool} {a : Nat} : ∀ {b : Nat}, cnt p a b = 0 → ∀ i, a ≤ i → i < b → p i = false
  | 0, _, _, _, hi => by omega
  | b + 1, h, i, ha, hi => by
    simp only [cnt] at h
    by_cases e : i = b
    · subst e
      cases hp : p i with
      | false => rfl
      | true => rw [if_pos ⟨ha, hp⟩] at h; omega
    · exact cnt_eq_zero (b := b) (by omega) i ha (by omega)

/-- the word with the bits from f on, below t -/
def mk (f t : Nat) : Nat := (18446744073709551615 * 2 ^ f % 18446744073709551616) &&& (18446744073709551615 / 2 ^ (64 - t))

theorem ones_testBit (i : Nat) : Nat.testBit 18446744073709551615 i = decide (i < 64) := by
  have : (18446744073709551615 : Nat) = 2 ^ 64 - 1 := by decide
  rw [this, Nat.testBit_two_pow_sub_one]
theorem mk_testBit {f t : Nat} (hf : f ≤ 64) (ht : t ≤ 64) (i : Nat) : (mk f t).testBit i = (decide (f ≤ i) && decide (i < t)) := by
  unfold mk
  rw [Nat.testBit_and, show (18446744073709551616 : Nat) = 2 ^ 64 by decide, Nat.testBit_mod_two_pow, Nat.mul_comm, Nat.testBit_two_pow_mul, Nat.testBit_div_two_pow, ones_testBit, ones_testBit]
  by_cases h1 : i < 64 <;> by_cases h2 : f ≤ i <;> by_cases h3 : i < t <;> simp [h1, h2, h3] <;> omega
theorem mk_lt (f t : Nat) : mk f t < 2 ^ 64 := by
  unfold mk
  refine Nat.lt_of_le_of_lt Nat.and_le_left ?_
  exact Nat.mod_lt _ (by decide)

/-- how many bits of a word are set -/
def pop (x : Nat) : Nat := cnt x.testBit 0 64
theorem pop_le (x : Nat) : pop x ≤ 64 := cnt_le _ _ _

theorem bat_at (ws : List Nat) (k j : Nat) (hj : j < 64) : bat ws (64 * k + j) = (ws.getD k 0).testBit j := by
  unfold bat
  rw [show (64 * k + j) / 64 = k by omega, show (64 * k + j) % 64 = j by omega]
theorem pop_mask {x f t : Nat} (hf : f ≤ 64) (ht : t ≤ 64) : pop (x &&& mk f t) = cnt (fun j => x.testBit j && decide (f ≤ j)) 0 t := by
  unfold pop
  rw [cnt_cut (b := t) 64 ht]
  · refine cnt_congr t fun i hi => ?_
    rw [Nat.testBit_and, mk_testBit hf ht]
    simp [hi]
  · intro i h1 h2
    rw [Nat.testBit_and, mk_testBit hf ht]
    simp; omega
theorem count_step (ws : List Nat) {f t k : Nat} (h : 64 * k < t) (hf : f / 64 ≤ k) :
    cnt (bat ws) f (min t (64 * (k + 1))) = cnt (bat ws) f (min t (64 * k)) + pop (ws.getD k 0 &&& mk (f - 64 * k) (min 64 (t - 64 * k))) := by
  rw [pop_mask (by omega) (by omega), show min t (64 * (k + 1)) = 64 * k + min 64 (t - 64 * k) by omega, cnt_add, show min t (64 * k) = 64 * k by omega]
  congr 1
  refine cnt_congr _ fun j hj => ?_
  rw [bat_at _ _ _ (by omega)]
  simp only [Bool.and_eq_true, decide_eq_true_eq]
  constructor <;> rintro ⟨h1, h2, h3⟩ <;> exact ⟨h1, h2, by omega⟩

/-! ### The number of set bits, by halves -/
def rep (c : Nat) : Nat → Nat
  | 0 => 0
  | n + 1 => rep c n * 256 + c
theorem and_split {b d : Nat} (a c : Nat) (hb : b < 256) (hd : d < 256) : (a * 256 + b) &&& (c * 256 + d) = (a &&& c) * 256 + (b &&& d) := by
  have hbd : b &&& d < 256 := Nat.lt_of_le_of_lt Nat.and_le_left hb
  rw [Nat.mul_comm a, Nat.mul_comm c, Nat.mul_comm (a &&& c), show (256 : Nat) = 2 ^ 8 from rfl]
  apply Nat.eq_of_testBit_eq
  intro i
  rw [Nat.testBit_and, Nat.testBit_two_pow_mul_add _ hb, Nat.testBit_two_pow_mul_add _ hd, Nat.testBit_two_pow_mul_add _ hbd]
  split <;> simp [Nat.testBit_and]
theorem rep_succ (c n : Nat) : rep c (n + 1) = rep c n * 256 + c := rfl
def s1 (n x : Nat) : Nat := ((x / 2) &&& rep 0x55 n) + (x &&& rep 0x55 n)
def s2 (n x : Nat) : Nat := ((x / 4) &&& rep 0x33 n) + (x &&& rep 0x33 n)
def s3 (n x : Nat) : Nat := (x / 16 + x) &&& rep 0x0f n
def g1 (b : Nat) : Nat := ((b / 2) &&& 0x55) + (b &&& 0x55)
def g2 (b : Nat) : Nat := ((b / 4) &&& 0x33) + (b &&& 0x33)
theorem g1_lt : ∀ b : Fin 256, g1 b.val < 256 := by decide +kernel
theorem g2_lt : ∀ b : Fin 256, g2 b.val < 256 := by decide +kernel
theorem c1 : ∀ b : Fin 256, ∀ t : Fin 2, (t.val * 128 + b.val / 2) &&& 0x55 = (b.val / 2) &&& 0x55 := by decide +kernel
theorem c2 : ∀ b : Fin 256, ∀ t : Fin 4, (t.val * 64 + b.val / 4) &&& 0x33 = (b.val / 4) &&& 0x33 := by decide +kernel
theorem s1_split (n a b : Nat) (hb : b < 256) : s1 (n + 1) (a * 256 + b) = s1 n a * 256 + g1 b := by
  unfold s1 g1
  rw [rep_succ]
  have e : (a * 256 + b) / 2 = (a / 2) * 256 + ((a % 2) * 128 + b / 2) := by omega
  rw [e, and_split _ _ (by omega) (by decide), and_split _ _ hb (by decide)]
  have := c1 ⟨b, hb⟩ ⟨a % 2, by omega⟩
  simp only at this
  rw [this]; omega
theorem s2_split (n a b : Nat) (hb : b < 256) : s2 (n + 1) (a * 256 + b) = s2 n a * 256 + g2 b := by
  unfold s2 g2
  rw [rep_succ]
  have e : (a * 256 + b) / 4 = (a / 4) * 256 + ((a % 4) * 64 + b / 4) := by omega
  rw [e, and_split _ _ (by omega) (by decide), and_split _ _ hb (by decide)]
  have := c2 ⟨b, hb⟩ ⟨a % 4, by omega⟩
  simp only at this
  rw [this]; omega
def g3 (b : Nat) : Nat := (b / 16 + b) % 16
theorem c3 : ∀ b : Fin 256, ∀ t : Fin 16, t.val ≤ 4 → b.val ≤ 68 → (t.val * 16 + b.val / 16 + b.val) &&& 0x0f = (b.val / 16 + b.val) % 16 := by decide +kernel
/-- each nibble is at most 4 -/
def Low : Nat → Nat → Prop
  | 0, x => x = 0
  | n + 1, x => x % 16 ≤ 4 ∧ x % 256 ≤ 68 ∧ Low n (x / 256)
theorem s3_split (n a b : Nat) (hb : b ≤ 68) (ha : a % 16 ≤ 4) : s3 (n + 1) (a * 256 + b) = s3 n a * 256 + g3 b := by
  unfold s3 g3
  rw [rep_succ]
  have e : (a * 256 + b) / 16 + (a * 256 + b) = (a / 16 + a) * 256 + ((a % 16) * 16 + b / 16 + b) := by omega
  rw [e, and_split _ _ (by omega) (by decide)]
  have := c3 ⟨b, by omega⟩ ⟨a % 16, by omega⟩ ha hb
  simp only at this
  rw [this]
def pop8 (b : Nat) : Nat := cnt b.testBit 0 8
theorem g_pop : ∀ b : Fin 256, g3 (g2 (g1 b.val)) = pop8 b.val ∧ g2 (g1 b.val) % 16 ≤ 4 ∧ g2 (g1 b.val) ≤ 68 := by decide +kernel
theorem pop_split (m a b : Nat) (hb : b < 256) : cnt (a * 256 + b).testBit 0 (8 + m) = pop8 b + cnt a.testBit 0 m := by
  rw [cnt_add]
  have h : ∀ i, (a * 256 + b).testBit i = if i < 8 then b.testBit i else a.testBit (i - 8) := fun i => by
    rw [Nat.mul_comm, show (256 : Nat) = 2 ^ 8 from rfl, Nat.testBit_two_pow_mul_add _ hb]
  congr 1
  · exact cnt_congr 8 fun i hi => by rw [h, if_pos hi]
  · refine cnt_congr m fun i hi => ?_
    simp only [h]
    rw [if_neg (by omega)]
    simp
/-- the first three steps, byte by byte -/
theorem steps (n : Nat) : ∀ x, x < 256 ^ n → ∃ z, s3 n (s2 n (s1 n x)) = z ∧ Low n (s2 n (s1 n x)) ∧ (∀ m, n = m + 1 → z = s3 m (s2 m (s1 m (x / 256))) * 256 + pop8 (x % 256)) := by
  induction n with
  | zero =>
    intro x hx
    refine ⟨_, rfl, ?_, fun m hm => by omega⟩
    have : x = 0 := by simpa using hx
    subst this; exact (show s2 0 (s1 0 0) = 0 by decide)
  | succ n ih =>
    intro x hx
    have hb : x % 256 < 256 := Nat.mod_lt _ (by decide)
    obtain ⟨g, hg1, hg2⟩ := g_pop ⟨x % 256, hb⟩
    simp only at g hg1 hg2
    have l1 := g1_lt ⟨x % 256, hb⟩
    have l2 := g2_lt ⟨g1 (x % 256), l1⟩
    simp only at l1 l2
    have ex : x = (x / 256) * 256 + x % 256 := by omega
    have hxa : x / 256 < 256 ^ n := by rw [Nat.pow_succ] at hx; omega
    obtain ⟨_, _, hL, _⟩ := ih (x / 256) hxa
    have e1 : s1 (n + 1) x = s1 n (x / 256) * 256 + g1 (x % 256) := by
      conv => lhs; rw [ex]
      exact s1_split n _ _ hb
    have e2 : s2 (n + 1) (s1 (n + 1) x) = s2 n (s1 n (x / 256)) * 256 + g2 (g1 (x % 256)) := by rw [e1]; exact s2_split n _ _ l1
    have hlow : s2 n (s1 n (x / 256)) % 16 ≤ 4 := by
      cases n with
      | zero => have : s2 0 (s1 0 (x / 256)) = 0 := hL; omega
      | succ m => exact hL.1
    have e3 : s3 (n + 1) (s2 (n + 1) (s1 (n + 1) x)) = s3 n (s2 n (s1 n (x / 256))) * 256 + g3 (g2 (g1 (x % 256))) := by rw [e2]; exact s3_split n _ _ hg2 hlow
    refine ⟨_, rfl, ?_, fun m hm => ?_⟩
    · rw [e2]
      refine ⟨by omega, by omega, ?_⟩
      rw [show (s2 n (s1 n (x / 256)) * 256 + g2 (g1 (x % 256))) / 256 = s2 n (s1 n (x / 256)) by omega]
      exact hL
    · obtain rfl : n = m := by omega
      rw [e3, g]
theorem step1 (n x : Nat) (hx : x < 256 ^ (n + 1)) : s3 (n + 1) (s2 (n + 1) (s1 (n + 1) x)) = s3 n (s2 n (s1 n (x / 256))) * 256 + pop8 (x % 256) := by
  obtain ⟨_, rfl, _, h⟩ := steps (n + 1) x hx
  exact h n rfl
theorem pop8_le (b : Nat) : pop8 b ≤ 8 := cnt_le _ _ _
theorem fold8 (z r0 r1 r2 r3 r4 r5 r6 r7 : Nat) (q0 : r0 ≤ 8) (q1 : r1 ≤ 8) (q2 : r2 ≤ 8) (q3 : r3 ≤ 8) (q4 : r4 ≤ 8) (q5 : r5 ≤ 8) (q6 : r6 ≤ 8) (q7 : r7 ≤ 8)
    (hz : z = (((((((0 * 256 + r7) * 256 + r6) * 256 + r5) * 256 + r4) * 256 + r3) * 256 + r2) * 256 + r1) * 256 + r0) : ∃ y v,
    z ≤ 578721382704613384 ∧ y = z + z / 256 ∧ y ≤ 18446744073709551615 ∧ v = y + y / 65536 ∧ v ≤ 18446744073709551615 ∧ v + v / 4294967296 ≤ 9223372036854775807 ∧ (v + v / 4294967296) % 128 = r0 + (r1 + (r2 + (r3 + (r4 + (r5 + (r6 + r7)))))) := by
  have hz' : z = r0 + 256 * r1 + 65536 * r2 + 16777216 * r3 + 4294967296 * r4 + 1099511627776 * r5 + 281474976710656 * r6 + 72057594037927936 * r7 := by omega
  clear hz
  have e1 : z / 256 = r1 + 256 * r2 + 65536 * r3 + 16777216 * r4 + 4294967296 * r5 + 1099511627776 * r6 + 281474976710656 * r7 := by omega
  obtain ⟨y, hy⟩ : ∃ y, y = z + z / 256 := ⟨_, rfl⟩
  have hy' : y = (r0 + r1) + 256 * (r1 + r2) + 65536 * (r2 + r3) + 16777216 * (r3 + r4) + 4294967296 * (r4 + r5) + 1099511627776 * (r5 + r6) + 281474976710656 * (r6 + r7) + 72057594037927936 * r7 := by rw [hy, e1]; omega
  have e2 : y / 65536 = (r2 + r3) + 256 * (r3 + r4) + 65536 * (r4 + r5) + 16777216 * (r5 + r6) + 4294967296 * (r6 + r7) + 1099511627776 * r7 := by clear hy e1 hz'; omega
  obtain ⟨v, hv⟩ : ∃ v, v = y + y / 65536 := ⟨_, rfl⟩
  have hv' : v = (r0 + r1 + r2 + r3) + 256 * (r1 + r2 + r3 + r4) + 65536 * (r2 + r3 + r4 + r5) + 16777216 * (r3 + r4 + r5 + r6) + 4294967296 * (r4 + r5 + r6 + r7) + 1099511627776 * (r5 + r6 + r7) + 281474976710656 * (r6 + r7) + 72057594037927936 * r7 := by
    rw [hv, e2]; clear e1 e2 hy hv hz'; omega
  have e3 : v / 4294967296 = (r4 + r5 + r6 + r7) + 256 * (r5 + r6 + r7) + 65536 * (r6 + r7) + 16777216 * r7 := by clear e1 e2 hy hy' hz' hv; omega
  refine ⟨y, v, ?_, hy, ?_, hv, ?_, ?_, ?_⟩
  · clear hv' hy' hy hv e1 e2 e3; omega
  · clear hv' hz' hy hv e1 e2 e3; omega
  · clear hy' hz' hy hv e1 e2 e3; omega
  · rw [e3]; clear hy' hz' hy hv e1 e2 e3; omega
  · rw [e3]; clear hy' hz' hy hv e1 e2 e3; omega
theorem swar (x : Nat) (hx : x < 18446744073709551616) : ∃ z y v, z = s3 8 (s2 8 (s1 8 x)) ∧ z ≤ 578721382704613384 ∧ y = z + z / 256 ∧ y ≤ 18446744073709551615 ∧ v = y + y / 65536 ∧ v ≤ 18446744073709551615 ∧
    v + v / 4294967296 ≤ 9223372036854775807 ∧ (v + v / 4294967296) % 128 = pop x := by
  have hx8 : x < 256 ^ 8 := by simpa using hx
  have h8 := step1 7 x hx8
  have b7 : x / 256 < 256 ^ 7 := by simp; omega
  have h7 := step1 6 _ b7
  have b6 : x / 256 / 256 < 256 ^ 6 := by simp; omega
  have h6 := step1 5 _ b6
  have b5 : x / 256 / 256 / 256 < 256 ^ 5 := by simp; omega
  have h5 := step1 4 _ b5
  have b4 : x / 256 / 256 / 256 / 256 < 256 ^ 4 := by simp; omega
  have h4 := step1 3 _ b4
  have b3 : x / 256 / 256 / 256 / 256 / 256 < 256 ^ 3 := by simp; omega
  have h3 := step1 2 _ b3
  have b2 : x / 256 / 256 / 256 / 256 / 256 / 256 < 256 ^ 2 := by simp; omega
  have h2 := step1 1 _ b2
  have b1 : x / 256 / 256 / 256 / 256 / 256 / 256 / 256 < 256 ^ 1 := by simp; omega
  have h1 := step1 0 _ b1
  have h0 : s3 0 (s2 0 (s1 0 (x / 256 / 256 / 256 / 256 / 256 / 256 / 256 / 256))) = 0 := by simp [s3, rep]
  rw [h0] at h1
  rw [h1] at h2; rw [h2] at h3; rw [h3] at h4; rw [h4] at h5; rw [h5] at h6; rw [h6] at h7; rw [h7] at h8
  have p8 : pop x = pop8 (x % 256) + (pop8 (x / 256 % 256) + (pop8 (x / 256 / 256 % 256) + (pop8 (x / 256 / 256 / 256 % 256) + (pop8 (x / 256 / 256 / 256 / 256 % 256) + (pop8 (x / 256 / 256 / 256 / 256 / 256 % 256) +
      (pop8 (x / 256 / 256 / 256 / 256 / 256 / 256 % 256) + pop8 (x / 256 / 256 / 256 / 256 / 256 / 256 / 256 % 256))))))) := by
    have key : ∀ (m y : Nat), cnt y.testBit 0 (8 + m) = pop8 (y % 256) + cnt (y / 256).testBit 0 m := fun m y => by
      have := pop_split m (y / 256) (y % 256) (Nat.mod_lt _ (by decide))
      rwa [show y / 256 * 256 + y % 256 = y by omega] at this
    unfold pop
    rw [show 64 = 8 + 56 from rfl, key, show 56 = 8 + 48 from rfl, key, show 48 = 8 + 40 from rfl, key, show 40 = 8 + 32 from rfl, key, show 32 = 8 + 24 from rfl, key, show 24 = 8 + 16 from rfl, key, show 16 = 8 + 8 from rfl, key,
      show 8 = 8 + 0 from rfl, key]
    simp [cnt]
  have q0 := pop8_le (x % 256)
  have q1 := pop8_le (x / 256 % 256)
  have q2 := pop8_le (x / 256 / 256 % 256)
  have q3 := pop8_le (x / 256 / 256 / 256 % 256)
  have q4 := pop8_le (x / 256 / 256 / 256 / 256 % 256)
  have q5 := pop8_le (x / 256 / 256 / 256 / 256 / 256 % 256)
  have q6 := pop8_le (x / 256 / 256 / 256 / 256 / 256 / 256 % 256)
  have q7 := pop8_le (x / 256 / 256 / 256 / 256 / 256 / 256 / 256 % 256)
  obtain ⟨y, v, f1, f2, f3, f4, f5, f6, f7⟩ := fold8 _ _ _ _ _ _ _ _ _ q0 q1 q2 q3 q4 q5 q6 q7 h8
  exact ⟨_, y, v, rfl, f1, f2, f3, f4, f5, f6, f7.trans p8.symm⟩
theorem swar_s1 (x : Nat) : s1 8 x = ((x / 2) &&& 6148914691236517205) + (x &&& 6148914691236517205) := rfl
theorem swar_s2 (x : Nat) : s2 8 x = ((x / 4) &&& 3689348814741910323) + (x &&& 3689348814741910323) := rfl
theorem swar_s3 (x : Nat) : s3 8 x = ((x / 16) + x) &&& 1085102592571150095 := rfl
end Go.Proofs.YtjceahbikdncmaaDoor

namespace Go.Proofs.YtjceahbikdncmaaDoor

/-- the first i from a on, below n, that holds; else n -/
def nxtF (p : Nat → Bool) : Nat → Nat → Nat
  | 0, a => a
  | m + 1, a => if p a = true then a else nxtF p m (a + 1)
def nxt (p : Nat → Bool) (a n : Nat) : Nat := nxtF p (n - a) a
theorem nxtF_spec (p : Nat → Bool) : ∀ m a, a ≤ nxtF p m a ∧ nxtF p m a ≤ a + m ∧ (∀ i, a ≤ i → i < nxtF p m a → p i = false) ∧ (nxtF p m a < a + m → p (nxtF p m a) = true)
  | 0, a => ⟨Nat.le_refl _, Nat.le_refl _, fun i h1 h2 => by simp only [nxtF] at h2; omega, fun h => by simp only [nxtF] at h; omega⟩
  | m + 1, a => by
    simp only [nxtF]
    split
    · rename_i h
      exact ⟨Nat.le_refl _, by omega, fun i h1 h2 => by omega, fun _ => h⟩
    · rename_i h
      obtain ⟨h1, h2, h3, h4⟩ := nxtF_spec p m (a + 1)
      refine ⟨by omega, by omega, fun i hi hj => ?_, fun hlt => h4 (by omega)⟩
      by_cases e : i = a
      · subst e; simpa using h
      · exact h3 i (by omega) hj
theorem nxt_spec {p : Nat → Bool} {a n : Nat} (h : a ≤ n) : a ≤ nxt p a n ∧ nxt p a n ≤ n ∧ (∀ i, a ≤ i → i < nxt p a n → p i = false) ∧ (nxt p a n < n → p (nxt p a n) = true) := by
  obtain ⟨h1, h2, h3, h4⟩ := nxtF_spec p (n - a) a
  refine ⟨h1, ?_, h3, fun hlt => h4 ?_⟩
  · unfold nxt; omega
  · unfold nxt at hlt; omega
theorem nxt_eq {p : Nat → Bool} {a n r : Nat} (h : a ≤ n) (h1 : a ≤ r) (h2 : r ≤ n) (h3 : ∀ i, a ≤ i → i < r → p i = false) (h4 : r < n → p r = true) : nxt p a n = r := by
  obtain ⟨g1, g2, g3, g4⟩ := nxt_spec (p := p) h
  rcases Nat.lt_trichotomy (nxt p a n) r with hlt | he | hgt
  · have := h3 _ g1 hlt
    rw [g4 (by omega)] at this; cases this
  · exact he
  · have := g3 _ h1 hgt
    rw [h4 (by omega)] at this; cases this

theorem ctz_bit {x : Nat} (h0 : x ≠ 0) (h : x < 18446744073709551616) : Lib.ctz 64 x < 64 ∧ x.testBit (Lib.ctz 64 x) = true ∧ ∀ j, j < Lib.ctz 64 x → x.testBit j = false := by
  obtain ⟨m, hm, hl⟩ := Lib.ctzFrom_spec 64 x (by omega) h
  have e : Lib.ctz 64 x = Lib.ctzFrom 64 x := by unfold Lib.ctz; rw [if_neg h0]
  rw [e]
  generalize Lib.ctzFrom 64 x = c at *
  subst hm
  refine ⟨hl, ?_, fun j hj => ?_⟩
  · rw [Nat.testBit_two_pow_mul]
    simp
  · rw [Nat.testBit_two_pow_mul]
    simp; omega

/-- the bits of a word that are looked for -/
def wrd (x : Nat) (on : Bool) (t : Nat) : Nat := (if on then x else 18446744073709551615 - x) &&& mk 0 t
theorem wrd_lt (x : Nat) (on : Bool) (t : Nat) : wrd x on t < 18446744073709551616 := Nat.lt_of_le_of_lt Nat.and_le_right (mk_lt 0 t)
theorem flip_testBit {x : Nat} (hx : x < 18446744073709551616) (j : Nat) : (18446744073709551615 - x).testBit j = (decide (j < 64) && !x.testBit j) := by
  have := Nat.testBit_two_pow_sub_succ (x := x) (n := 64) (by simpa using hx) j
  rw [show 2 ^ 64 - (x + 1) = 18446744073709551615 - x by omega] at this
  exact this
theorem wrd_testBit {x : Nat} (hx : x < 18446744073709551616) (on : Bool) {t : Nat} (ht : t ≤ 64) (j : Nat) : (wrd x on t).testBit j = (decide (j < t) && (x.testBit j == on)) := by
  unfold wrd
  rw [Nat.testBit_and, mk_testBit (by omega) ht]
  cases on
  · rw [if_neg (by simp), flip_testBit hx]
    by_cases h : j < t <;> simp [h] <;> omega
  · simp
    cases x.testBit j <;> simp
/-- what is looked for in bits -/
def look (ws : List Nat) (on : Bool) (i : Nat) : Bool := bat ws i == on
theorem look_word {ws : List Nat} {on : Bool} {n k j : Nat} (hw : ∀ x ∈ ws, x < 18446744073709551616) (hj : j < min 64 (n - 64 * k)) : (wrd (ws.getD k 0) on (min 64 (n - 64 * k))).testBit j = look ws on (64 * k + j) := by
  rw [wrd_testBit (getD_lt hw (by decide) k) on (by omega)]
  unfold look
  rw [bat_at _ _ _ (by omega)]
  simp [hj]
/-- one round of the search: nothing in this word -/
theorem next_none {ws : List Nat} {on : Bool} {n f k : Nat} (hw : ∀ x ∈ ws, x < 18446744073709551616)
    (h : wrd (ws.getD k 0) on (min 64 (n - 64 * k)) &&& mk (f - 64 * k) 64 = 0) (hf : f ≤ 64 * (k + 1)) : ∀ i, f ≤ i → 64 * k ≤ i → i < min n (64 * (k + 1)) → look ws on i = false := by
  intro i h1 h2 h3
  have e := look_word (ws := ws) (on := on) (n := n) (k := k) (j := i - 64 * k) hw (by omega)
  rw [show 64 * k + (i - 64 * k) = i by omega] at e
  have hb : (wrd (ws.getD k 0) on (min 64 (n - 64 * k)) &&& mk (f - 64 * k) 64).testBit (i - 64 * k) = false := by rw [h]; simp
  rw [Nat.testBit_and, mk_testBit (by omega) (by omega), e] at hb
  simpa [show f - 64 * k ≤ i - 64 * k by omega, show i - 64 * k < 64 by omega] using hb
/-- .. and where there is something -/
theorem next_some {ws : List Nat} {on : Bool} {n f k : Nat} (hw : ∀ x ∈ ws, x < 18446744073709551616)
    (h : wrd (ws.getD k 0) on (min 64 (n - 64 * k)) &&& mk (f - 64 * k) 64 ≠ 0) (hf : f ≤ 64 * (k + 1)) (hfn : f ≤ n) (hpre : ∀ i, f ≤ i → i < min n (64 * k) → look ws on i = false) :
    nxt (look ws on) f n = 64 * k + Lib.ctz 64 (wrd (ws.getD k 0) on (min 64 (n - 64 * k)) &&& mk (f - 64 * k) 64) := by
  obtain ⟨c1, c2, c3⟩ := ctz_bit h (Nat.lt_of_le_of_lt Nat.and_le_left (wrd_lt _ _ _))
  generalize Lib.ctz 64 (wrd (ws.getD k 0) on (min 64 (n - 64 * k)) &&& mk (f - 64 * k) 64) = c at *
  rw [Nat.testBit_and, mk_testBit (by omega) (by omega)] at c2
  simp only [Bool.and_eq_true, decide_eq_true_eq] at c2
  have hlt : c < min 64 (n - 64 * k) := by
    have := c2.1
    rw [wrd_testBit (getD_lt hw (by decide) k) on (by omega)] at this
    simp only [Bool.and_eq_true, decide_eq_true_eq] at this
    exact this.1
  have hl := look_word (ws := ws) (on := on) (n := n) (k := k) hw hlt
  rw [c2.1] at hl
  refine nxt_eq hfn (by omega) (by omega) (fun i h1 h2 => ?_) (fun _ => hl.symm)
  by_cases hik : i < 64 * k
  · exact hpre i h1 (by omega)
  · have e := look_word (ws := ws) (on := on) (n := n) (k := k) (j := i - 64 * k) hw (by omega)
    rw [show 64 * k + (i - 64 * k) = i by omega] at e
    have := c3 (i - 64 * k) (by omega)
    rw [Nat.testBit_and, mk_testBit (by omega) (by omega), e] at this
    simpa [show f - 64 * k ≤ i - 64 * k by omega, show i - 64 * k < 64 by omega] using this
end Go.Proofs.YtjceahbikdncmaaDoor

namespace Go.Proofs.YtjceahbikdncmaaDoor

/-- a byte of a string -/
def byt (s : ByteArray) (i : Nat) : Nat := (s.data.toList.getD i 0).toNat
theorem byt_lt (s : ByteArray) (i : Nat) : byt s i < 256 := by unfold byt; exact (s.data.toList.getD i 0).toNat_lt
theorem byt_get {s : ByteArray} {i : Nat} (h : i < s.size) : s[i].toNat = byt s i := by
  unfold byt
  have h' : i < s.data.toList.length := by simpa using h
  rw [List.getD_eq_getElem?_getD, List.getElem?_eq_getElem h']
  rfl
def letB (c : Nat) : Bool := (decide (97 ≤ c) && decide (c ≤ 122)) || (decide (65 ≤ c) && decide (c ≤ 90))
def digB (c : Nat) : Bool := decide (48 ≤ c) && decide (c ≤ 57)
/-- may a byte stand there in a name? -/
def nmC (i c : Nat) : Bool := letB c || (decide (i ≠ 0) && (decide (c = 95) || digB c))
/-- is that a name? -/
def nmB (s : ByteArray) : Bool := decide (1 ≤ s.size) && decide (s.size ≤ 16) && (List.range s.size).all (fun i => nmC i (byt s i))
theorem nmB_no_size {s : ByteArray} (h : s.size < 1 ∨ 16 < s.size) : nmB s = false := by
  unfold nmB
  rcases h with h | h
  · rw [show decide (1 ≤ s.size) = false from decide_eq_false (by omega)]; rfl
  · rw [show decide (s.size ≤ 16) = false from decide_eq_false (by omega), Bool.and_false]; rfl
theorem nmB_no {s : ByteArray} {i : Nat} (hi : i < s.size) (h : nmC i (byt s i) = false) : nmB s = false := by
  unfold nmB
  rw [show (List.range s.size).all (fun i => nmC i (byt s i)) = false from ?_, Bool.and_false]
  rw [Bool.eq_false_iff]
  intro hh
  have := List.all_eq_true.1 hh i (List.mem_range.2 hi)
  rw [h] at this; cases this
theorem nmB_yes {s : ByteArray} (h0 : 1 ≤ s.size) (h1 : s.size ≤ 16) (h : ∀ i, i < s.size → nmC i (byt s i) = true) : nmB s = true := by
  unfold nmB
  rw [show (List.range s.size).all (fun i => nmC i (byt s i)) = true from List.all_eq_true.2 fun i hi => h i (List.mem_range.1 hi)]
  simp; omega
theorem nmB_size {s : ByteArray} (h : nmB s = true) : 1 ≤ s.size ∧ s.size ≤ 16 := by
  unfold nmB at h
  simp only [Bool.and_eq_true, decide_eq_true_eq] at h
  exact h.1

/-- is a string less than another one? -/
def nlt (a b : ByteArray) : Bool := decide (a.data.toList < b.data.toList)
theorem nlt_irr (a : ByteArray) : nlt a a = false := by
  unfold nlt
  exact decide_eq_false (List.lt_irrefl a.data.toList)
theorem nlt_tr {a b c : ByteArray} (h : nlt a b = true) (k : nlt b c = true) : nlt a c = true := by
  unfold nlt at *
  simp only [decide_eq_true_eq] at *
  exact List.lt_trans h k
theorem ba_ext {a b : ByteArray} (h : a.data.toList = b.data.toList) : a = b := ByteArray.ext (Array.ext' h)
theorem nlt_tri {a b : ByteArray} (h : a ≠ b) (k : nlt a b = false) : nlt b a = true := by
  unfold nlt at *
  simp only [decide_eq_true_eq, decide_eq_false_iff_not] at *
  rw [List.not_lt] at k
  rcases List.le_iff_lt_or_eq.1 k with g | g
  · exact g
  · exact absurd (ba_ext g.symm) h

/-- an alarm: name, time, period -/
abbrev Alm := ByteArray × Int × Int
def tmB (t : Int) : Bool := decide (0 ≤ t) && decide (t ≤ 1000000000000)
theorem tmB_yes {t : Int} : tmB t = true ↔ 0 ≤ t ∧ t ≤ 1000000000000 := by unfold tmB; simp
theorem tmB_no {t : Int} : tmB t = false ↔ ¬ (0 ≤ t ∧ t ≤ 1000000000000) := by rw [← tmB_yes]; simp
/-- the error of an alarm by itself -/
def alE (x : Alm) : Int := if nmB x.1 = false then 6 else if tmB x.2.1 = true ∧ tmB x.2.2 = true then 0 else 7
theorem alE_zero {x : Alm} (h : alE x = 0) : nmB x.1 = true ∧ AlOk x.2 := by
  unfold alE at h
  by_cases h1 : nmB x.1 = false
  · rw [if_pos h1] at h; cases h
  · rw [if_neg h1] at h
    by_cases h2 : tmB x.2.1 = true ∧ tmB x.2.2 = true
    · have a := tmB_yes.1 h2.1
      have b := tmB_yes.1 h2.2
      exact ⟨by simpa using h1, a.1, a.2, b.1, b.2⟩
    · rw [if_neg h2] at h; cases h
theorem alE_of {x : Alm} (h : nmB x.1 = true) (k : AlOk x.2) : alE x = 0 := by
  unfold alE
  rw [if_neg (by simp [h]), if_pos ⟨tmB_yes.2 ⟨k.a0, k.a1⟩, tmB_yes.2 ⟨k.e0, k.e1⟩⟩]
theorem alE_ways (x : Alm) : alE x = 0 ∨ alE x = 6 ∨ alE x = 7 := by
  unfold alE
  split
  · simp
  · split <;> simp
/-- the error at a place of a plan -/
def erA (R : Nat → Alm) (i : Nat) : Int := if alE (R i) ≠ 0 then alE (R i) else if 0 < i ∧ (R i).1 = (R (i - 1)).1 then 8 else if 0 < i ∧ nlt (R i).1 (R (i - 1)).1 = true then 6 else 0
def cBad (R : Nat → Alm) (i : Nat) : Bool := decide (erA R i ≠ 0)
def cI (n : Nat) (R : Nat → Alm) : Int := if 50 < n then 0 else if nxt (cBad R) 0 n < n then ((nxt (cBad R) 0 n : Nat) : Int) else 0
def cE (n : Nat) (R : Nat → Alm) : Int := if 50 < n then 3 else if nxt (cBad R) 0 n < n then erA R (nxt (cBad R) 0 n) else 0
theorem c_long {n : Nat} {R : Nat → Alm} (h : 50 < n) : 0 = cI n R ∧ 3 = cE n R := by unfold cI cE; rw [if_pos h, if_pos h]; exact ⟨rfl, rfl⟩
theorem c_bad {n i : Nat} {R : Nat → Alm} (h : ¬ 50 < n) (hi : i < n) (hb : erA R i ≠ 0) (hp : ∀ j, j < i → erA R j = 0) : (i : Int) = cI n R ∧ erA R i = cE n R := by
  have e : nxt (cBad R) 0 n = i := nxt_eq (Nat.zero_le _) (Nat.zero_le _) (by omega) (fun j _ hj => by unfold cBad; simp [hp j hj]) (fun _ => by unfold cBad; simp [hb])
  unfold cI cE; rw [if_neg h, if_neg h, e, if_pos hi, if_pos hi]; exact ⟨rfl, rfl⟩
theorem c_good {n : Nat} {R : Nat → Alm} (h : ¬ 50 < n) (hp : ∀ j, j < n → erA R j = 0) : 0 = cI n R ∧ 0 = cE n R := by
  have e : nxt (cBad R) 0 n = n := nxt_eq (Nat.zero_le _) (Nat.zero_le _) (Nat.le_refl _) (fun j _ hj => by unfold cBad; simp [hp j hj]) (fun h => by omega)
  unfold cI cE; rw [if_neg h, if_neg h, e, if_neg (Nat.lt_irrefl n), if_neg (Nat.lt_irrefl n)]; exact ⟨rfl, rfl⟩
theorem erA_zero {R : Nat → Alm} {i : Nat} (h : erA R i = 0) : alE (R i) = 0 ∧ (0 < i → nlt (R (i - 1)).1 (R i).1 = true) := by
  unfold erA at h
  by_cases h1 : alE (R i) = 0
  · rw [if_neg (by simpa using h1)] at h
    refine ⟨h1, fun hi => ?_⟩
    by_cases h2 : (R i).1 = (R (i - 1)).1
    · rw [if_pos ⟨hi, h2⟩] at h; cases h
    · rw [if_neg (fun hh => h2 hh.2)] at h
      by_cases h3 : nlt (R i).1 (R (i - 1)).1 = true
      · rw [if_pos ⟨hi, h3⟩] at h; cases h
      · exact nlt_tri h2 (by simpa using h3)
  · rw [if_pos h1] at h; exact absurd h h1
theorem erA_of {R : Nat → Alm} {i : Nat} (h : alE (R i) = 0) (k : 0 < i → nlt (R (i - 1)).1 (R i).1 = true) : erA R i = 0 := by
  unfold erA
  rw [if_neg (by simpa using h), if_neg, if_neg]
  · rintro ⟨h1, h2⟩
    have := nlt_tr (k h1) h2
    rw [nlt_irr] at this; cases this
  · rintro ⟨h1, h2⟩
    have := k h1
    rw [h2, nlt_irr] at this; cases this
/-- a valid plan -/
structure PlOk (n : Nat) (R : Nat → Alm) : Prop where
  n50 : n ≤ 50
  ok : ∀ i, i < n → AlOk (R i).2
  nm : ∀ i, i < n → nmB (R i).1 = true
  up : ∀ i j, i < j → j < n → nlt (R i).1 (R j).1 = true
theorem cE_zero {n : Nat} {R : Nat → Alm} (h : cE n R = 0) : PlOk n R := by
  unfold cE at h
  by_cases h1 : 50 < n
  · rw [if_pos h1] at h; cases h
  · rw [if_neg h1] at h
    obtain ⟨_, s2, s3, s4⟩ := nxt_spec (p := cBad R) (a := 0) (n := n) (Nat.zero_le _)
    by_cases h2 : nxt (cBad R) 0 n < n
    · rw [if_pos h2] at h
      have hb := s4 h2
      rw [cBad, h] at hb
      simp at hb
    · have hz : ∀ j, j < n → erA R j = 0 := fun j hj => by
        have := s3 j (Nat.zero_le _) (by omega)
        unfold cBad at this
        simpa using this
      refine ⟨by omega, fun i hi => (alE_zero (erA_zero (hz i hi)).1).2, fun i hi => (alE_zero (erA_zero (hz i hi)).1).1, ?_⟩
      intro i j hij
      induction j with
      | zero => omega
      | succ j ih =>
        intro hj
        have hs := (erA_zero (hz (j + 1) hj)).2 (by omega)
        rw [Nat.add_sub_cancel] at hs
        by_cases e : i = j
        · subst e; exact hs
        · exact nlt_tr (ih (by omega) (by omega)) hs
theorem PlOk.zero {n : Nat} {R : Nat → Alm} (h : PlOk n R) : cE n R = 0 :=
  (c_good (by have := h.n50; omega) fun j hj => erA_of (alE_of (h.nm j hj) (h.ok j hj)) fun h0 => h.up _ _ (by omega) hj).2.symm
/-- the sum of the rings -/
def sumA (R : Nat → Alm) (u : Int) : Nat → Int
  | 0 => 0
  | m + 1 => sumA R u m + cntA (R m).2 u
theorem cntA_ge {a : Int × Int} (h : AlOk a) {u : Int} (h1 : u ≤ MT) : 0 ≤ cntA a u ∧ cntA a u ≤ 1000000000001 := by
  have a0 := h.a0
  have e0 := h.e0
  unfold cntA
  split
  · omega
  · split
    · omega
    · have hE : 0 < a.2 := by omega
      have h2 : 0 ≤ (u - a.1) / a.2 := Int.ediv_nonneg (by omega) (by omega)
      have h3 : (u - a.1) / a.2 ≤ u - a.1 := Int.ediv_le_self _ (by omega)
      unfold MT at h1
      omega
theorem sumA_ge {R : Nat → Alm} {u : Int} (h1 : u ≤ MT) : ∀ {m : Nat}, (∀ i, i < m → AlOk (R i).2) → 0 ≤ sumA R u m ∧ sumA R u m ≤ 1000000000001 * (m : Int)
  | 0, _ => by simp [sumA]
  | m + 1, h => by
    have := sumA_ge h1 (m := m) fun i hi => h i (by omega)
    have := cntA_ge (h m (by omega)) h1
    simp only [sumA]
    omega
theorem sumA_sumC {R : Nat → Alm} {u : Int} {c : Nat → Nat} : ∀ {m : Nat}, (∀ i, i < m → (c i : Int) = cntA (R i).2 u) → (sumC c m : Int) = sumA R u m
  | 0, _ => rfl
  | m + 1, h => by
    have := sumA_sumC (m := m) fun i hi => h i (by omega)
    have := h m (by omega)
    simp only [sumA, sumC]
    omega
/-- the error of a plan and a time; how many rings there are -/
def ctE (n : Nat) (R : Nat → Alm) (u : Int) : Int := if cE n R ≠ 0 then cE n R else if tmB u = true then 0 else 7
def ctV (n : Nat) (R : Nat → Alm) (u : Int) : Int := if ctE n R u = 0 then sumA R u n else 0
theorem ctE_zero {n : Nat} {R : Nat → Alm} {u : Int} (h : ctE n R u = 0) : cE n R = 0 ∧ 0 ≤ u ∧ u ≤ 1000000000000 := by
  unfold ctE at h
  by_cases h0 : cE n R = 0
  · rw [if_neg (by simpa using h0)] at h
    by_cases h1 : tmB u = true
    · exact ⟨h0, tmB_yes.1 h1⟩
    · rw [if_neg h1] at h; cases h
  · rw [if_pos h0] at h; exact absurd h h0
theorem ctE_of {n : Nat} {R : Nat → Alm} {u : Int} (h : cE n R = 0) (h0 : 0 ≤ u) (h1 : u ≤ 1000000000000) : ctE n R u = 0 := by
  unfold ctE
  rw [if_neg (by simpa using h), if_pos (tmB_yes.2 ⟨h0, h1⟩)]
/-- the error of a run -/
def rnE (n : Nat) (R : Nat → Alm) (u : Int) : Int := if ctE n R u ≠ 0 then ctE n R u else if 1000 < sumA R u n then 3 else 0
theorem rnE_zero {n : Nat} {R : Nat → Alm} {u : Int} (h : rnE n R u = 0) : ctE n R u = 0 ∧ sumA R u n ≤ 1000 := by
  unfold rnE at h
  by_cases h0 : ctE n R u = 0
  · rw [if_neg (by simpa using h0)] at h
    by_cases h1 : 1000 < sumA R u n
    · rw [if_pos h1] at h; cases h
    · exact ⟨h0, by omega⟩
  · rw [if_pos h0] at h; exact absurd h h0
theorem rnE_of {n : Nat} {R : Nat → Alm} {u : Int} (h : ctE n R u = 0) (h1 : sumA R u n ≤ 1000) : rnE n R u = 0 := by
  unfold rnE
  rw [if_neg (by simpa using h), if_neg (by omega)]
/-- when an alarm rings next behind a time; -1: it does not -/
def nxA (a : Int × Int) (u : Int) : Int := if a.1 ≤ u then (if a.2 = 0 then -1 else if a.1 + ((u - a.1) / a.2 + 1) * a.2 ≤ MT then a.1 + ((u - a.1) / a.2 + 1) * a.2 else -1) else a.1
/-- the alarms that are left -/
def rstA (R : Nat → Alm) (u : Int) : Nat → List Alm
  | 0 => []
  | m + 1 => if 0 ≤ nxA (R m).2 u then rstA R u m ++ [((R m).1, nxA (R m).2 u, (R m).2.2)] else rstA R u m
theorem rstA_len (R : Nat → Alm) (u : Int) : ∀ m, (rstA R u m).length ≤ m
  | 0 => Nat.le_refl _
  | m + 1 => by
    have := rstA_len R u m
    simp only [rstA]
    split
    · simp; exact this
    · omega
/-- what is left is when it rings next -/
theorem nxA_pos {a : Int × Int} (h : AlOk a) {u : Int} {c : Nat} (hc : (c : Int) = cntA a u) : nxA a u = if pos a c < 0 then -1 else pos a c := by
  have a0 := h.a0
  have a1 := h.a1
  have e0 := h.e0
  unfold cntA at hc
  by_cases h1 : u < a.1
  · rw [if_pos h1] at hc
    obtain rfl : c = 0 := by omega
    rw [pos_zero h]
    unfold nxA
    rw [if_neg (show ¬ a.1 ≤ u by omega), if_neg (show ¬ a.1 < 0 by omega)]
  · rw [if_neg h1] at hc
    by_cases h2 : a.2 = 0
    · rw [if_pos h2] at hc
      have hp : pos a c = -1 := by unfold pos; rw [if_pos h2, if_neg (by omega)]
      rw [hp]
      unfold nxA
      rw [if_pos (show a.1 ≤ u by omega), if_pos h2]; rfl
    · rw [if_neg h2] at hc
      have hp : pos a c = if a.1 + (c : Int) * a.2 ≤ MT then a.1 + (c : Int) * a.2 else -1 := by unfold pos; rw [if_neg h2]
      rw [hp]
      unfold nxA
      rw [if_pos (show a.1 ≤ u by omega), if_neg h2, ← hc]
      by_cases h3 : a.1 + (c : Int) * a.2 ≤ MT
      · rw [if_pos h3]
        have := Int.mul_nonneg (show (0 : Int) ≤ (c : Int) by omega) e0
        rw [if_neg (show ¬ a.1 + (c : Int) * a.2 < 0 by omega)]
      · rw [if_neg h3]; rfl
end Go.Proofs.YtjceahbikdncmaaDoor
