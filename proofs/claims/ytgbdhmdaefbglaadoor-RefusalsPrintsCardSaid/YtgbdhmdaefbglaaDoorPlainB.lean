/- Plain facts: masks, counting, the number of set bits of a word by halves. No program. -/
import Derived.Test.YtgbdhmdaefbglaaDoorPlain
namespace Go.Proofs.YtgbdhmdaefbglaaDoor

/-- how many i with a ≤ i < b hold -/
def cnt (p : Nat → Bool) (a : Nat) : Nat → Nat
  | 0 => 0
  | b + 1 => cnt p a b + (if a ≤ b ∧ p b = true then 1 else 0)

theorem cnt_congr {p q : Nat → Bool} {a a' : Nat} : ∀ (b : Nat), (∀ i, i < b → ((a ≤ i ∧ p i = true) ↔ (a' ≤ i ∧ q i = true))) → cnt p a b = cnt q a' b
  | 0, _ => rfl
  | b + 1, h => by
    simp only [cnt]
    rw [cnt_congr b fun i hi => h i (by omega)]
    have := h b (by omega)
    simp only [this]
theorem cnt_le (p : Nat → Bool) (a : Nat) : ∀ b, cnt p a b ≤ b
  | 0 => Nat.le_refl _
  | b + 1 => by have := cnt_le p a b; simp only [cnt]; split <;> omega
theorem cnt_sub_le (p : Nat → Bool) (a : Nat) : ∀ b, cnt p a b ≤ b - a
  | 0 => by simp [cnt]
  | b + 1 => by have := cnt_sub_le p a b; simp only [cnt]; split <;> omega
theorem cnt_add (p : Nat → Bool) (a b : Nat) : ∀ m, cnt p a (b + m) = cnt p a b + cnt (fun j => p (b + j) && decide (a ≤ b + j)) 0 m
  | 0 => rfl
  | m + 1 => by
    rw [← Nat.add_assoc]
    simp only [cnt, cnt_add p a b m]
    by_cases h : a ≤ b + m <;> by_cases h' : p (b + m) = true <;> simp [h, h'] <;> omega
theorem cnt_none {p : Nat → Bool} {a : Nat} : ∀ (b : Nat), (∀ i, i < b → a ≤ i → p i = false) → cnt p a b = 0
  | 0, _ => rfl
  | b + 1, h => by
    simp only [cnt, cnt_none b fun i hi => h i (by omega)]
    rw [if_neg]
    rintro ⟨h1, h2⟩
    rw [h b (by omega) h1] at h2; cases h2
theorem cnt_cut {p : Nat → Bool} {a b : Nat} (c : Nat) (hc : b ≤ c) (h : ∀ i, b ≤ i → i < c → p i = false) : cnt p a c = cnt p a b := by
  obtain ⟨m, rfl⟩ := Nat.exists_eq_add_of_le hc
  rw [cnt_add, cnt_none (p := fun j => p (b + j) && decide (a ≤ b + j)) m, Nat.add_zero]
  intro i hi _
  simp [h (b + i) (by omega) (by omega)]
theorem cnt_zero {p : Nat → Bool} {a b : Nat} (h : b ≤ a) : cnt p a b = 0 := by
  have := cnt_sub_le p a b; omega
theorem cnt_eq_zero {p : Nat → Bool} {a : Nat} : ∀ {b : Nat}, cnt p a b = 0 → ∀ i, a ≤ i → i < b → p i = false
  | 0, _, _, _, hi => by omega
  | b + 1, h, i, ha, hi => by
    simp only [cnt] at h
    by_cases e : i = b
    · subst e
      cases hp : p i with
      | false => rfl
      | true => rw [if_pos ⟨ha, hp⟩] at h; omega
    · exact cnt_eq_zero (b := b) (by omega) i ha (by omega)

/-- the word with the bits from f on, below t -/
def mk (f t : Nat) : Nat := (18446744073709551615 * 2 ^ f % 18446744073709551616) &&& (18446744073709551615 / 2 ^ (64 - t))

theorem ones_testBit (i : Nat) : Nat.testBit 18446744073709551615 i = decide (i < 64) := by
  have : (18446744073709551615 : Nat) = 2 ^ 64 - 1 := by decide
  rw [this, Nat.testBit_two_pow_sub_one]
theorem mk_testBit {f t : Nat} (hf : f ≤ 64) (ht : t ≤ 64) (i : Nat) : (mk f t).testBit i = (decide (f ≤ i) && decide (i < t)) := by
  unfold mk
  rw [Nat.testBit_and, show (18446744073709551616 : Nat) = 2 ^ 64 by decide, Nat.testBit_mod_two_pow, Nat.mul_comm, Nat.testBit_two_pow_mul, Nat.testBit_div_two_pow, ones_testBit, ones_testBit]
  by_cases h1 : i < 64 <;> by_cases h2 : f ≤ i <;> by_cases h3 : i < t <;> simp [h1, h2, h3] <;> omega
theorem mk_lt (f t : Nat) : mk f t < 2 ^ 64 := by
  unfold mk
  refine Nat.lt_of_le_of_lt Nat.and_le_left ?_
  exact Nat.mod_lt _ (by decide)

/-- how many bits of a word are set -/
def pop (x : Nat) : Nat := cnt x.testBit 0 64
theorem pop_le (x : Nat) : pop x ≤ 64 := cnt_le _ _ _

theorem bat_at (ws : List Nat) (k j : Nat) (hj : j < 64) : bat ws (64 * k + j) = (ws.getD k 0).testBit j := by
  unfold bat
  rw [show (64 * k + j) / 64 = k by omega, show (64 * k + j) % 64 = j by omega]
theorem pop_mask {x f t : Nat} (hf : f ≤ 64) (ht : t ≤ 64) : pop (x &&& mk f t) = cnt (fun j => x.testBit j && decide (f ≤ j)) 0 t := by
  unfold pop
  rw [cnt_cut (b := t) 64 ht]
  · refine cnt_congr t fun i hi => ?_
    rw [Nat.testBit_and, mk_testBit hf ht]
    simp [hi]
  · intro i h1 h2
    rw [Nat.testBit_and, mk_testBit hf ht]
    simp; omega
theorem count_step (ws : List Nat) {f t k : Nat} (h : 64 * k < t) (hf : f / 64 ≤ k) :
    cnt (bat ws) f (min t (64 * (k + 1))) = cnt (bat ws) f (min t (64 * k)) + pop (ws.getD k 0 &&& mk (f - 64 * k) (min 64 (t - 64 * k))) := by
  rw [pop_mask (by omega) (by omega), show min t (64 * (k + 1)) = 64 * k + min 64 (t - 64 * k) by omega, cnt_add, show min t (64 * k) = 64 * k by omega]
  congr 1
  refine cnt_congr _ fun j hj => ?_
  rw [bat_at _ _ _ (by omega)]
  simp only [Bool.and_eq_true, decide_eq_true_eq]
  constructor <;> rintro ⟨h1, h2, h3⟩ <;> exact ⟨h1, h2, by omega⟩

/-! ### The number of set bits, by halves -/
def rep (c : Nat) : Nat → Nat
  | 0 => 0
  | n + 1 => rep c n * 256 + c
theorem and_split {b d : Nat} (a c : Nat) (hb : b < 256) (hd : d < 256) : (a * 256 + b) &&& (c * 256 + d) = (a &&& c) * 256 + (b &&& d) := by
  have hbd : b &&& d < 256 := Nat.lt_of_le_of_lt Nat.and_le_left hb
  rw [Nat.mul_comm a, Nat.mul_comm c, Nat.mul_comm (a &&& c), show (256 : Nat) = 2 ^ 8 from rfl]
  apply Nat.eq_of_testBit_eq
  intro i
  rw [Nat.testBit_and, Nat.testBit_two_pow_mul_add _ hb, Nat.testBit_two_pow_mul_add _ hd, Nat.testBit_two_pow_mul_add _ hbd]
  split <;> simp [Nat.testBit_and]
theorem rep_succ (c n : Nat) : rep c (n + 1) = rep c n * 256 + c := rfl
def s1 (n x : Nat) : Nat := ((x / 2) &&& rep 0x55 n) + (x &&& rep 0x55 n)
def s2 (n x : Nat) : Nat := ((x / 4) &&& rep 0x33 n) + (x &&& rep 0x33 n)
def s3 (n x : Nat) : Nat := (x / 16 + x) &&& rep 0x0f n
def g1 (b : Nat) : Nat := ((b / 2) &&& 0x55) + (b &&& 0x55)
def g2 (b : Nat) : Nat := ((b / 4) &&& 0x33) + (b &&& 0x33)
theorem g1_lt : ∀ b : Fin 256, g1 b.val < 256 := by decide +kernel
theorem g2_lt : ∀ b : Fin 256, g2 b.val < 256 := by decide +kernel
theorem c1 : ∀ b : Fin 256, ∀ t : Fin 2, (t.val * 128 + b.val / 2) &&& 0x55 = (b.val / 2) &&& 0x55 := by decide +kernel
theorem c2 : ∀ b : Fin 256, ∀ t : Fin 4, (t.val * 64 + b.val / 4) &&& 0x33 = (b.val / 4) &&& 0x33 := by decide +kernel
theorem s1_split (n a b : Nat) (hb : b < 256) : s1 (n + 1) (a * 256 + b) = s1 n a * 256 + g1 b := by
  unfold s1 g1
  rw [rep_succ]
  have e : (a * 256 + b) / 2 = (a / 2) * 256 + ((a % 2) * 128 + b / 2) := by omega
  rw [e, and_split _ _ (by omega) (by decide), and_split _ _ hb (by decide)]
  have := c1 ⟨b, hb⟩ ⟨a % 2, by omega⟩
  simp only at this
  rw [this]; omega
theorem s2_split (n a b : Nat) (hb : b < 256) : s2 (n + 1) (a * 256 + b) = s2 n a * 256 + g2 b := by
  unfold s2 g2
  rw [rep_succ]
  have e : (a * 256 + b) / 4 = (a / 4) * 256 + ((a % 4) * 64 + b / 4) := by omega
  rw [e, and_split _ _ (by omega) (by decide), and_split _ _ hb (by decide)]
  have := c2 ⟨b, hb⟩ ⟨a % 4, by omega⟩
  simp only at this
  rw [this]; omega
def g3 (b : Nat) : Nat := (b / 16 + b) % 16
theorem c3 : ∀ b : Fin 256, ∀ t : Fin 16, t.val ≤ 4 → b.val ≤ 68 → (t.val * 16 + b.val / 16 + b.val) &&& 0x0f = (b.val / 16 + b.val) % 16 := by decide +kernel
/-- each nibble is at most 4 -/
def Low : Nat → Nat → Prop
  | 0, x => x = 0
  | n + 1, x => x % 16 ≤ 4 ∧ x % 256 ≤ 68 ∧ Low n (x / 256)
theorem s3_split (n a b : Nat) (hb : b ≤ 68) (ha : a % 16 ≤ 4) : s3 (n + 1) (a * 256 + b) = s3 n a * 256 + g3 b := by
  unfold s3 g3
  rw [rep_succ]
  have e : (a * 256 + b) / 16 + (a * 256 + b) = (a / 16 + a) * 256 + ((a % 16) * 16 + b / 16 + b) := by omega
  rw [e, and_split _ _ (by omega) (by decide)]
  have := c3 ⟨b, by omega⟩ ⟨a % 16, by omega⟩ ha hb
  simp only at this
  rw [this]
def pop8 (b : Nat) : Nat := cnt b.testBit 0 8
theorem g_pop : ∀ b : Fin 256, g3 (g2 (g1 b.val)) = pop8 b.val ∧ g2 (g1 b.val) % 16 ≤ 4 ∧ g2 (g1 b.val) ≤ 68 := by decide +kernel
theorem pop_split (m a b : Nat) (hb : b < 256) : cnt (a * 256 + b).testBit 0 (8 + m) = pop8 b + cnt a.testBit 0 m := by
  rw [cnt_add]
  have h : ∀ i, (a * 256 + b).testBit i = if i < 8 then b.testBit i else a.testBit (i - 8) := fun i => by
    rw [Nat.mul_comm, show (256 : Nat) = 2 ^ 8 from rfl, Nat.testBit_two_pow_mul_add _ hb]
  congr 1
  · exact cnt_congr 8 fun i hi => by rw [h, if_pos hi]
  · refine cnt_congr m fun i hi => ?_
    simp only [h]
    rw [if_neg (by omega)]
    simp
/-- the first three steps, byte by byte -/
theorem steps (n : Nat) : ∀ x, x < 256 ^ n → ∃ z, s3 n (s2 n (s1 n x)) = z ∧ Low n (s2 n (s1 n x)) ∧ (∀ m, n = m + 1 → z = s3 m (s2 m (s1 m (x / 256))) * 256 + pop8 (x % 256)) := by
  induction n with
  | zero =>
    intro x hx
    refine ⟨_, rfl, ?_, fun m hm => by omega⟩
    have : x = 0 := by simpa using hx
    subst this; exact (show s2 0 (s1 0 0) = 0 by decide)
  | succ n ih =>
    intro x hx
    have hb : x % 256 < 256 := Nat.mod_lt _ (by decide)
    obtain ⟨g, hg1, hg2⟩ := g_pop ⟨x % 256, hb⟩
    simp only at g hg1 hg2
    have l1 := g1_lt ⟨x % 256, hb⟩
    have l2 := g2_lt ⟨g1 (x % 256), l1⟩
    simp only at l1 l2
    have ex : x = (x / 256) * 256 + x % 256 := by omega
    have hxa : x / 256 < 256 ^ n := by rw [Nat.pow_succ] at hx; omega
    obtain ⟨_, _, hL, _⟩ := ih (x / 256) hxa
    have e1 : s1 (n + 1) x = s1 n (x / 256) * 256 + g1 (x % 256) := by
      conv => lhs; rw [ex]
      exact s1_split n _ _ hb
    have e2 : s2 (n + 1) (s1 (n + 1) x) = s2 n (s1 n (x / 256)) * 256 + g2 (g1 (x % 256)) := by rw [e1]; exact s2_split n _ _ l1
    have hlow : s2 n (s1 n (x / 256)) % 16 ≤ 4 := by
      cases n with
      | zero => have : s2 0 (s1 0 (x / 256)) = 0 := hL; omega
      | succ m => exact hL.1
    have e3 : s3 (n + 1) (s2 (n + 1) (s1 (n + 1) x)) = s3 n (s2 n (s1 n (x / 256))) * 256 + g3 (g2 (g1 (x % 256))) := by rw [e2]; exact s3_split n _ _ hg2 hlow
    refine ⟨_, rfl, ?_, fun m hm => ?_⟩
    · rw [e2]
      refine ⟨by omega, by omega, ?_⟩
      rw [show (s2 n (s1 n (x / 256)) * 256 + g2 (g1 (x % 256))) / 256 = s2 n (s1 n (x / 256)) by omega]
      exact hL
    · obtain rfl : n = m := by omega
      rw [e3, g]
theorem step1 (n x : Nat) (hx : x < 256 ^ (n + 1)) : s3 (n + 1) (s2 (n + 1) (s1 (n + 1) x)) = s3 n (s2 n (s1 n (x / 256))) * 256 + pop8 (x % 256) := by
  obtain ⟨_, rfl, _, h⟩ := steps (n + 1) x hx
  exact h n rfl
theorem pop8_le (b : Nat) : pop8 b ≤ 8 := cnt_le _ _ _
theorem fold8 (z r0 r1 r2 r3 r4 r5 r6 r7 : Nat) (q0 : r0 ≤ 8) (q1 : r1 ≤ 8) (q2 : r2 ≤ 8) (q3 : r3 ≤ 8) (q4 : r4 ≤ 8) (q5 : r5 ≤ 8) (q6 : r6 ≤ 8) (q7 : r7 ≤ 8)
    (hz : z = (((((((0 * 256 + r7) * 256 + r6) * 256 + r5) * 256 + r4) * 256 + r3) * 256 + r2) * 256 + r1) * 256 + r0) : ∃ y v,
    z ≤ 578721382704613384 ∧ y = z + z / 256 ∧ y ≤ 18446744073709551615 ∧ v = y + y / 65536 ∧ v ≤ 18446744073709551615 ∧ v + v / 4294967296 ≤ 9223372036854775807 ∧ (v + v / 4294967296) % 128 = r0 + (r1 + (r2 + (r3 + (r4 + (r5 + (r6 + r7)))))) := by
  have hz' : z = r0 + 256 * r1 + 65536 * r2 + 16777216 * r3 + 4294967296 * r4 + 1099511627776 * r5 + 281474976710656 * r6 + 72057594037927936 * r7 := by omega
  clear hz
  have e1 : z / 256 = r1 + 256 * r2 + 65536 * r3 + 16777216 * r4 + 4294967296 * r5 + 1099511627776 * r6 + 281474976710656 * r7 := by omega
  obtain ⟨y, hy⟩ : ∃ y, y = z + z / 256 := ⟨_, rfl⟩
  have hy' : y = (r0 + r1) + 256 * (r1 + r2) + 65536 * (r2 + r3) + 16777216 * (r3 + r4) + 4294967296 * (r4 + r5) + 1099511627776 * (r5 + r6) + 281474976710656 * (r6 + r7) + 72057594037927936 * r7 := by rw [hy, e1]; omega
  have e2 : y / 65536 = (r2 + r3) + 256 * (r3 + r4) + 65536 * (r4 + r5) + 16777216 * (r5 + r6) + 4294967296 * (r6 + r7) + 1099511627776 * r7 := by clear hy e1 hz'; omega
  obtain ⟨v, hv⟩ : ∃ v, v = y + y / 65536 := ⟨_, rfl⟩
  have hv' : v = (r0 + r1 + r2 + r3) + 256 * (r1 + r2 + r3 + r4) + 65536 * (r2 + r3 + r4 + r5) + 16777216 * (r3 + r4 + r5 + r6) + 4294967296 * (r4 + r5 + r6 + r7) + 1099511627776 * (r5 + r6 + r7) + 281474976710656 * (r6 + r7) + 72057594037927936 * r7 := by
    rw [hv, e2]; clear e1 e2 hy hv hz'; omega
  have e3 : v / 4294967296 = (r4 + r5 + r6 + r7) + 256 * (r5 + r6 + r7) + 65536 * (r6 + r7) + 16777216 * r7 := by clear e1 e2 hy hy' hz' hv; omega
  refine ⟨y, v, ?_, hy, ?_, hv, ?_, ?_, ?_⟩
  · clear hv' hy' hy hv e1 e2 e3; omega
  · clear hv' hz' hy hv e1 e2 e3; omega
  · clear hy' hz' hy hv e1 e2 e3; omega
  · rw [e3]; clear hy' hz' hy hv e1 e2 e3; omega
  · rw [e3]; clear hy' hz' hy hv e1 e2 e3; omega
theorem swar (x : Nat) (hx : x < 18446744073709551616) : ∃ z y v, z = s3 8 (s2 8 (s1 8 x)) ∧ z ≤ 578721382704613384 ∧ y = z + z / 256 ∧ y ≤ 18446744073709551615 ∧ v = y + y / 65536 ∧ v ≤ 18446744073709551615 ∧
    v + v / 4294967296 ≤ 9223372036854775807 ∧ (v + v / 4294967296) % 128 = pop x := by
  have hx8 : x < 256 ^ 8 := by simpa using hx
  have h8 := step1 7 x hx8
  have b7 : x / 256 < 256 ^ 7 := by simp; omega
  have h7 := step1 6 _ b7
  have b6 : x / 256 / 256 < 256 ^ 6 := by simp; omega
  have h6 := step1 5 _ b6
  have b5 : x / 256 / 256 / 256 < 256 ^ 5 := by simp; omega
  have h5 := step1 4 _ b5
  have b4 : x / 256 / 256 / 256 / 256 < 256 ^ 4 := by simp; omega
  have h4 := step1 3 _ b4
  have b3 : x / 256 / 256 / 256 / 256 / 256 < 256 ^ 3 := by simp; omega
  have h3 := step1 2 _ b3
  have b2 : x / 256 / 256 / 256 / 256 / 256 / 256 < 256 ^ 2 := by simp; omega
  have h2 := step1 1 _ b2
  have b1 : x / 256 / 256 / 256 / 256 / 256 / 256 / 256 < 256 ^ 1 := by simp; omega
  have h1 := step1 0 _ b1
  have h0 : s3 0 (s2 0 (s1 0 (x / 256 / 256 / 256 / 256 / 256 / 256 / 256 / 256))) = 0 := by simp [s3, rep]
  rw [h0] at h1
  rw [h1] at h2; rw [h2] at h3; rw [h3] at h4; rw [h4] at h5; rw [h5] at h6; rw [h6] at h7; rw [h7] at h8
  have p8 : pop x = pop8 (x % 256) + (pop8 (x / 256 % 256) + (pop8 (x / 256 / 256 % 256) + (pop8 (x / 256 / 256 / 256 % 256) + (pop8 (x / 256 / 256 / 256 / 256 % 256) + (pop8 (x / 256 / 256 / 256 / 256 / 256 % 256) +
      (pop8 (x / 256 / 256 / 256 / 256 / 256 / 256 % 256) + pop8 (x / 256 / 256 / 256 / 256 / 256 / 256 / 256 % 256))))))) := by
    have key : ∀ (m y : Nat), cnt y.testBit 0 (8 + m) = pop8 (y % 256) + cnt (y / 256).testBit 0 m := fun m y => by
      have := pop_split m (y / 256) (y % 256) (Nat.mod_lt _ (by decide))
      rwa [show y / 256 * 256 + y % 256 = y by omega] at this
    unfold pop
    rw [show 64 = 8 + 56 from rfl, key, show 56 = 8 + 48 from rfl, key, show 48 = 8 + 40 from rfl, key, show 40 = 8 + 32 from rfl, key, show 32 = 8 + 24 from rfl, key, show 24 = 8 + 16 from rfl, key, show 16 = 8 + 8 from rfl, key,
      show 8 = 8 + 0 from rfl, key]
    simp [cnt]
  have q0 := pop8_le (x % 256)
  have q1 := pop8_le (x / 256 % 256)
  have q2 := pop8_le (x / 256 / 256 % 256)
  have q3 := pop8_le (x / 256 / 256 / 256 % 256)
  have q4 := pop8_le (x / 256 / 256 / 256 / 256 % 256)
  have q5 := pop8_le (x / 256 / 256 / 256 / 256 / 256 % 256)
  have q6 := pop8_le (x / 256 / 256 / 256 / 256 / 256 / 256 % 256)
  have q7 := pop8_le (x / 256 / 256 / 256 / 256 / 256 / 256 / 256 % 256)
  obtain ⟨y, v, f1, f2, f3, f4, f5, f6, f7⟩ := fold8 _ _ _ _ _ _ _ _ _ q0 q1 q2 q3 q4 q5 q6 q7 h8
  exact ⟨_, y, v, rfl, f1, f2, f3, f4, f5, f6, f7.trans p8.symm⟩
theorem swar_s1 (x : Nat) : s1 8 x = ((x / 2) &&& 6148914691236517205) + (x &&& 6148914691236517205) := rfl
theorem swar_s2 (x : Nat) : s2 8 x = ((x / 4) &&& 3689348814741910323) + (x &&& 3689348814741910323) := rfl
theorem swar_s3 (x : Nat) : s3 8 x = ((x / 16) + x) &&& 1085102592571150095 := rfl
end Go.Proofs.YtgbdhmdaefbglaaDoor
