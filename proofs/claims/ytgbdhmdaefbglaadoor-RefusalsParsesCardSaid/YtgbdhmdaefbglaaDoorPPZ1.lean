/- Slices of structs whose fields are one cell each, as a row hands them. | Plain facts on words and bits: no program. | Plain facts: masks, counting, the number of set bits of a word by halves. No program. | Plain facts: the first set bit; searching. No program. | Refusals: rules as numbers, what is wrong with them, which calls they refuse. No program. | General lemmas: worlds behind calls that only make memory; slices that read as lists; one plain statement each. | General lemmas for seats without bits: worlds behind calls, results, rows of the call's own. | Refusals: plans in memory; how a row hands them. | Refusals, plain: the next refused call; the rest of a rule; rules that are not needed. No program. -/
import Derived.Test.YtgbdhmdaefbglaaDoorProg
import Derived.WalkKit
import Derived.OpenShut
import Derived.Lib.SmallJoins
import Derived.Deep.Slices
import Derived.Deep.Fields
import Derived.ChangeSame
import Derived.PlainAid
import Derived.Lib.TrailingZeros
import Derived.WalkSpells
import Derived.WalkLawsBesides
import Derived.Deep.QuietTactic
import Derived.BigQuiet
import Derived.Lib.Hide
import Derived.Lib.QuietBelow
import Derived.Deep.AppendLies
import Derived.OneCell
namespace Go.Proofs.YtgbdhmdaefbglaaDoor
open Go.ChangeShapes Go.WideShapes Go.ChangeAt Go.RowKit Go.Joins Go.Deep
section
variable {H : Type} {enc : TypeId × Value → H} {P : Program} {w : World} {base : Nat} {spare : Nat → Bool} {held : Bool}
theorem open_slice_fields {t e : TypeId} {fs : Array Field} {fuel : Nat} {cs : List Value} {x : DataW H × List MemPlace} (ht : P.underlying t = some (.slice e)) (he : P.underlying e = some (.struct fs))
    (hone : oneCellFields P fs = true) (hC : P.cellsOf e = fs.size) (h : DataW.trod enc P w base spare held fuel t cs = some x) :
    (cs = [.slice none 0 0] ∧ x = (.nil, [])) ∨
    ∃ (a : Addr) (len cap m : Nat) (D : Nat → DataW H) (Pl : Nat → List MemPlace), cs = [.slice (some a) len cap] ∧ base ≤ a.block ∧ len ≤ cap ∧ cap ≤ maxLen ∧ m = (if spare a.block then cap else len) ∧
      x = (.slice ((List.range len).map D) ((List.range (m - len)).map fun j => D (len + j)), MemPlace.row a (m * fs.size) ++ (List.range m).flatMap Pl) ∧
      ∀ i, i < m → ∃ (ys : List (DataW H × List MemPlace)) (n : Nat), D i = .agg (ys.map (·.1)) ∧ Pl i = ys.flatMap (·.2) ∧ ys.length = fs.size ∧
        ∀ (j : Nat) (f : Field), fs[j]? = some f → ∃ (v : Value) (y : DataW H × List MemPlace), w.cell? (a.add (i * fs.size + j)) = some v ∧ ys[j]? = some y ∧ DataW.trod enc P w base spare held n f.type [v] = some y := by
  rcases open_slice ht h with h0 | ⟨a, len, cap, m, n, D, Pl, hcs, hb, hl, hm, hmm, hx, hi⟩
  · exact .inl h0
  · refine .inr ⟨a, len, cap, m, D, Pl, hcs, hb, hl, hm, hmm, by rw [hC] at hx; exact hx, fun i him => ?_⟩
    obtain ⟨cs', hc, ht'⟩ := hi i him
    rw [hC] at hc
    obtain ⟨ys, n', hn', hy, hlen, hyl, hf⟩ := DataW.trod_struct he ht'
    obtain ⟨_, hcl, hat⟩ := World.cells?_some hc
    simp only [Prod.mk.injEq] at hy
    refine ⟨ys, n', hy.1, hy.2, hyl, fun j f hj => ?_⟩
    obtain ⟨ho, hk⟩ := hone_of hone j f hj
    have hjl : j < fs.size := (Array.getElem?_eq_some_iff.1 hj).1
    have hcell := hat j hjl
    have hv : cs'[j]? = some (cs'[j]'(by omega)) := List.getElem?_eq_getElem (by omega)
    have h1 := hf j f hj
    rw [ho, hk] at h1
    have hone' : (cs'.drop j).take 1 = [cs'[j]'(by omega)] := by
      rw [List.drop_eq_getElem_cons (by omega)]
      rfl
    rw [hone'] at h1
    have hys : ys[j]? = some (ys[j]'(by omega)) := List.getElem?_eq_getElem (by omega)
    refine ⟨_, _, ?_, hys, h1.trans hys⟩
    rw [← Go.Deep.add_add, hcell, hv]
/-- the address of such a slice is plain -/
theorem plain_addr {a : Addr} {v : Value} {w : World} (h : w.cell? a = some v) : ∃ b o, a = ⟨b, o, none⟩ := by
  obtain ⟨b, o, spot⟩ := a
  have hs : spot = none := World.cell?_spot h
  subst hs
  exact ⟨b, o, rfl⟩
theorem choose4 {α : Type} [Inhabited α] {n : Nat} {p : Nat → α → Prop} (h : ∀ i, i < n → ∃ x, p i x) : ∃ f : Nat → α, ∀ i, i < n → p i (f i) := by
  classical
  refine ⟨fun i => if hi : i < n then Classical.choose (h i hi) else default, fun i hi => ?_⟩
  dsimp only
  rw [dif_pos hi]
  exact Classical.choose_spec (h i hi)
end
end Go.Proofs.YtgbdhmdaefbglaaDoor

namespace Go.Proofs.YtgbdhmdaefbglaaDoor

/-- the bit i of a list of words -/
def bat (ws : List Nat) (i : Nat) : Bool := (ws.getD (i / 64) 0).testBit (i % 64)

/-- the answer of Check -/
def chk (N : Int) (ws : List Nat) : Int :=
  if N < 0 ∨ 4096 < N then 7 else if (ws.length : Int) ≠ (N + 63) / 64 then 6
  else if ∀ i, i < 64 * ws.length → N.toNat ≤ i → bat ws i = false then 0 else 6

theorem chk_range {N : Int} {ws : List Nat} (h : N < 0 ∨ 4096 < N) : chk N ws = 7 := by unfold chk; rw [if_pos h]
theorem chk_len {N : Int} {ws : List Nat} (h : ¬ (N < 0 ∨ 4096 < N)) (h2 : (ws.length : Int) ≠ (N + 63) / 64) : chk N ws = 6 := by
  unfold chk; rw [if_neg h, if_pos h2]
theorem chk_ok {N : Int} {ws : List Nat} (h : ¬ (N < 0 ∨ 4096 < N)) (h2 : (ws.length : Int) = (N + 63) / 64) (h3 : ∀ i, i < 64 * ws.length → N.toNat ≤ i → bat ws i = false) : chk N ws = 0 := by
  unfold chk; rw [if_neg h, if_neg (by simpa using h2), if_pos h3]
theorem chk_bad {N : Int} {ws : List Nat} (h : ¬ (N < 0 ∨ 4096 < N)) (h2 : (ws.length : Int) = (N + 63) / 64) (i : Nat) (hi : i < 64 * ws.length) (hn : N.toNat ≤ i) (hb : bat ws i = true) : chk N ws = 6 := by
  unfold chk; rw [if_neg h, if_neg (by simpa using h2), if_neg]
  intro h3; rw [h3 i hi hn] at hb; cases hb

theorem getD_lt {ws : List Nat} {B : Nat} (h : ∀ x ∈ ws, x < B) (hB : 0 < B) (i : Nat) : ws.getD i 0 < B := by
  by_cases hi : i < ws.length
  · rw [List.getD_eq_getElem?_getD, List.getElem?_eq_getElem hi]; exact h _ (List.getElem_mem hi)
  · rw [List.getD_eq_getElem?_getD, List.getElem?_eq_none (by omega)]; exact hB

/-- The test that Check makes of the last word. -/
theorem chk_word0 {n : Nat} {ws : List Nat} (hn : n ≤ 4096) (hl : (ws.length : Int) = ((n : Int) + 63) / 64) (h64 : n % 64 = 0) : chk n ws = 0 := by
  refine chk_ok (by omega) hl fun i hi hni => ?_
  have : ws.length = n / 64 := by omega
  omega
theorem chk_word {n : Nat} {ws : List Nat} (hn : n ≤ 4096) (hl : (ws.length : Int) = ((n : Int) + 63) / 64) (h64 : 0 < n % 64) (hw : ∀ x ∈ ws, x < 2 ^ 64) :
    chk n ws = if ws.getD (n / 64) 0 / 2 ^ (n % 64) = 0 then 0 else 6 := by
  have hlen : ws.length = n / 64 + 1 := by omega
  split
  · rename_i h0
    refine chk_ok (by omega) hl fun i hi hni => ?_
    have e : i / 64 = n / 64 := by omega
    unfold bat
    rw [e]
    have hlt : ws.getD (n / 64) 0 < 2 ^ (n % 64) := by
      rcases Nat.div_eq_zero_iff.1 h0 with h | h
      · exact absurd h (by have := Nat.two_pow_pos (n % 64); omega)
      · exact h
    refine Nat.testBit_lt_two_pow (Nat.lt_of_lt_of_le hlt (Nat.pow_le_pow_right (by decide) ?_))
    omega
  · rename_i h0
    have hx := getD_lt hw (by decide) (n / 64)
    have hne : ws.getD (n / 64) 0 / 2 ^ (n % 64) ≠ 0 := h0
    obtain ⟨j, hj⟩ := Nat.exists_testBit_of_ne_zero hne
    rw [Nat.testBit_div_two_pow] at hj
    have hj64 : j + n % 64 < 64 := by
      rcases Nat.lt_or_ge (j + n % 64) 64 with h | h
      · exact h
      · have := Nat.testBit_lt_two_pow (Nat.lt_of_lt_of_le hx (Nat.pow_le_pow_right (by decide) h))
        rw [this] at hj; cases hj
    refine chk_bad (by omega) hl (64 * (n / 64) + (j + n % 64)) (by omega) (by omega) ?_
    unfold bat
    rw [show (64 * (n / 64) + (j + n % 64)) / 64 = n / 64 by omega, show (64 * (n / 64) + (j + n % 64)) % 64 = j + n % 64 by omega]
    exact hj
end Go.Proofs.YtgbdhmdaefbglaaDoor

namespace Go.Proofs.YtgbdhmdaefbglaaDoor

/-- how many i with a ≤ i < b hold -/
def cnt (p : Nat → Bool) (a : Nat) : Nat → Nat
  | 0 => 0
  | b + 1 => cnt p a b + (if a ≤ b ∧ p b = true then 1 else 0)

theorem cnt_congr {p q : Nat → Bool} {a a' : Nat} : ∀ (b : Nat), (∀ i, i < b → ((a ≤ i ∧ p i = true) ↔ (a' ≤ i ∧ q i = true))) → cnt p a b = cnt q a' b
  | 0, _ => rfl
  | b + 1, h => by
    simp only [cnt]
    rw [cnt_congr b fun i hi => h i (by omega)]
    have := h b (by omega)
    simp only [this]
theorem cnt_le (p : Nat → Bool) (a : Nat) : ∀ b, cnt p a b ≤ b
  | 0 => Nat.le_refl _
  | b + 1 => by have := cnt_le p a b; simp only [cnt]; split <;> omega
theorem cnt_sub_le (p : Nat → Bool) (a : Nat) : ∀ b, cnt p a b ≤ b - a
  | 0 => by simp [cnt]
  | b + 1 => by have := cnt_sub_le p a b; simp only [cnt]; split <;> omega
theorem cnt_add (p : Nat → Bool) (a b : Nat) : ∀ m, cnt p a (b + m) = cnt p a b + cnt (fun j => p (b + j) && decide (a ≤ b + j)) 0 m
  | 0 => rfl
  | m + 1 => by
    rw [← Nat.add_assoc]
    simp only [cnt, cnt_add p a b m]
    by_cases h : a ≤ b + m <;> by_cases h' : p (b + m) = true <;> simp [h, h'] <;> omega
theorem cnt_none {p : Nat → Bool} {a : Nat} : ∀ (b : Nat), (∀ i, i < b → a ≤ i → p i = false) → cnt p a b = 0
  | 0, _ => rfl
  | b + 1, h => by
    simp only [cnt, cnt_none b fun i hi => h i (by omega)]
    rw [if_neg]
    rintro ⟨h1, h2⟩
    rw [h b (by omega) h1] at h2; cases h2
theorem cnt_cut {p : Nat → Bool} {a b : Nat} (c : Nat) (hc : b ≤ c) (h : ∀ i, b ≤ i → i < c → p i = false) : cnt p a c = cnt p a b := by
  obtain ⟨m, rfl⟩ := Nat.exists_eq_add_of_le hc
  rw [cnt_add, cnt_none (p := fun j => p (b + j) && decide (a ≤ b + j)) m, Nat.add_zero]
  intro i hi _
  simp [h (b + i) (by omega) (by omega)]
theorem cnt_zero {p : Nat → Bool} {a b : Nat} (h : b ≤ a) : cnt p a b = 0 := by
  have := cnt_sub_le p a b; omega
theorem cnt_eq_zero {p : Nat → Bool} {a : Nat} : ∀ {b : Nat}, cnt p a b = 0 → ∀ i, a ≤ i → i < b → p i = false
  | 0, _, _, _, hi => by omega
  | b + 1, h, i, ha, hi => by
    simp only [cnt] at h
    by_cases e : i = b
    · subst e
      cases hp : p i with
      | false => rfl
      | true => rw [if_pos ⟨ha, hp⟩] at h; omega
    · exact cnt_eq_zero (b := b) (by omega) i ha (by omega)

/-- the word with the bits from f on, below t -/
def mk (f t : Nat) : Nat := (18446744073709551615 * 2 ^ f % 18446744073709551616) &&& (18446744073709551615 / 2 ^ (64 - t))

theorem ones_testBit (i : Nat) : Nat.testBit 18446744073709551615 i = decide (i < 64) := by
  have : (18446744073709551615 : Nat) = 2 ^ 64 - 1 := by decide
  rw [this, Nat.testBit_two_pow_sub_one]
theorem mk_testBit {f t : Nat} (hf : f ≤ 64) (ht : t ≤ 64) (i : Nat) : (mk f t).testBit i = (decide (f ≤ i) && decide (i < t)) := by
  unfold mk
  rw [Nat.testBit_and, show (18446744073709551616 : Nat) = 2 ^ 64 by decide, Nat.testBit_mod_two_pow, Nat.mul_comm, Nat.testBit_two_pow_mul, Nat.testBit_div_two_pow, ones_testBit, ones_testBit]
  by_cases h1 : i < 64 <;> by_cases h2 : f ≤ i <;> by_cases h3 : i < t <;> simp [h1, h2, h3] <;> omega
theorem mk_lt (f t : Nat) : mk f t < 2 ^ 64 := by
  unfold mk
  refine Nat.lt_of_le_of_lt Nat.and_le_left ?_
  exact Nat.mod_lt _ (by decide)

/-- how many bits of a word are set -/
def pop (x : Nat) : Nat := cnt x.testBit 0 64
theorem pop_le (x : Nat) : pop x ≤ 64 := cnt_le _ _ _

theorem bat_at (ws : List Nat) (k j : Nat) (hj : j < 64) : bat ws (64 * k + j) = (ws.getD k 0).testBit j := by
  unfold bat
  rw [show (64 * k + j) / 64 = k by omega, show (64 * k + j) % 64 = j by omega]
theorem pop_mask {x f t : Nat} (hf : f ≤ 64) (ht : t ≤ 64) : pop (x &&& mk f t) = cnt (fun j => x.testBit j && decide (f ≤ j)) 0 t := by
  unfold pop
  rw [cnt_cut (b := t) 64 ht]
  · refine cnt_congr t fun i hi => ?_
    rw [Nat.testBit_and, mk_testBit hf ht]
    simp [hi]
  · intro i h1 h2
    rw [Nat.testBit_and, mk_testBit hf ht]
    simp; omega
theorem count_step (ws : List Nat) {f t k : Nat} (h : 64 * k < t) (hf : f / 64 ≤ k) :
    cnt (bat ws) f (min t (64 * (k + 1))) = cnt (bat ws) f (min t (64 * k)) + pop (ws.getD k 0 &&& mk (f - 64 * k) (min 64 (t - 64 * k))) := by
  rw [pop_mask (by omega) (by omega), show min t (64 * (k + 1)) = 64 * k + min 64 (t - 64 * k) by omega, cnt_add, show min t (64 * k) = 64 * k by omega]
  congr 1
  refine cnt_congr _ fun j hj => ?_
  rw [bat_at _ _ _ (by omega)]
  simp only [Bool.and_eq_true, decide_eq_true_eq]
  constructor <;> rintro ⟨h1, h2, h3⟩ <;> exact ⟨h1, h2, by omega⟩

/-! ### The number of set bits, by halves -/
def rep (c : Nat) : Nat → Nat
  | 0 => 0
  | n + 1 => rep c n * 256 + c
theorem and_split {b d : Nat} (a c : Nat) (hb : b < 256) (hd : d < 256) : (a * 256 + b) &&& (c * 256 + d) = (a &&& c) * 256 + (b &&& d) := by
  have hbd : b &&& d < 256 := Nat.lt_of_le_of_lt Nat.and_le_left hb
  rw [Nat.mul_comm a, Nat.mul_comm c, Nat.mul_comm (a &&& c), show (256 : Nat) = 2 ^ 8 from rfl]
  apply Nat.eq_of_testBit_eq
  intro i
  rw [Nat.testBit_and, Nat.testBit_two_pow_mul_add _ hb, Nat.testBit_two_pow_mul_add _ hd, Nat.testBit_two_pow_mul_add _ hbd]
  split <;> simp [Nat.testBit_and]
theorem rep_succ (c n : Nat) : rep c (n + 1) = rep c n * 256 + c := rfl
def s1 (n x : Nat) : Nat := ((x / 2) &&& rep 0x55 n) + (x &&& rep 0x55 n)
def s2 (n x : Nat) : Nat := ((x / 4) &&& rep 0x33 n) + (x &&& rep 0x33 n)
def s3 (n x : Nat) : Nat := (x / 16 + x) &&& rep 0x0f n
def g1 (b : Nat) : Nat := ((b / 2) &&& 0x55) + (b &&& 0x55)
def g2 (b : Nat) : Nat := ((b / 4) &&& 0x33) + (b &&& 0x33)
theorem g1_lt : ∀ b : Fin 256, g1 b.val < 256 := by decide +kernel
theorem g2_lt : ∀ b : Fin 256, g2 b.val < 256 := by decide +kernel
theorem c1 : ∀ b : Fin 256, ∀ t : Fin 2, (t.val * 128 + b.val / 2) &&& 0x55 = (b.val / 2) &&& 0x55 := by decide +kernel
theorem c2 : ∀ b : Fin 256, ∀ t : Fin 4, (t.val * 64 + b.val / 4) &&& 0x33 = (b.val / 4) &&& 0x33 := by decide +kernel
theorem s1_split (n a b : Nat) (hb : b < 256) : s1 (n + 1) (a * 256 + b) = s1 n a * 256 + g1 b := by
  unfold s1 g1
  rw [rep_succ]
  have e : (a * 256 + b) / 2 = (a / 2) * 256 + ((a % 2) * 128 + b / 2) := by omega
  rw [e, and_split _ _ (by omega) (by decide), and_split _ _ hb (by decide)]
  have := c1 ⟨b, hb⟩ ⟨a % 2, by omega⟩
  simp only at this
  rw [this]; omega
theorem s2_split (n a b : Nat) (hb : b < 256) : s2 (n + 1) (a * 256 + b) = s2 n a * 256 + g2 b := by
  unfold s2 g2
  rw [rep_succ]
  have e : (a * 256 + b) / 4 = (a / 4) * 256 + ((a % 4) * 64 + b / 4) := by omega
  rw [e, and_split _ _ (by omega) (by decide), and_split _ _ hb (by decide)]
  have := c2 ⟨b, hb⟩ ⟨a % 4, by omega⟩
  simp only at this
  rw [this]; omega
def g3 (b : Nat) : Nat := (b / 16 + b) % 16
theorem c3 : ∀ b : Fin 256, ∀ t : Fin 16, t.val ≤ 4 → b.val ≤ 68 → (t.val * 16 + b.val / 16 + b.val) &&& 0x0f = (b.val / 16 + b.val) % 16 := by decide +kernel
/-- each nibble is at most 4 -/
def Low : Nat → Nat → Prop
  | 0, x => x = 0
  | n + 1, x => x % 16 ≤ 4 ∧ x % 256 ≤ 68 ∧ Low n (x / 256)
theorem s3_split (n a b : Nat) (hb : b ≤ 68) (ha : a % 16 ≤ 4) : s3 (n + 1) (a * 256 + b) = s3 n a * 256 + g3 b := by
  unfold s3 g3
  rw [rep_succ]
  have e : (a * 256 + b) / 16 + (a * 256 + b) = (a / 16 + a) * 256 + ((a % 16) * 16 + b / 16 + b) := by omega
  rw [e, and_split _ _ (by omega) (by decide)]
  have := c3 ⟨b, by omega⟩ ⟨a % 16, by omega⟩ ha hb
  simp only at this
  rw [this]
def pop8 (b : Nat) : Nat := cnt b.testBit 0 8
theorem g_pop : ∀ b : Fin 256, g3 (g2 (g1 b.val)) = pop8 b.val ∧ g2 (g1 b.val) % 16 ≤ 4 ∧ g2 (g1 b.val) ≤ 68 := by decide +kernel
theorem pop_split (m a b : Nat) (hb : b < 256) : cnt (a * 256 + b).testBit 0 (8 + m) = pop8 b + cnt a.testBit 0 m := by
  rw [cnt_add]
  have h : ∀ i, (a * 256 + b).testBit i = if i < 8 then b.testBit i else a.testBit (i - 8) := fun i => by
    rw [Nat.mul_comm, show (256 : Nat) = 2 ^ 8 from rfl, Nat.testBit_two_pow_mul_add _ hb]
  congr 1
  · exact cnt_congr 8 fun i hi => by rw [h, if_pos hi]
  · refine cnt_congr m fun i hi => ?_
    simp only [h]
    rw [if_neg (by omega)]
    simp
/-- the first three steps, byte by byte -/
theorem steps (n : Nat) : ∀ x, x < 256 ^ n → ∃ z, s3 n (s2 n (s1 n x)) = z ∧ Low n (s2 n (s1 n x)) ∧ (∀ m, n = m + 1 → z = s3 m (s2 m (s1 m (x / 256))) * 256 + pop8 (x % 256)) := by
  induction n with
  | zero =>
    intro x hx
    refine ⟨_, rfl, ?_, fun m hm => by omega⟩
    have : x = 0 := by simpa using hx
    subst this; exact (show s2 0 (s1 0 0) = 0 by decide)
  | succ n ih =>
    intro x hx
    have hb : x % 256 < 256 := Nat.mod_lt _ (by decide)
    obtain ⟨g, hg1, hg2⟩ := g_pop ⟨x % 256, hb⟩
    simp only at g hg1 hg2
    have l1 := g1_lt ⟨x % 256, hb⟩
    have l2 := g2_lt ⟨g1 (x % 256), l1⟩
    simp only at l1 l2
    have ex : x = (x / 256) * 256 + x % 256 := by omega
    have hxa : x / 256 < 256 ^ n := by rw [Nat.pow_succ] at hx; omega
    obtain ⟨_, _, hL, _⟩ := ih (x / 256) hxa
    have e1 : s1 (n + 1) x = s1 n (x / 256) * 256 + g1 (x % 256) := by
      conv => lhs; rw [ex]
      exact s1_split n _ _ hb
    have e2 : s2 (n + 1) (s1 (n + 1) x) = s2 n (s1 n (x / 256)) * 256 + g2 (g1 (x % 256)) := by rw [e1]; exact s2_split n _ _ l1
    have hlow : s2 n (s1 n (x / 256)) % 16 ≤ 4 := by
      cases n with
      | zero => have : s2 0 (s1 0 (x / 256)) = 0 := hL; omega
      | succ m => exact hL.1
    have e3 : s3 (n + 1) (s2 (n + 1) (s1 (n + 1) x)) = s3 n (s2 n (s1 n (x / 256))) * 256 + g3 (g2 (g1 (x % 256))) := by rw [e2]; exact s3_split n _ _ hg2 hlow
    refine ⟨_, rfl, ?_, fun m hm => ?_⟩
    · rw [e2]
      refine ⟨by omega, by omega, ?_⟩
      rw [show (s2 n (s1 n (x / 256)) * 256 + g2 (g1 (x % 256))) / 256 = s2 n (s1 n (x / 256)) by omega]
      exact hL
    · obtain rfl : n = m := by omega
      rw [e3, g]
theorem step1 (n x : Nat) (hx : x < 256 ^ (n + 1)) : s3 (n + 1) (s2 (n + 1) (s1 (n + 1) x)) = s3 n (s2 n (s1 n (x / 256))) * 256 + pop8 (x % 256) := by
  obtain ⟨_, rfl, _, h⟩ := steps (n + 1) x hx
  exact h n rfl
theorem pop8_le (b : Nat) : pop8 b ≤ 8 := cnt_le _ _ _
theorem fold8 (z r0 r1 r2 r3 r4 r5 r6 r7 : Nat) (q0 : r0 ≤ 8) (q1 : r1 ≤ 8) (q2 : r2 ≤ 8) (q3 : r3 ≤ 8) (q4 : r4 ≤ 8) (q5 : r5 ≤ 8) (q6 : r6 ≤ 8) (q7 : r7 ≤ 8)
    (hz : z = (((((((0 * 256 + r7) * 256 + r6) * 256 + r5) * 256 + r4) * 256 + r3) * 256 + r2) * 256 + r1) * 256 + r0) : ∃ y v,
    z ≤ 578721382704613384 ∧ y = z + z / 256 ∧ y ≤ 18446744073709551615 ∧ v = y + y / 65536 ∧ v ≤ 18446744073709551615 ∧ v + v / 4294967296 ≤ 9223372036854775807 ∧ (v + v / 4294967296) % 128 = r0 + (r1 + (r2 + (r3 + (r4 + (r5 + (r6 + r7)))))) := by
  have hz' : z = r0 + 256 * r1 + 65536 * r2 + 16777216 * r3 + 4294967296 * r4 + 1099511627776 * r5 + 281474976710656 * r6 + 72057594037927936 * r7 := by omega
  clear hz
  have e1 : z / 256 = r1 + 256 * r2 + 65536 * r3 + 16777216 * r4 + 4294967296 * r5 + 1099511627776 * r6 + 281474976710656 * r7 := by omega
  obtain ⟨y, hy⟩ : ∃ y, y = z + z / 256 := ⟨_, rfl⟩
  have hy' : y = (r0 + r1) + 256 * (r1 + r2) + 65536 * (r2 + r3) + 16777216 * (r3 + r4) + 4294967296 * (r4 + r5) + 1099511627776 * (r5 + r6) + 281474976710656 * (r6 + r7) + 72057594037927936 * r7 := by rw [hy, e1]; omega
  have e2 : y / 65536 = (r2 + r3) + 256 * (r3 + r4) + 65536 * (r4 + r5) + 16777216 * (r5 + r6) + 4294967296 * (r6 + r7) + 1099511627776 * r7 := by clear hy e1 hz'; omega
  obtain ⟨v, hv⟩ : ∃ v, v = y + y / 65536 := ⟨_, rfl⟩
  have hv' : v = (r0 + r1 + r2 + r3) + 256 * (r1 + r2 + r3 + r4) + 65536 * (r2 + r3 + r4 + r5) + 16777216 * (r3 + r4 + r5 + r6) + 4294967296 * (r4 + r5 + r6 + r7) + 1099511627776 * (r5 + r6 + r7) + 281474976710656 * (r6 + r7) + 72057594037927936 * r7 := by
    rw [hv, e2]; clear e1 e2 hy hv hz'; omega
  have e3 : v / 4294967296 = (r4 + r5 + r6 + r7) + 256 * (r5 + r6 + r7) + 65536 * (r6 + r7) + 16777216 * r7 := by clear e1 e2 hy hy' hz' hv; omega
  refine ⟨y, v, ?_, hy, ?_, hv, ?_, ?_, ?_⟩
  · clear hv' hy' hy hv e1 e2 e3; omega
  · clear hv' hz' hy hv e1 e2 e3; omega
  · clear hy' hz' hy hv e1 e2 e3; omega
  · rw [e3]; clear hy' hz' hy hv e1 e2 e3; omega
  · rw [e3]; clear hy' hz' hy hv e1 e2 e3; omega
theorem swar (x : Nat) (hx : x < 18446744073709551616) : ∃ z y v, z = s3 8 (s2 8 (s1 8 x)) ∧ z ≤ 578721382704613384 ∧ y = z + z / 256 ∧ y ≤ 18446744073709551615 ∧ v = y + y / 65536 ∧ v ≤ 18446744073709551615 ∧
    v + v / 4294967296 ≤ 9223372036854775807 ∧ (v + v / 4294967296) % 128 = pop x := by
  have hx8 : x < 256 ^ 8 := by simpa using hx
  have h8 := step1 7 x hx8
  have b7 : x / 256 < 256 ^ 7 := by simp; omega
  have h7 := step1 6 _ b7
  have b6 : x / 256 / 256 < 256 ^ 6 := by simp; omega
  have h6 := step1 5 _ b6
  have b5 : x / 256 / 256 / 256 < 256 ^ 5 := by simp; omega
  have h5 := step1 4 _ b5
  have b4 : x / 256 / 256 / 256 / 256 < 256 ^ 4 := by simp; omega
  have h4 := step1 3 _ b4
  have b3 : x / 256 / 256 / 256 / 256 / 256 < 256 ^ 3 := by simp; omega
  have h3 := step1 2 _ b3
  have b2 : x / 256 / 256 / 256 / 256 / 256 / 256 < 256 ^ 2 := by simp; omega
  have h2 := step1 1 _ b2
  have b1 : x / 256 / 256 / 256 / 256 / 256 / 256 / 256 < 256 ^ 1 := by simp; omega
  have h1 := step1 0 _ b1
  have h0 : s3 0 (s2 0 (s1 0 (x / 256 / 256 / 256 / 256 / 256 / 256 / 256 / 256))) = 0 := by simp [s3, rep]
  rw [h0] at h1
  rw [h1] at h2; rw [h2] at h3; rw [h3] at h4; rw [h4] at h5; rw [h5] at h6; rw [h6] at h7; rw [h7] at h8
  have p8 : pop x = pop8 (x % 256) + (pop8 (x / 256 % 256) + (pop8 (x / 256 / 256 % 256) + (pop8 (x / 256 / 256 / 256 % 256) + (pop8 (x / 256 / 256 / 256 / 256 % 256) + (pop8 (x / 256 / 256 / 256 / 256 / 256 % 256) +
      (pop8 (x / 256 / 256 / 256 / 256 / 256 / 256 % 256) + pop8 (x / 256 / 256 / 256 / 256 / 256 / 256 / 256 % 256))))))) := by
    have key : ∀ (m y : Nat), cnt y.testBit 0 (8 + m) = pop8 (y % 256) + cnt (y / 256).testBit 0 m := fun m y => by
      have := pop_split m (y / 256) (y % 256) (Nat.mod_lt _ (by decide))
      rwa [show y / 256 * 256 + y % 256 = y by omega] at this
    unfold pop
    rw [show 64 = 8 + 56 from rfl, key, show 56 = 8 + 48 from rfl, key, show 48 = 8 + 40 from rfl, key, show 40 = 8 + 32 from rfl, key, show 32 = 8 + 24 from rfl, key, show 24 = 8 + 16 from rfl, key, show 16 = 8 + 8 from rfl, key,
      show 8 = 8 + 0 from rfl, key]
    simp [cnt]
  have q0 := pop8_le (x % 256)
  have q1 := pop8_le (x / 256 % 256)
  have q2 := pop8_le (x / 256 / 256 % 256)
  have q3 := pop8_le (x / 256 / 256 / 256 % 256)
  have q4 := pop8_le (x / 256 / 256 / 256 / 256 % 256)
  have q5 := pop8_le (x / 256 / 256 / 256 / 256 / 256 % 256)
  have q6 := pop8_le (x / 256 / 256 / 256 / 256 / 256 / 256 % 256)
  have q7 := pop8_le (x / 256 / 256 / 256 / 256 / 256 / 256 / 256 % 256)
  obtain ⟨y, v, f1, f2, f3, f4, f5, f6, f7⟩ := fold8 _ _ _ _ _ _ _ _ _ q0 q1 q2 q3 q4 q5 q6 q7 h8
  exact ⟨_, y, v, rfl, f1, f2, f3, f4, f5, f6, f7.trans p8.symm⟩
theorem swar_s1 (x : Nat) : s1 8 x = ((x / 2) &&& 6148914691236517205) + (x &&& 6148914691236517205) := rfl
theorem swar_s2 (x : Nat) : s2 8 x = ((x / 4) &&& 3689348814741910323) + (x &&& 3689348814741910323) := rfl
theorem swar_s3 (x : Nat) : s3 8 x = ((x / 16) + x) &&& 1085102592571150095 := rfl
end Go.Proofs.YtgbdhmdaefbglaaDoor

namespace Go.Proofs.YtgbdhmdaefbglaaDoor

/-- the first i from a on, below n, that holds; else n -/
def nxtF (p : Nat → Bool) : Nat → Nat → Nat
  | 0, a => a
  | m + 1, a => if p a = true then a else nxtF p m (a + 1)
def nxt (p : Nat → Bool) (a n : Nat) : Nat := nxtF p (n - a) a
theorem nxtF_spec (p : Nat → Bool) : ∀ m a, a ≤ nxtF p m a ∧ nxtF p m a ≤ a + m ∧ (∀ i, a ≤ i → i < nxtF p m a → p i = false) ∧ (nxtF p m a < a + m → p (nxtF p m a) = true)
  | 0, a => ⟨Nat.le_refl _, Nat.le_refl _, fun i h1 h2 => by simp only [nxtF] at h2; omega, fun h => by simp only [nxtF] at h; omega⟩
  | m + 1, a => by
    simp only [nxtF]
    split
    · rename_i h
      exact ⟨Nat.le_refl _, by omega, fun i h1 h2 => by omega, fun _ => h⟩
    · rename_i h
      obtain ⟨h1, h2, h3, h4⟩ := nxtF_spec p m (a + 1)
      refine ⟨by omega, by omega, fun i hi hj => ?_, fun hlt => h4 (by omega)⟩
      by_cases e : i = a
      · subst e; simpa using h
      · exact h3 i (by omega) hj
theorem nxt_spec {p : Nat → Bool} {a n : Nat} (h : a ≤ n) : a ≤ nxt p a n ∧ nxt p a n ≤ n ∧ (∀ i, a ≤ i → i < nxt p a n → p i = false) ∧ (nxt p a n < n → p (nxt p a n) = true) := by
  obtain ⟨h1, h2, h3, h4⟩ := nxtF_spec p (n - a) a
  refine ⟨h1, ?_, h3, fun hlt => h4 ?_⟩
  · unfold nxt; omega
  · unfold nxt at hlt; omega
theorem nxt_eq {p : Nat → Bool} {a n r : Nat} (h : a ≤ n) (h1 : a ≤ r) (h2 : r ≤ n) (h3 : ∀ i, a ≤ i → i < r → p i = false) (h4 : r < n → p r = true) : nxt p a n = r := by
  obtain ⟨g1, g2, g3, g4⟩ := nxt_spec (p := p) h
  rcases Nat.lt_trichotomy (nxt p a n) r with hlt | he | hgt
  · have := h3 _ g1 hlt
    rw [g4 (by omega)] at this; cases this
  · exact he
  · have := g3 _ h1 hgt
    rw [h4 (by omega)] at this; cases this

theorem ctz_bit {x : Nat} (h0 : x ≠ 0) (h : x < 18446744073709551616) : Lib.ctz 64 x < 64 ∧ x.testBit (Lib.ctz 64 x) = true ∧ ∀ j, j < Lib.ctz 64 x → x.testBit j = false := by
  obtain ⟨m, hm, hl⟩ := Lib.ctzFrom_spec 64 x (by omega) h
  have e : Lib.ctz 64 x = Lib.ctzFrom 64 x := by unfold Lib.ctz; rw [if_neg h0]
  rw [e]
  generalize Lib.ctzFrom 64 x = c at *
  subst hm
  refine ⟨hl, ?_, fun j hj => ?_⟩
  · rw [Nat.testBit_two_pow_mul]
    simp
  · rw [Nat.testBit_two_pow_mul]
    simp; omega

/-- the bits of a word that are looked for -/
def wrd (x : Nat) (on : Bool) (t : Nat) : Nat := (if on then x else 18446744073709551615 - x) &&& mk 0 t
theorem wrd_lt (x : Nat) (on : Bool) (t : Nat) : wrd x on t < 18446744073709551616 := Nat.lt_of_le_of_lt Nat.and_le_right (mk_lt 0 t)
theorem flip_testBit {x : Nat} (hx : x < 18446744073709551616) (j : Nat) : (18446744073709551615 - x).testBit j = (decide (j < 64) && !x.testBit j) := by
  have := Nat.testBit_two_pow_sub_succ (x := x) (n := 64) (by simpa using hx) j
  rw [show 2 ^ 64 - (x + 1) = 18446744073709551615 - x by omega] at this
  exact this
theorem wrd_testBit {x : Nat} (hx : x < 18446744073709551616) (on : Bool) {t : Nat} (ht : t ≤ 64) (j : Nat) : (wrd x on t).testBit j = (decide (j < t) && (x.testBit j == on)) := by
  unfold wrd
  rw [Nat.testBit_and, mk_testBit (by omega) ht]
  cases on
  · rw [if_neg (by simp), flip_testBit hx]
    by_cases h : j < t <;> simp [h] <;> omega
  · simp
    cases x.testBit j <;> simp
/-- what is looked for in bits -/
def look (ws : List Nat) (on : Bool) (i : Nat) : Bool := bat ws i == on
theorem look_word {ws : List Nat} {on : Bool} {n k j : Nat} (hw : ∀ x ∈ ws, x < 18446744073709551616) (hj : j < min 64 (n - 64 * k)) : (wrd (ws.getD k 0) on (min 64 (n - 64 * k))).testBit j = look ws on (64 * k + j) := by
  rw [wrd_testBit (getD_lt hw (by decide) k) on (by omega)]
  unfold look
  rw [bat_at _ _ _ (by omega)]
  simp [hj]
/-- one round of the search: nothing in this word -/
theorem next_none {ws : List Nat} {on : Bool} {n f k : Nat} (hw : ∀ x ∈ ws, x < 18446744073709551616)
    (h : wrd (ws.getD k 0) on (min 64 (n - 64 * k)) &&& mk (f - 64 * k) 64 = 0) (hf : f ≤ 64 * (k + 1)) : ∀ i, f ≤ i → 64 * k ≤ i → i < min n (64 * (k + 1)) → look ws on i = false := by
  intro i h1 h2 h3
  have e := look_word (ws := ws) (on := on) (n := n) (k := k) (j := i - 64 * k) hw (by omega)
  rw [show 64 * k + (i - 64 * k) = i by omega] at e
  have hb : (wrd (ws.getD k 0) on (min 64 (n - 64 * k)) &&& mk (f - 64 * k) 64).testBit (i - 64 * k) = false := by rw [h]; simp
  rw [Nat.testBit_and, mk_testBit (by omega) (by omega), e] at hb
  simpa [show f - 64 * k ≤ i - 64 * k by omega, show i - 64 * k < 64 by omega] using hb
/-- .. and where there is something -/
theorem next_some {ws : List Nat} {on : Bool} {n f k : Nat} (hw : ∀ x ∈ ws, x < 18446744073709551616)
    (h : wrd (ws.getD k 0) on (min 64 (n - 64 * k)) &&& mk (f - 64 * k) 64 ≠ 0) (hf : f ≤ 64 * (k + 1)) (hfn : f ≤ n) (hpre : ∀ i, f ≤ i → i < min n (64 * k) → look ws on i = false) :
    nxt (look ws on) f n = 64 * k + Lib.ctz 64 (wrd (ws.getD k 0) on (min 64 (n - 64 * k)) &&& mk (f - 64 * k) 64) := by
  obtain ⟨c1, c2, c3⟩ := ctz_bit h (Nat.lt_of_le_of_lt Nat.and_le_left (wrd_lt _ _ _))
  generalize Lib.ctz 64 (wrd (ws.getD k 0) on (min 64 (n - 64 * k)) &&& mk (f - 64 * k) 64) = c at *
  rw [Nat.testBit_and, mk_testBit (by omega) (by omega)] at c2
  simp only [Bool.and_eq_true, decide_eq_true_eq] at c2
  have hlt : c < min 64 (n - 64 * k) := by
    have := c2.1
    rw [wrd_testBit (getD_lt hw (by decide) k) on (by omega)] at this
    simp only [Bool.and_eq_true, decide_eq_true_eq] at this
    exact this.1
  have hl := look_word (ws := ws) (on := on) (n := n) (k := k) hw hlt
  rw [c2.1] at hl
  refine nxt_eq hfn (by omega) (by omega) (fun i h1 h2 => ?_) (fun _ => hl.symm)
  by_cases hik : i < 64 * k
  · exact hpre i h1 (by omega)
  · have e := look_word (ws := ws) (on := on) (n := n) (k := k) (j := i - 64 * k) hw (by omega)
    rw [show 64 * k + (i - 64 * k) = i by omega] at e
    have := c3 (i - 64 * k) (by omega)
    rw [Nat.testBit_and, mk_testBit (by omega) (by omega), e] at this
    simpa [show f - 64 * k ≤ i - 64 * k by omega, show i - 64 * k < 64 by omega] using this
end Go.Proofs.YtgbdhmdaefbglaaDoor

namespace Go.Proofs.YtgbdhmdaefbglaaDoor

/-- a rule: kind, first, every, times -/
abbrev Rl := Int × Int × Int × Int
abbrev rl0 : Rl := (0, 0, 0, 0)
/-- the error of a rule -/
def rlE (x : Rl) : Int :=
  if x.1 < 0 ∨ 7 ≤ x.1 then 2
  else if x.2.1 < 1 ∨ 10000 < x.2.1 ∨ x.2.2.1 < 0 ∨ 12 < x.2.2.1 ∨ x.2.2.2 < 0 ∨ 1000 < x.2.2.2 then 7
  else if x.2.2.1 = 0 ∧ x.2.2.2 ≠ 1 then 6 else 0
theorem rlE_arg {x : Rl} (h : x.1 < 0 ∨ 7 ≤ x.1) : 2 = rlE x := by unfold rlE; rw [if_pos h]
theorem rlE_range {x : Rl} (h0 : ¬ (x.1 < 0 ∨ 7 ≤ x.1)) (h : x.2.1 < 1 ∨ 10000 < x.2.1 ∨ x.2.2.1 < 0 ∨ 12 < x.2.2.1 ∨ x.2.2.2 < 0 ∨ 1000 < x.2.2.2) : 7 = rlE x := by unfold rlE; rw [if_neg h0, if_pos h]
theorem rlE_form {x : Rl} (h0 : ¬ (x.1 < 0 ∨ 7 ≤ x.1)) (h1 : ¬ (x.2.1 < 1 ∨ 10000 < x.2.1 ∨ x.2.2.1 < 0 ∨ 12 < x.2.2.1 ∨ x.2.2.2 < 0 ∨ 1000 < x.2.2.2)) (h : x.2.2.1 = 0 ∧ x.2.2.2 ≠ 1) : 6 = rlE x := by unfold rlE; rw [if_neg h0, if_neg h1, if_pos h]
theorem rlE_good {x : Rl} (h0 : ¬ (x.1 < 0 ∨ 7 ≤ x.1)) (h1 : ¬ (x.2.1 < 1 ∨ 10000 < x.2.1 ∨ x.2.2.1 < 0 ∨ 12 < x.2.2.1 ∨ x.2.2.2 < 0 ∨ 1000 < x.2.2.2)) (h : ¬ (x.2.2.1 = 0 ∧ x.2.2.2 ≠ 1)) : 0 = rlE x := by unfold rlE; rw [if_neg h0, if_neg h1, if_neg h]
/-- a rule that is valid -/
structure RlOk (x : Rl) : Prop where
  k0 : 0 ≤ x.1
  k1 : x.1 ≤ 6
  f0 : 1 ≤ x.2.1
  f1 : x.2.1 ≤ 10000
  e0 : 0 ≤ x.2.2.1
  e1 : x.2.2.1 ≤ 12
  t0 : 0 ≤ x.2.2.2
  t1 : x.2.2.2 ≤ 1000
  et : x.2.2.1 = 0 → x.2.2.2 = 1
theorem rlE_ok {x : Rl} (h : rlE x = 0) : RlOk x := by
  unfold rlE at h
  by_cases h0 : x.1 < 0 ∨ 7 ≤ x.1
  · rw [if_pos h0] at h; cases h
  · rw [if_neg h0] at h
    by_cases h1 : x.2.1 < 1 ∨ 10000 < x.2.1 ∨ x.2.2.1 < 0 ∨ 12 < x.2.2.1 ∨ x.2.2.2 < 0 ∨ 1000 < x.2.2.2
    · rw [if_pos h1] at h; cases h
    · rw [if_neg h1] at h
      by_cases h2 : x.2.2.1 = 0 ∧ x.2.2.2 ≠ 1
      · rw [if_pos h2] at h; cases h
      · exact ⟨by omega, by omega, by omega, by omega, by omega, by omega, by omega, by omega, fun e => by omega⟩
/-- is rule i of a plan wrong? -/
def pBad (R : Nat → Rl) (i : Nat) : Bool := decide (rlE (R i) ≠ 0)
/-- the first wrong rule of a plan, and the plan's error -/
def pI (n : Nat) (R : Nat → Rl) : Int := if 50 < n then 0 else if nxt (pBad R) 0 n < n then ((nxt (pBad R) 0 n : Nat) : Int) else 0
def pE (n : Nat) (R : Nat → Rl) : Int := if 50 < n then 3 else if nxt (pBad R) 0 n < n then rlE (R (nxt (pBad R) 0 n)) else 0
theorem p_long {n : Nat} {R : Nat → Rl} (h : 50 < n) : 0 = pI n R ∧ 3 = pE n R := by unfold pI pE; rw [if_pos h, if_pos h]; exact ⟨rfl, rfl⟩
theorem p_bad {n i : Nat} {R : Nat → Rl} (h : ¬ 50 < n) (hi : i < n) (hb : rlE (R i) ≠ 0) (hp : ∀ j, j < i → rlE (R j) = 0) : (i : Int) = pI n R ∧ rlE (R i) = pE n R := by
  have e : nxt (pBad R) 0 n = i := nxt_eq (Nat.zero_le _) (Nat.zero_le _) (by omega) (fun j _ hj => by unfold pBad; simp [hp j hj]) (fun _ => by unfold pBad; simp [hb])
  unfold pI pE; rw [if_neg h, if_neg h, e, if_pos hi, if_pos hi]; exact ⟨rfl, rfl⟩
theorem p_good {n : Nat} {R : Nat → Rl} (h : ¬ 50 < n) (hp : ∀ j, j < n → rlE (R j) = 0) : 0 = pI n R ∧ 0 = pE n R := by
  have e : nxt (pBad R) 0 n = n := nxt_eq (Nat.zero_le _) (Nat.zero_le _) (Nat.le_refl _) (fun j _ hj => by unfold pBad; simp [hp j hj]) (fun h => by omega)
  unfold pI pE; rw [if_neg h, if_neg h, e, if_neg (Nat.lt_irrefl n), if_neg (Nat.lt_irrefl n)]; exact ⟨rfl, rfl⟩
theorem pE_zero {n : Nat} {R : Nat → Rl} (h : pE n R = 0) : n ≤ 50 ∧ ∀ j, j < n → RlOk (R j) := by
  unfold pE at h
  by_cases h1 : 50 < n
  · rw [if_pos h1] at h; cases h
  · rw [if_neg h1] at h
    obtain ⟨_, s2, s3, s4⟩ := nxt_spec (p := pBad R) (a := 0) (n := n) (Nat.zero_le _)
    by_cases h2 : nxt (pBad R) 0 n < n
    · rw [if_pos h2] at h
      have hb := s4 h2
      rw [pBad, h] at hb
      simp at hb
    · refine ⟨by omega, fun j hj => ?_⟩
      have := s3 j (Nat.zero_le _) (by omega)
      unfold pBad at this
      exact rlE_ok (by simpa using this)

/-- does a valid rule refuse the n-th call of a kind? -/
def rfz (x : Rl) (k n : Int) : Bool := decide (x.1 = k) && decide (x.2.1 ≤ n) && (if x.2.2.1 = 0 then decide (n = x.2.1) else decide ((n - x.2.1) % x.2.2.1 = 0) && (decide (x.2.2.2 = 0) || decide ((n - x.2.1) / x.2.2.1 < x.2.2.2)))
/-- the first call of a rule behind the n-th one; 0: there is none -/
def nxc (x : Rl) (n : Int) : Int :=
  if n < x.2.1 then x.2.1 else if x.2.2.1 = 0 then 0
  else if 0 < x.2.2.2 ∧ x.2.2.2 ≤ (n - x.2.1) / x.2.2.1 + 1 then 0 else x.2.1 + ((n - x.2.1) / x.2.2.1 + 1) * x.2.2.1
/-- how it refuses, said without division -/
theorem rfz_iff {x : Rl} (h : RlOk x) {k n : Int} : rfz x k n = true ↔ x.1 = k ∧ ∃ i : Int, 0 ≤ i ∧ (x.2.2.2 = 0 ∨ i < x.2.2.2) ∧ (x.2.2.1 = 0 → i = 0) ∧ n = x.2.1 + i * x.2.2.1 := by
  obtain ⟨K, F, E, T⟩ := x
  obtain ⟨h1, h2, h3, h4, h5, h6, h7, h8, h9⟩ := h
  dsimp only at h1 h2 h3 h4 h5 h6 h7 h8 h9 ⊢
  unfold rfz
  dsimp only
  simp only [Bool.and_eq_true, decide_eq_true_eq]
  by_cases hE : E = 0
  · rw [if_pos hE]
    have hT := h9 hE
    subst hE hT
    simp only [decide_eq_true_eq]
    constructor
    · rintro ⟨⟨e1, e2⟩, e3⟩
      exact ⟨e1, 0, by omega, by omega, fun _ => rfl, by omega⟩
    · rintro ⟨e1, i, e2, e3, e4, e5⟩
      have := e4 trivial
      subst this
      exact ⟨⟨e1, by omega⟩, by omega⟩
  · rw [if_neg hE]
    simp only [Bool.and_eq_true, Bool.or_eq_true, decide_eq_true_eq]
    have hE1 : 0 < E := by omega
    constructor
    · rintro ⟨⟨e1, e2⟩, e3, e4⟩
      refine ⟨e1, (n - F) / E, Int.ediv_nonneg (by omega) (by omega), e4, fun e => absurd e hE, ?_⟩
      have := Int.mul_ediv_add_emod (n - F) E
      rw [e3, Int.mul_comm] at this
      omega
    · rintro ⟨e1, i, e2, e3, _, e5⟩
      have hm : n - F = i * E := by omega
      have hp : 0 ≤ i * E := Int.mul_nonneg e2 (by omega)
      refine ⟨⟨e1, by omega⟩, ?_, ?_⟩
      · rw [hm]; exact Int.mul_emod_left i E
      · rw [hm, Int.mul_ediv_cancel i hE]; exact e3

/-- calls of a rule lie one behind the other -/
theorem mul_lt {a b E : Int} (hE : 0 < E) (h : a < b) : a * E + E ≤ b * E := by
  have := Int.mul_le_mul_of_nonneg_right (show a + 1 ≤ b by omega) (show 0 ≤ E by omega)
  rw [Int.add_mul, Int.one_mul] at this
  exact this
theorem nxc_spec {x : Rl} (h : RlOk x) {n : Int} :
    (nxc x n = 0 → ∀ m, n < m → rfz x x.1 m = false) ∧ (nxc x n ≠ 0 → n < nxc x n ∧ rfz x x.1 (nxc x n) = true ∧ ∀ m, n < m → m < nxc x n → rfz x x.1 m = false) := by
  have key : ∀ m, rfz x x.1 m = false ↔ ¬ (x.1 = x.1 ∧ ∃ i : Int, 0 ≤ i ∧ (x.2.2.2 = 0 ∨ i < x.2.2.2) ∧ (x.2.2.1 = 0 → i = 0) ∧ m = x.2.1 + i * x.2.2.1) := fun m => by
    rw [← rfz_iff h]; simp
  have f0 := h.f0
  have e0 := h.e0
  have t0 := h.t0
  unfold nxc
  by_cases h1 : n < x.2.1
  · rw [if_pos h1]
    refine ⟨fun e => by omega, fun _ => ⟨h1, (rfz_iff h).2 ⟨rfl, 0, Int.le_refl _, ?_, fun _ => rfl, by omega⟩, fun m _ hm => (key m).2 ?_⟩⟩
    · by_cases ht : x.2.2.2 = 0
      · exact .inl ht
      · exact .inr (by omega)
    · rintro ⟨_, i, i0, _, _, e⟩
      have := Int.mul_nonneg i0 e0
      omega
  · rw [if_neg h1]
    by_cases h2 : x.2.2.1 = 0
    · rw [if_pos h2]
      refine ⟨fun _ m hm => (key m).2 ?_, fun e => absurd rfl e⟩
      rintro ⟨_, i, i0, _, ie, e⟩
      rw [ie h2] at e
      omega
    · rw [if_neg h2]
      have hE : 0 < x.2.2.1 := by omega
      obtain ⟨q, hq⟩ : ∃ q, (n - x.2.1) / x.2.2.1 = q := ⟨_, rfl⟩
      have hq0 : 0 ≤ q := by rw [← hq]; exact Int.ediv_nonneg (by omega) (by omega)
      have hd := Int.mul_ediv_add_emod (n - x.2.1) x.2.2.1
      have hm0 := Int.emod_nonneg (n - x.2.1) h2
      have hm1 := Int.emod_lt_of_pos (n - x.2.1) hE
      rw [hq, Int.mul_comm] at hd
      rw [hq]
      have hq1 : (q + 1) * x.2.2.1 = q * x.2.2.1 + x.2.2.1 := by rw [Int.add_mul, Int.one_mul]
      have far : ∀ i : Int, n < x.2.1 + i * x.2.2.1 → q + 1 ≤ i := fun i hi => by
        by_cases hc : i ≤ q
        · have := Int.mul_le_mul_of_nonneg_right hc e0
          omega
        · omega
      by_cases h3 : 0 < x.2.2.2 ∧ x.2.2.2 ≤ q + 1
      · rw [if_pos h3]
        refine ⟨fun _ m hm => (key m).2 ?_, fun e => absurd rfl e⟩
        rintro ⟨_, i, i0, it, _, e⟩
        have := far i (by omega)
        omega
      · rw [if_neg h3]
        refine ⟨fun e => ?_, fun _ => ⟨by omega, (rfz_iff h).2 ⟨rfl, q + 1, by omega, ?_, fun e => absurd e h2, rfl⟩, fun m hm1 hm2 => (key m).2 ?_⟩⟩
        · have := Int.mul_nonneg (show 0 ≤ q + 1 by omega) e0
          omega
        · by_cases ht : x.2.2.2 = 0
          · exact .inl ht
          · exact .inr (by omega)
        · rintro ⟨_, i, i0, it, _, e⟩
          have h5 := far i (by omega)
          have := Int.mul_le_mul_of_nonneg_right h5 e0
          omega
theorem nxc_ne {x : Rl} (h : RlOk x) (n : Int) : 0 ≤ nxc x n := by
  unfold nxc
  have := h.f0
  have e0 := h.e0
  split
  · omega
  · split
    · omega
    · split
      · omega
      · rename_i h1 h2 _
        have h3 := Int.ediv_nonneg (show 0 ≤ n - x.2.1 by omega) e0
        have := Int.mul_nonneg (show 0 ≤ (n - x.2.1) / x.2.2.1 + 1 by omega) e0
        omega
/-- the program's test -/
theorem nxc_rfz {x : Rl} (h : RlOk x) (n : Int) (hn : 1 ≤ n) : (nxc x (n - 1) = n) ↔ rfz x x.1 n = true := by
  obtain ⟨s1, s2⟩ := nxc_spec h (n := n - 1)
  constructor
  · intro e
    have := (s2 (by omega)).2.1
    rw [e] at this; exact this
  · intro e
    by_cases h0 : nxc x (n - 1) = 0
    · have := s1 h0 n (by omega)
      rw [e] at this; cases this
    · obtain ⟨a, b, c⟩ := s2 h0
      by_cases hlt : n < nxc x (n - 1)
      · have := c n (by omega) hlt
        rw [e] at this; cases this
      · omega
/-- does a plan refuse the n-th call of a kind? -/
def rfP (n : Nat) (R : Nat → Rl) (k c : Int) : Bool := (List.range n).any fun i => rfz (R i) k c
theorem rfP_succ (n : Nat) (R : Nat → Rl) (k c : Int) : rfP (n + 1) R k c = (rfP n R k c || rfz (R n) k c) := by unfold rfP; rw [List.range_succ, List.any_append]; simp
theorem rfP_iff {n : Nat} {R : Nat → Rl} {k c : Int} : rfP n R k c = true ↔ ∃ i, i < n ∧ rfz (R i) k c = true := by unfold rfP; simp
theorem rfz_kind {x : Rl} {k n : Int} (h : rfz x k n = true) : x.1 = k := by unfold rfz at h; simp only [Bool.and_eq_true, decide_eq_true_eq] at h; exact h.1.1
theorem rfz_first {x : Rl} {k n : Int} (h : rfz x k n = true) : x.2.1 ≤ n := by unfold rfz at h; simp only [Bool.and_eq_true, decide_eq_true_eq] at h; exact h.1.2
/-- how many calls of a kind it refuses, up to a number -/
def hitP (n : Nat) (R : Nat → Rl) (k : Int) (c : Nat) : Nat := cnt (fun j => rfP n R k (j : Int)) 1 (c + 1)
end Go.Proofs.YtgbdhmdaefbglaaDoor

namespace Go.Proofs.YtgbdhmdaefbglaaDoor
open Go.RowKit Go.Sort

/-- A cell of a block that is not old: kept behind a name. -/
def farCell (d : Nat) (os : Array Obj) (W : World) (a : Addr) : Option Value := (grow (redrawn W d) os).cell? a
def farFrozen (d : Nat) (os : Array Obj) (W : World) (a : Addr) : Bool := (grow (redrawn W d) os).frozen? a
theorem below_grow (W : World) (d : Nat) (os : Array Obj) : Below W.heap.size W (grow (redrawn W d) os) := below_regrown W d os
theorem cell_grow (W : World) (d : Nat) (os : Array Obj) (b o : Nat) (s : Option Nat) :
    (grow (redrawn W d) os).cell? ⟨b, o, s⟩ = if b < W.heap.size then W.cell? ⟨b, o, s⟩ else farCell d os W ⟨b, o, s⟩ := by
  split
  · rename_i h; exact (below_regrown W d os).cell (p := ⟨b, o, s⟩) h
  · rfl
theorem frozen_grow (W : World) (d : Nat) (os : Array Obj) (b o : Nat) (s : Option Nat) :
    (grow (redrawn W d) os).frozen? ⟨b, o, s⟩ = if b < W.heap.size then W.frozen? ⟨b, o, s⟩ else farFrozen d os W ⟨b, o, s⟩ := by
  split
  · rename_i h; exact (below_regrown W d os).frozen (p := ⟨b, o, s⟩) h
  · rfl
theorem size_grow (W : World) (d : Nat) (os : Array Obj) : (grow (redrawn W d) os).heap.size = W.heap.size + os.size := by
  simp [grow, redrawn]
attribute [local go_sem] cell_grow frozen_grow size_grow

theorem Below.size_le {B : Nat} {w w' : World} (h : Below B w w') : w.heap.size ≤ w'.heap.size := h.size
theorem below_tr {a b c : World} (h : Below a.heap.size a b) (k : Below b.heap.size b c) : Below a.heap.size a c := h.trans (k.mono h.size)

/-- a post that speaks of worlds that only grew -/
theorem Calls.grown_of {P : Program} {f : FuncId} {args : Array Value} {w W : World} {v : Value} (hW : Below w.heap.size w W)
    (h : Calls P f args W fun e w' => e = .returned v ∧ Below W.heap.size W w') : Calls P f args W fun e w' => e = .returned v ∧ Below w.heap.size w w' :=
  h.mono fun _ _ ⟨he, hb⟩ => ⟨he, below_tr hW hb⟩

/-- A slice of words. -/
structure SlK (k : IntKind) (w : World) (a : Option Addr) (len : Nat) (ws : List Nat) : Prop where
  length : ws.length = len
  cells : len = 0 ∨ ∃ b off, a = some ⟨b, off, none⟩ ∧ ∀ j, j < len → w.cell? ⟨b, off + j, none⟩ = some (.int k (ws.getD j 0 : Nat))

theorem SlK.below {k : IntKind} {w w' : World} {a : Option Addr} {len : Nat} {ws : List Nat} (h : SlK k w a len ws) (hb : Below w.heap.size w w') : SlK k w' a len ws := by
  refine ⟨h.length, ?_⟩
  rcases h.cells with h0 | ⟨b, off, ha, hc⟩
  · exact .inl h0
  · refine .inr ⟨b, off, ha, fun j hj => ?_⟩
    have := hc j hj
    rw [hb.cell (p := ⟨b, off + j, none⟩) (World.block_lt_of_cell? _ _ this)]; exact this
theorem SlK.alloc {k : IntKind} {w : World} {a : Option Addr} {len : Nat} {ws : List Nat} (h : SlK k w a len ws) (o : Obj) : SlK k (w.alloc o) a len ws :=
  h.below ((Below.refl _ _).alloc (Nat.le_refl _) o)
theorem SlK.grow {k : IntKind} {w : World} {a : Option Addr} {len : Nat} {ws : List Nat} (h : SlK k w a len ws) (d : Nat) (os : Array Obj) : SlK k (grow (redrawn w d) os) a len ws :=
  h.below (below_regrown w d os)

end Go.Proofs.YtgbdhmdaefbglaaDoor

namespace Go.Proofs.YtgbdhmdaefbglaaDoor
open Go.RowKit Go.Sort Go.Joins
attribute [local go_sem] cell_grow frozen_grow size_grow

theorem below_box0 (w : World) (o : Obj) : Below w.heap.size w (w.alloc o) := (Below.refl _ _).alloc (Nat.le_refl _) o
theorem below_draw (w : World) (k : Nat) : Below w.heap.size w (w.drewN k) := ⟨rfl, rfl, rfl, Nat.le_refl _, fun _ _ => rfl⟩
theorem ret_i64 {a b : Int} (h : a = b) : Ending.returned (.int .i64 a) = .returned (.int .i64 b) := by rw [h]
theorem ret_bool {a b : Bool} (h : a = b) : Ending.returned (.bool a) = .returned (.bool b) := by rw [h]
theorem ret_two {a b c d : Int} {k l : IntKind} (h : a = b) (h2 : c = d) : Ending.returned (.tuple #[.int k a, .int l c]) = .returned (.tuple #[.int k b, .int l d]) := by rw [h, h2]
theorem ret_boolE {a b : Bool} {c d : Int} (h : a = b) (h2 : c = d) : Ending.returned (.tuple #[.bool a, .int .i64 c]) = .returned (.tuple #[.bool b, .int .i64 d]) := by rw [h, h2]
theorem bne0_true {x : Int} (h : x ≠ 0) : (x != 0) = true := by simpa using h
theorem keepN {W nxt : World} {C : World → Prop} (hC : Hid (∀ w', Below W.heap.size W w' → C w')) (h : Below W.heap.size W nxt) : Below W.heap.size W nxt ∧ C nxt := ⟨h, hC.out _ h⟩
theorem bel_alloc {W cur : World} {C : Prop} (h : Below W.heap.size W cur ∧ C) (o : Obj) : Below W.heap.size W (cur.alloc o) := h.1.alloc h.1.size o
theorem bel_call {W cur nxt : World} {C : Prop} (h : Below W.heap.size W cur ∧ C) (hb : Below cur.heap.size cur nxt) : Below W.heap.size W nxt := below_tr h.1 hb
theorem own_slice {w : World} {base len size : Nat} {e : TypeId} {v : Value} {xs : List Value} (h : w.ownsRow base e size v len xs) : ∃ a cap, v = .slice a len cap := by
  rcases ownsRow_forms h with ⟨rfl, rfl⟩ | ⟨g, cap, rfl⟩
  · exact ⟨_, _, rfl⟩
  · exact ⟨_, _, rfl⟩
theorem blk_lt {w : World} {k : Nat} {o : Obj} (h : w.heap[k]? = some o) : k < w.heap.size := by
  rcases Nat.lt_or_ge k w.heap.size with h' | h'
  · exact h'
  · rw [Array.getElem?_eq_none h'] at h; cases h
theorem own_below {w w' : World} {base : Nat} {e : TypeId} {size : Nat} {v : Value} {n : Nat} {xs : List Value} (h : w.ownsRow base e size v n xs) (hb : Below w.heap.size w w') : w'.ownsRow base e size v n xs := by
  obtain ⟨h1, h2⟩ := h
  refine ⟨h1, ?_⟩
  rcases h2 with h2 | ⟨g, cap, cur, hv, hg, hh, r⟩
  · exact Or.inl h2
  · exact Or.inr ⟨g, cap, cur, hv, hg, by rw [hb.block _ (blk_lt hh)]; exact hh, r⟩
theorem own_ne {w : World} {base size : Nat} {e t : TypeId} {v : Value} {n : Nat} {xs : List Value} {k : Nat} {cs : Array Value} {fz : Nat × Nat} (h : w.ownsRow base e size v n xs) (hk : w.heap[k]? = some (.cells cs t fz)) (hne : e ≠ t) : v.ownBlock ≠ some k := by
  rcases h.2 with ⟨h2, _⟩ | ⟨g, cap, cur, hv, hg, hh, _⟩
  · rw [h2]; intro e; cases e
  · rw [hv]
    intro e'
    have : g = k := by simpa [Value.ownBlock] using e'
    subst this
    rw [hh] at hk
    simp only [Option.some.injEq, Obj.cells.injEq] at hk
    exact hne hk.2.1
theorem setCell_block {w : World} {g i : Nat} {cs : Array Value} {t : TypeId} (h : w.heap[g]? = some (.cells cs t (0, 0))) (v : Value) : (w.setCell ⟨g, i, none⟩ v).heap[g]? = some (.cells (cs.setIfInBounds i v) t (0, 0)) := by
  have := block_setCell h (i := i) v; exact this
end Go.Proofs.YtgbdhmdaefbglaaDoor

namespace Go.Proofs.YtgbdhmdaefbglaaDoor
open Go.ChangeShapes Go.WideShapes Go.ChangeAt Go.RowKit Go.Joins Go.Deep

abbrev rV (x : Rl) : Value := .agg #[.int .i64 x.1, .int .i64 x.2.1, .int .i64 x.2.2.1, .int .i64 x.2.2.2]
/-- a slice that reads as rules -/
def SlR (w : World) (a : Option Addr) (n : Nat) (R : Nat → Rl) : Prop := n = 0 ∨ ∃ b o, a = some ⟨b, o, none⟩ ∧ ∀ j, j < n → w.cell? ⟨b, o + j * 4, none⟩ = some (.int .i64 (R j).1) ∧ w.cell? ⟨b, o + j * 4 + 1, none⟩ = some (.int .i64 (R j).2.1) ∧ w.cell? ⟨b, o + j * 4 + 2, none⟩ = some (.int .i64 (R j).2.2.1) ∧ w.cell? ⟨b, o + j * 4 + 3, none⟩ = some (.int .i64 (R j).2.2.2)
theorem SlR.below {w w' : World} {a : Option Addr} {n : Nat} {R : Nat → Rl} (h : SlR w a n R) (hb : Below w.heap.size w w') : SlR w' a n R := by
  rcases h with h | ⟨b, o, ha, hc⟩
  · exact .inl h
  · refine .inr ⟨b, o, ha, fun j hj => ?_⟩
    obtain ⟨h0, h1, h2, h3⟩ := hc j hj
    have hl := World.block_lt_of_cell? _ _ h0
    dsimp only at hl
    exact ⟨(hb.cell (p := ⟨b, o + j * 4, none⟩) hl).trans h0, (hb.cell (p := ⟨b, o + j * 4 + 1, none⟩) hl).trans h1, (hb.cell (p := ⟨b, o + j * 4 + 2, none⟩) hl).trans h2, (hb.cell (p := ⟨b, o + j * 4 + 3, none⟩) hl).trans h3⟩
theorem SlR.at_ {w : World} {a : Option Addr} {n : Nat} {R : Nat → Rl} (h : SlR w a n R) {j : Nat} (hj : j < n) : ∃ b o, a = some ⟨b, o, none⟩ ∧ w.cell? ⟨b, o + j * 4, none⟩ = some (.int .i64 (R j).1) ∧ w.cell? ⟨b, o + j * 4 + 1, none⟩ = some (.int .i64 (R j).2.1) ∧ w.cell? ⟨b, o + j * 4 + 2, none⟩ = some (.int .i64 (R j).2.2.1) ∧ w.cell? ⟨b, o + j * 4 + 3, none⟩ = some (.int .i64 (R j).2.2.2) := by
  obtain ⟨b, o, ha, hc⟩ := h.resolve_left (by omega)
  exact ⟨b, o, ha, hc j hj⟩
/-- the bounds of an int -/
def I64r (x : Int) : Prop := -9223372036854775808 ≤ x ∧ x ≤ 9223372036854775807
def RlB (x : Rl) : Prop := I64r x.1 ∧ I64r x.2.1 ∧ I64r x.2.2.1 ∧ I64r x.2.2.2
section
variable {H : Type} {enc : TypeId × Value → H} {W : World} {base : Nat}
set_option maxRecDepth 100000 in
theorem open_rules {fuel : Nat} {v : Value} {x : DataW H × List MemPlace} (hf : DataW.trod enc Tryd.prog W base (fun _ => true) true fuel 22 [v] = some x) :
    ∃ (a : Option Addr) (n cap : Nat) (R : Nat → Rl), v = .slice a n cap ∧ SlR W a n R ∧ n ≤ 9223372036854775807 ∧ ∀ j, j < n → RlB (R j) := by
  rcases open_slice_fields Tryd.underlying22 Tryd.underlying45 (by kernel_rfl) (by kernel_rfl) hf with ⟨h, _⟩ | ⟨A, len, cap, mm, D, Pl, h, _, hl, hm, hmm, _, hi⟩
  · cases h
    exact ⟨none, 0, 0, fun _ => rl0, rfl, .inl rfl, by decide, fun j hj => by omega⟩
  · cases h
    have hml : maxLen ≤ 9223372036854775807 := by decide
    simp only [↓reduceIte] at hmm
    have key : ∀ i, i < cap → ∃ x : Rl, W.cell? (A.add (i * 4)) = some (.int .i64 x.1) ∧ W.cell? (A.add (i * 4 + 1)) = some (.int .i64 x.2.1) ∧ W.cell? (A.add (i * 4 + 2)) = some (.int .i64 x.2.2.1) ∧ W.cell? (A.add (i * 4 + 3)) = some (.int .i64 x.2.2.2) ∧ RlB x := by
      intro i hic
      obtain ⟨ys, n', _, _, _, hf⟩ := hi i (by omega)
      obtain ⟨v0, y0, g0, _, t0⟩ := hf 0 _ rfl
      obtain ⟨v1, y1, g1, _, t1⟩ := hf 1 _ rfl
      obtain ⟨v2, y2, g2, _, t2⟩ := hf 2 _ rfl
      obtain ⟨v3, y3, g3, _, t3⟩ := hf 3 _ rfl
      obtain ⟨x0, e0, _, w0⟩ := DataW.trod_int Tryd.underlying3 t0
      obtain ⟨x1, e1, _, w1⟩ := DataW.trod_int Tryd.underlying3 t1
      obtain ⟨x2, e2, _, w2⟩ := DataW.trod_int Tryd.underlying3 t2
      obtain ⟨x3, e3, _, w3⟩ := DataW.trod_int Tryd.underlying3 t3
      cases e0; cases e1; cases e2; cases e3
      exact ⟨(x0, x1, x2, x3), g0, g1, g2, g3, bounds_i64 w0, bounds_i64 w1, bounds_i64 w2, bounds_i64 w3⟩
    obtain ⟨R, hR⟩ := choose4 key
    refine ⟨some A, len, cap, R, rfl, ?_, by omega, fun j hj => (hR j (by omega)).2.2.2.2⟩
    by_cases h0 : len = 0
    · exact .inl h0
    · obtain ⟨b, o, rfl⟩ := plain_addr (hR 0 (by omega)).1
      refine .inr ⟨b, o, rfl, fun j hj => ?_⟩
      obtain ⟨e0, e1, e2, e3, _⟩ := hR j (by omega)
      simp only [Go.WideShapes.add_plain] at e0 e1 e2 e3
      exact ⟨e0, e1, e2, e3⟩
end
end Go.Proofs.YtgbdhmdaefbglaaDoor

namespace Go.Proofs.YtgbdhmdaefbglaaDoor

/-- the least call behind the n-th one that the first m rules refuse; more than 1000000: there is none -/
def aft (R : Nat → Rl) (k n : Int) : Nat → Int
  | 0 => 1000001
  | m + 1 => if (R m).1 = k ∧ 0 < nxc (R m) n then min (aft R k n m) (nxc (R m) n) else aft R k n m
theorem aft_le (R : Nat → Rl) (k n : Int) : ∀ m, aft R k n m ≤ 1000001
  | 0 => Int.le_refl _
  | m + 1 => by
    have := aft_le R k n m
    simp only [aft]
    split
    · omega
    · exact this
theorem aft_spec {R : Nat → Rl} {k n : Int} (hn : n ≤ 1000000) : ∀ {m : Nat}, (∀ i, i < m → RlOk (R i)) → n < aft R k n m ∧ (∀ c, n < c → c < aft R k n m → rfP m R k c = false) ∧ (aft R k n m ≤ 1000000 → rfP m R k (aft R k n m) = true)
  | 0, _ => ⟨by simp only [aft]; omega, fun c _ _ => rfl, fun h => by simp only [aft] at h; omega⟩
  | m + 1, h => by
    obtain ⟨h0, h1, h2⟩ := aft_spec (k := k) hn (m := m) (fun i hi => h i (by omega))
    obtain ⟨s1, s2⟩ := nxc_spec (h m (by omega)) (n := n)
    have hb := aft_le R k n m
    simp only [aft]
    by_cases hk : (R m).1 = k ∧ 0 < nxc (R m) n
    · rw [if_pos hk]
      obtain ⟨hk1, hk2⟩ := hk
      obtain ⟨a, b, c⟩ := s2 (by omega)
      rw [hk1] at b c
      refine ⟨by omega, fun d hd1 hd2 => ?_, fun hle => ?_⟩
      · rw [rfP_succ, h1 d hd1 (by omega), c d hd1 (by omega)]; rfl
      · rw [rfP_succ]
        by_cases hlt : aft R k n m ≤ nxc (R m) n
        · rw [Int.min_eq_left hlt, h2 (by omega)]; rfl
        · rw [Int.min_eq_right (by omega), b, Bool.or_true]
    · rw [if_neg hk]
      have hno : ∀ d, n < d → rfz (R m) k d = false := fun d hd => by
        by_cases hk1 : (R m).1 = k
        · have := nxc_ne (h m (by omega)) n
          rw [← hk1]; exact s1 (by omega) d hd
        · cases hf : rfz (R m) k d with
          | false => rfl
          | true => exact absurd (rfz_kind hf) hk1
      exact ⟨h0, fun d hd1 hd2 => by rw [rfP_succ, h1 d hd1 hd2, hno d hd1]; rfl, fun hle => by rw [rfP_succ, h2 hle]; rfl⟩
/-- what After answers -/
def aftV (m : Nat) (R : Nat → Rl) (k n : Int) : Int := if aft R k n m ≤ 1000000 then aft R k n m else 0
def aftE (m : Nat) (R : Nat → Rl) (k n : Int) : Int := if aft R k n m ≤ 1000000 then 0 else 4
theorem aft_found {m : Nat} {R : Nat → Rl} {k n c : Int} (h : ∀ i, i < m → RlOk (R i)) (hn : n ≤ 1000000) (h1 : n < c) (h2 : c ≤ 1000000) (hr : rfP m R k c = true) (hno : ∀ d, n < d → d < c → rfP m R k d = false) : c = aftV m R k n ∧ 0 = aftE m R k n := by
  obtain ⟨a, b, d⟩ := aft_spec hn h (k := k)
  have e : aft R k n m = c := by
    by_cases h3 : c < aft R k n m
    · rw [b c h1 h3] at hr; cases hr
    · by_cases h4 : aft R k n m < c
      · have := d (by omega)
        rw [hno _ a h4] at this; cases this
      · omega
  unfold aftV aftE
  rw [e, if_pos h2, if_pos h2]
  exact ⟨rfl, rfl⟩
theorem aft_none {m : Nat} {R : Nat → Rl} {k n : Int} (h : ∀ i, i < m → RlOk (R i)) (hn : n ≤ 1000000) (hno : ∀ d, n < d → d ≤ 1000000 → rfP m R k d = false) : 0 = aftV m R k n ∧ 4 = aftE m R k n := by
  obtain ⟨a, b, d⟩ := aft_spec hn h (k := k)
  have e : ¬ aft R k n m ≤ 1000000 := fun hle => by
    have := d hle
    rw [hno _ a hle] at this; cases this
  unfold aftV aftE
  rw [if_neg e, if_neg e]
  exact ⟨rfl, rfl⟩

/-- the rest of a rule, when so many calls of its kind were made (its next call: c) -/
def rstX (x : Rl) (made c : Int) : Rl := (x.1, c - made, x.2.2.1, if 0 < x.2.2.1 ∧ 0 < x.2.2.2 then x.2.2.2 - (c - x.2.1) / x.2.2.1 else x.2.2.2)
theorem rst_ok {x : Rl} (h : RlOk x) {made : Int} (hm : 0 ≤ made) (hc : nxc x made ≠ 0) : RlOk (rstX x made (nxc x made)) := by
  obtain ⟨_, s2⟩ := nxc_spec h (n := made)
  obtain ⟨a, b, c⟩ := s2 hc
  obtain ⟨_, i, i0, it, ie, e⟩ := (rfz_iff h).1 b
  have e0 := h.e0
  have f0 := h.f0
  have f1 := h.f1
  have hE1 := h.e1
  have ht1 := h.t1
  have hup : nxc x made - made ≤ 10000 := by
    unfold nxc at a ⊢
    by_cases h1 : made < x.2.1
    · rw [if_pos h1]; omega
    · rw [if_neg h1] at a ⊢
      by_cases h2 : x.2.2.1 = 0
      · rw [if_pos h2]; omega
      · rw [if_neg h2] at a ⊢
        split
        · omega
        · have hd := Int.mul_ediv_add_emod (made - x.2.1) x.2.2.1
          have hm0 := Int.emod_nonneg (made - x.2.1) h2
          have hq1 : ((made - x.2.1) / x.2.2.1 + 1) * x.2.2.1 = (made - x.2.1) / x.2.2.1 * x.2.2.1 + x.2.2.1 := by rw [Int.add_mul, Int.one_mul]
          rw [Int.mul_comm] at hd
          omega
  have hq : 0 < x.2.2.1 → (nxc x made - x.2.1) / x.2.2.1 = i := fun hE => by
    rw [show nxc x made - x.2.1 = i * x.2.2.1 by omega, Int.mul_ediv_cancel i (by omega)]
  unfold rstX
  refine ⟨h.k0, h.k1, by dsimp only; omega, by dsimp only; omega, h.e0, h.e1, ?_, ?_, ?_⟩
  · dsimp only
    split
    · rename_i hE; rw [hq hE.1]; omega
    · exact h.t0
  · dsimp only
    split
    · rename_i hE; rw [hq hE.1]; omega
    · exact h.t1
  · dsimp only
    intro hE
    rw [if_neg (by omega)]
    exact h.et hE
theorem rst_rfz {x : Rl} (h : RlOk x) {made : Int} (hm : 0 ≤ made) (hc : nxc x made ≠ 0) (k m : Int) (h1 : 1 ≤ m) : rfz (rstX x made (nxc x made)) k m = rfz x k (made + m) := by
  have hr := rst_ok h hm hc
  obtain ⟨_, s2⟩ := nxc_spec h (n := made)
  obtain ⟨a, b, c⟩ := s2 hc
  obtain ⟨_, i, i0, it, ie, e⟩ := (rfz_iff h).1 b
  have e0 := h.e0
  have hq : 0 < x.2.2.1 → (nxc x made - x.2.1) / x.2.2.1 = i := fun hE => by
    rw [show nxc x made - x.2.1 = i * x.2.2.1 by omega, Int.mul_ediv_cancel i (by omega)]
  rw [Bool.eq_iff_iff, rfz_iff hr, rfz_iff h]
  unfold rstX
  dsimp only
  constructor
  · rintro ⟨e1, j, j0, jt, je, ej⟩
    refine ⟨e1, i + j, by omega, ?_, fun hE => by rw [ie hE, je hE]; rfl, ?_⟩
    · by_cases hE : 0 < x.2.2.1
      · by_cases hT : 0 < x.2.2.2
        · rw [if_pos ⟨hE, hT⟩, hq hE] at jt
          right; omega
        · left; have := h.t0; omega
      · have := ie (by omega)
        have := je (by omega)
        rw [if_neg (by omega)] at jt
        subst_vars
        omega
    · rw [Int.add_mul]; omega
  · rintro ⟨e1, j, j0, jt, je, ej⟩
    have hij : i ≤ j := by
      by_cases hlt : j < i
      · exfalso
        by_cases hE : 0 < x.2.2.1
        · have := mul_lt hE hlt
          have hf := c (made + m) (by omega) (by omega)
          have : rfz x x.1 (made + m) = true := (rfz_iff h).2 ⟨rfl, j, j0, jt, je, ej⟩
          rw [hf] at this; cases this
        · have := ie (by omega)
          omega
      · omega
    refine ⟨e1, j - i, by omega, ?_, fun hE => by rw [ie hE, je hE]; rfl, ?_⟩
    · by_cases hE : 0 < x.2.2.1
      · by_cases hT : 0 < x.2.2.2
        · rw [if_pos ⟨hE, hT⟩, hq hE]
          right; omega
        · rw [if_neg (by omega)]
          left; have := h.t0; omega
      · have := ie (by omega)
        have := je (by omega)
        rw [if_neg (by omega)]
        subst_vars
        omega
    · rw [Int.sub_mul]; omega
/-- a rule without rest refuses nothing more -/
theorem rst_none {x : Rl} (h : RlOk x) {made : Int} (hc : nxc x made = 0) (k m : Int) (h1 : 1 ≤ m) : rfz x k (made + m) = false := by
  obtain ⟨s1, _⟩ := nxc_spec h (n := made)
  by_cases hk : x.1 = k
  · rw [← hk]; exact s1 hc _ (by omega)
  · cases hf : rfz x k (made + m) with
    | false => rfl
    | true => exact absurd (rfz_kind hf) hk
end Go.Proofs.YtgbdhmdaefbglaaDoor
