/- The radix map, plain: packing by bits. -/
import Derived.Test.YtfmclbacoffdaaaDoorR7Pk
import Derived.Laws.BitsAllLaws
namespace Go.Proofs.YtfmclbacoffdaaaDoor
theorem or_add {a b k : Nat} (h : a < 2 ^ k) : a ||| (2 ^ k * b) = a + 2 ^ k * b := by
  rw [Nat.or_comm, ← Nat.two_pow_add_eq_or_of_lt h, Nat.add_comm]
theorem pk_bits {o s t : Int} (h0 : 0 ≤ o) (h1 : o ≤ 4095) (h2 : 0 ≤ s) (h3 : s ≤ 15) (h4 : 0 ≤ t) (h5 : t ≤ 1000000000000) :
    bits .or .u64 (bits .or .u64 (bits .or .u64 1 (o * 2)) (s * 8192)) (t * 131072) = pkW o s t false ∧ bits .or .u64 (pkW o s t false) 144115188075855872 = pkW o s t true := by
  obtain ⟨a, rfl⟩ := Int.eq_ofNat_of_zero_le h0
  obtain ⟨b, rfl⟩ := Int.eq_ofNat_of_zero_le h2
  obtain ⟨c, rfl⟩ := Int.eq_ofNat_of_zero_le h4
  have e1 : bits .or .u64 1 ((a : Int) * 2) = ((1 + 2 * a : Nat) : Int) := by
    have := u64_or_nat 1 (2 ^ 1 * a) (by omega) (by omega)
    rw [or_add (k := 1) (by omega)] at this
    rw [show ((a : Int) * 2) = ((2 ^ 1 * a : Nat) : Int) by omega, show (1 : Int) = ((1 : Nat) : Int) from rfl, this]
  have e2 : bits .or .u64 ((1 + 2 * a : Nat) : Int) ((b : Int) * 8192) = ((1 + 2 * a + 8192 * b : Nat) : Int) := by
    have := u64_or_nat (1 + 2 * a) (2 ^ 13 * b) (by omega) (by omega)
    rw [or_add (k := 13) (by omega)] at this
    rw [show ((b : Int) * 8192) = ((2 ^ 13 * b : Nat) : Int) by omega, this]
  have e3 : bits .or .u64 ((1 + 2 * a + 8192 * b : Nat) : Int) ((c : Int) * 131072) = ((1 + 2 * a + 8192 * b + 131072 * c : Nat) : Int) := by
    have := u64_or_nat (1 + 2 * a + 8192 * b) (2 ^ 17 * c) (by omega) (by omega)
    rw [or_add (k := 17) (by omega)] at this
    rw [show ((c : Int) * 131072) = ((2 ^ 17 * c : Nat) : Int) by omega, this]
  have e4 : bits .or .u64 ((1 + 2 * a + 8192 * b + 131072 * c : Nat) : Int) 144115188075855872 = ((1 + 2 * a + 8192 * b + 131072 * c + 144115188075855872 : Nat) : Int) := by
    have := u64_or_nat (1 + 2 * a + 8192 * b + 131072 * c) (2 ^ 57 * 1) (by omega) (by omega)
    rw [or_add (k := 57) (by omega)] at this
    rw [show (144115188075855872 : Int) = ((2 ^ 57 * 1 : Nat) : Int) from rfl, this]
  have p1 : pkW (a : Int) (b : Int) (c : Int) false = ((1 + 2 * a + 8192 * b + 131072 * c : Nat) : Int) := by
    unfold pkW
    simp only [Bool.false_eq_true, if_false]
    omega
  have p2 : pkW (a : Int) (b : Int) (c : Int) true = ((1 + 2 * a + 8192 * b + 131072 * c + 144115188075855872 : Nat) : Int) := by
    unfold pkW
    simp only [if_true]
    omega
  refine ⟨by rw [e1, e2, e3, p1], by rw [p1, e4, p2]⟩
theorem un_bits {x : Int} (h0 : 0 ≤ x) (h1 : x < 18446744073709551616) :
    bits .and .u64 (x / 2) 4095 = unO x ∧ bits .and .u64 (x / 8192) 15 = unS x ∧ bits .and .u64 (x / 131072) 1099511627775 = unT x ∧ bits .and .u64 (x / 144115188075855872) 1 = x / 144115188075855872 % 2 ∧ bits .and .u64 x 1 = x % 2 := by
  obtain ⟨a, rfl⟩ := Int.eq_ofNat_of_zero_le h0
  have key : ∀ (y k : Nat), y < 18446744073709551616 → 2 ^ k - 1 < 18446744073709551616 → bits .and .u64 (y : Int) ((2 ^ k - 1 : Nat) : Int) = ((y % 2 ^ k : Nat) : Int) := fun y k h h' => by
    rw [u64_and_nat y (2 ^ k - 1) h h', Nat.and_two_pow_sub_one_eq_mod]
  refine ⟨?_, ?_, ?_, ?_, ?_⟩
  · have := key (a / 2) 12 (by omega) (by decide)
    unfold unO
    rw [show ((a : Int) / 2) = ((a / 2 : Nat) : Int) by omega, show (4095 : Int) = ((2 ^ 12 - 1 : Nat) : Int) from rfl, this]
    omega
  · have := key (a / 8192) 4 (by omega) (by decide)
    unfold unS
    rw [show ((a : Int) / 8192) = ((a / 8192 : Nat) : Int) by omega, show (15 : Int) = ((2 ^ 4 - 1 : Nat) : Int) from rfl, this]
    omega
  · have := key (a / 131072) 40 (by omega) (by decide)
    unfold unT
    rw [show ((a : Int) / 131072) = ((a / 131072 : Nat) : Int) by omega, show (1099511627775 : Int) = ((2 ^ 40 - 1 : Nat) : Int) from rfl, this]
    omega
  · have := key (a / 144115188075855872) 1 (by omega) (by decide)
    rw [show ((a : Int) / 144115188075855872) = ((a / 144115188075855872 : Nat) : Int) by omega, show (1 : Int) = ((2 ^ 1 - 1 : Nat) : Int) from rfl, this]
    omega
  · have := key a 1 (by omega) (by decide)
    rw [show (1 : Int) = ((2 ^ 1 - 1 : Nat) : Int) from rfl, this]
    omega
end Go.Proofs.YtfmclbacoffdaaaDoor
