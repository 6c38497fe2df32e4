/- Rows of bools as values; words that are read from a list of bools. No walk. -/
import Derived.Test.YtikdgnfcckenmaaDoorPlainD
import Derived.Test.YtikdgnfcckenmaaDoorBitsI
namespace Go.Proofs.YtikdgnfcckenmaaDoor
open Go.RowKit Go.Sort

/-- the first n answers, as values -/
def bls (p : Nat → Bool) (n : Nat) : List Value := (List.range n).map fun i => Value.bool (p i)
theorem bls_length (p : Nat → Bool) (n : Nat) : (bls p n).length = n := by simp [bls]
theorem bls_succ (p : Nat → Bool) (n : Nat) : bls p (n + 1) = bls p n ++ [.bool (p n)] := by simp [bls, List.range_succ]
theorem bls_get (p : Nat → Bool) (n k : Nat) (h : k < n) : (bls p n)[k]? = some (.bool (p k)) := by simp [bls, h]
theorem bls_zero (p : Nat → Bool) : bls p 0 = [] := rfl
theorem bls_congr {p q : Nat → Bool} {n : Nat} (h : ∀ i, i < n → p i = q i) : bls p n = bls q n := by
  unfold bls
  exact List.map_congr_left fun i hi => by rw [h i (by simpa using hi)]
theorem bls_set (p : Nat → Bool) (n k : Nat) (v : Bool) : (bls p n).set k (.bool v) = bls (fun i => if i = k then v else p i) n := by
  apply List.ext_getElem?
  intro i
  rw [List.getElem?_set]
  by_cases hi : i < n
  · rw [bls_get _ _ _ hi, bls_get _ _ _ hi, bls_length]
    by_cases hk : k = i
    · subst hk; rw [if_pos rfl, if_pos hi, if_pos rfl]
    · rw [if_neg hk, if_neg (fun h => hk h.symm)]
  · have e : ∀ q, (bls q n)[i]? = none := fun q => List.getElem?_eq_none (by rw [bls_length]; omega)
    rw [e, e, bls_length]
    by_cases hk : k = i
    · subst hk; rw [if_pos rfl, if_neg hi]
    · rw [if_neg hk]
theorem bls_one (p : Nat → Bool) (n : Nat) : ∀ u ∈ bls p n, u.oneCell' = true := by
  intro u hu
  obtain ⟨_, _, rfl⟩ := List.mem_map.1 hu
  rfl
/-- an owned row of bools reads so -/
theorem own_bool {w : World} {base n : Nat} {e : TypeId} {g cap : Nat} {p : Nat → Bool} (h : w.ownsRow base e 1 (.slice (some ⟨g, 0, none⟩) n cap) n (bls p n)) (k : Nat) (hk : k < n) : w.cell? ⟨g, k, none⟩ = some (.bool (p k)) := by
  have := h.cellAt k (by omega)
  rw [bls_get _ _ _ hk] at this
  exact this
theorem own_u64 {w : World} {base n : Nat} {e : TypeId} {g cap : Nat} {ws : List Nat} (h : w.ownsRow base e 1 (.slice (some ⟨g, 0, none⟩) n cap) n (u64s ws)) (hl : ws.length = n) (k : Nat) (hk : k < n) : w.cell? ⟨g, k, none⟩ = some (.int .u64 (ws.getD k 0 : Nat)) := by
  have := h.cellAt k (by omega)
  rw [u64s_get _ _ (by omega)] at this
  exact this
/-- the bits below k of a list of bools, in words -/
theorem pack_step (p : Nat → Bool) (n k : Nat) (hk : k < 64 * n) (h : p k = true) :
    (pack (fun i => p i && decide (i < k)) n).set (k / 64) ((pack (fun i => p i && decide (i < k)) n).getD (k / 64) 0 ||| 2 ^ (k % 64)) = pack (fun i => p i && decide (i < k + 1)) n := by
  have hw := pack_lt (fun i => p i && decide (i < k)) n
  have hx := getD_lt hw (by decide) (k / 64)
  have hp : 2 ^ (k % 64) < 18446744073709551616 := by
    have := Nat.pow_lt_pow_right (a := 2) (by decide) (show k % 64 < 64 by omega)
    simpa using this
  have hv : (pack (fun i => p i && decide (i < k)) n).getD (k / 64) 0 ||| 2 ^ (k % 64) < 18446744073709551616 := by
    have := Nat.or_lt_two_pow (n := 64) (x := (pack (fun i => p i && decide (i < k)) n).getD (k / 64) 0) (y := 2 ^ (k % 64)) (by simpa using hx) (by simpa using hp)
    simpa using this
  refine pack_unique (by rw [List.length_set, pack_length]) (set_lt hw hv) fun i hi => ?_
  rw [bat_set (by rw [pack_length]; omega)]
  by_cases hik : i / 64 = k / 64
  · rw [if_pos hik, Nat.testBit_or]
    have e1 := pack_bat (fun i => p i && decide (i < k)) n i hi
    unfold bat at e1
    rw [hik] at e1
    rw [e1, Nat.testBit_two_pow]
    by_cases he : i = k
    · subst he; simp [h]
    · have h1 : ¬ k % 64 = i % 64 := by omega
      have h2 : decide (i < k + 1) = decide (i < k) := by
        rw [decide_eq_decide]; omega
      simp [h1, h2]
  · rw [if_neg hik, pack_bat _ _ _ hi]
    have h2 : decide (i < k + 1) = decide (i < k) := by
      rw [decide_eq_decide]; omega
    rw [h2]
theorem pack_skip (p : Nat → Bool) (n k : Nat) (h : p k = false) : pack (fun i => p i && decide (i < k)) n = pack (fun i => p i && decide (i < k + 1)) n := by
  refine pack_congr fun i _ => ?_
  by_cases he : i = k
  · subst he; simp [h]
  · have h2 : decide (i < k + 1) = decide (i < k) := by
      rw [decide_eq_decide]; omega
    rw [h2]
theorem zeros_pack (k : Nat) : u64s (pack (fun _ => false) k) ++ [.int .u64 0] = u64s (pack (fun _ => false) (k + 1)) := by
  unfold pack
  rw [List.range_succ, List.map_append]
  unfold u64s
  rw [List.map_append]
  congr 1
theorem or_bit (x k : Nat) (hx : x < 18446744073709551616) : bits BinOp.or IntKind.u64 (x : Int) (IntKind.u64.wrap (2 ^ (k % 64))) = ((x ||| 2 ^ (k % 64) : Nat) : Int) := by
  have hp : 2 ^ (k % 64) < 18446744073709551616 := by
    have := Nat.pow_lt_pow_right (a := 2) (by decide) (show k % 64 < 64 by omega)
    simpa using this
  have e : IntKind.u64.wrap ((2 : Int) ^ (k % 64)) = ((2 ^ (k % 64) : Nat) : Int) := by
    rw [show ((2 : Int) ^ (k % 64)) = ((2 ^ (k % 64) : Nat) : Int) by simp]
    generalize 2 ^ (k % 64) = y at hp
    exact IntWalk.u64_in _ (by omega)
  rw [e, u64_or_nat _ _ hx hp]
end Go.Proofs.YtikdgnfcckenmaaDoor
