/- Words: Digits of the reference; which bytes are digits. -/
import Derived.Test.YtgbdhmdaefbglaaDoorWInt
import Derived.Test.YtgbdhmdaefbglaaDoorGen
import Derived.Laws.IdiomStrings
namespace Go.Proofs.YtgbdhmdaefbglaaDoor
open Go.RowKit Go.Sort Go.Joins
attribute [local go_sem] cell_grow frozen_grow size_grow

/-- a byte of a list -/
def bt (l : List UInt8) (k : Nat) : UInt8 := l.getD k 0
theorem bt_at {l : List UInt8} {k : Nat} (h : k < l.length) : l[k]? = some (bt l k) := by
  unfold bt; rw [List.getD_eq_getElem?_getD, List.getElem?_eq_getElem h]; rfl
theorem len_of {s : ByteArray} {L : List UInt8} (h : s.data.toList = L) : L.length = s.size := by rw [← h, Array.length_toList]; rfl
theorem bt_get {s : ByteArray} {L : List UInt8} (hL : s.data.toList = L) {i : Nat} (h : i < s.size) : s[i].toNat = (bt L i).toNat := by
  subst hL
  unfold bt
  have h' : i < s.data.toList.length := by simpa using h
  rw [List.getD_eq_getElem?_getD, List.getElem?_eq_getElem h']
  rfl
theorem ba_of {a b : ByteArray} (h : a.data.toList = b.data.toList) : a = b := ByteArray.ext (Array.ext' h)
theorem ret_str {a b : ByteArray} (h : a.data.toList = b.data.toList) : Ending.returned (.string a) = .returned (.string b) := by rw [ba_of h]
theorem empty_nil {L : List UInt8} {s : ByteArray} (hL : s.data.toList = L) : (s.toList == []) = decide (L = []) := by
  rw [Lib.toList_data, hL, Bool.eq_iff_iff]; simp
theorem byte_lt (c : UInt8) : (c.toNat : Int) < 256 := by have := c.toNat_lt; omega
theorem wdig_ok (c : UInt8) (w : World) : Calls Tryd.prog 42 #[.int .u8 (c.toNat : Int)] w fun e w' => e = .returned (.bool (dgC c)) ∧ w = w' := by
  obtain ⟨r, hr⟩ : ∃ r, dgC c = r := ⟨_, rfl⟩
  rw [hr]
  unfold dgC at hr
  have H := Lib.hid hr
  clear hr
  go_enter Tryd.func42, Tryd.ntmps42
  go_wp2
  all_goals go_ret
  all_goals exact ⟨ret_bool (by rw [← H.out]; rw [Bool.eq_iff_iff]; simp; omega), rfl⟩
theorem wrdig_ok (c : UInt8) (w : World) : Calls Tryd.prog 80 #[.int .u8 (c.toNat : Int)] w fun e w' => e = .returned (.bool (dgC c)) ∧ w = w' := by
  obtain ⟨r, hr⟩ : ∃ r, dgC c = r := ⟨_, rfl⟩
  rw [hr]
  unfold dgC at hr
  have H := Lib.hid hr
  clear hr
  go_enter Tryd.func80, Tryd.ntmps80
  go_wp2
  all_goals go_ret
  all_goals exact ⟨ret_bool (by rw [← H.out]; rw [Bool.eq_iff_iff]; simp; omega), rfl⟩

theorem itoa_m1 {n : Int} (h0 : n < 0) : Lib.itoa n = 45 :: Lib.itoa (-n) := by
  obtain ⟨u, hu, rfl⟩ : ∃ u : Nat, 1 ≤ u ∧ n = -(u : Int) := ⟨n.natAbs, by omega, by omega⟩
  rw [Lib.itoa_neg u hu, Int.neg_neg, Lib.itoa_nonneg]
theorem dec_two {u : Nat} (h : 10 ≤ u) : Lib.decDigits u = Lib.decDigits (u / 10) ++ Lib.decDigits (u % 10) := by
  conv => lhs; rw [Lib.decDigits, dif_neg (by omega)]
  rw [Lib.decDigits_one (show u % 10 < 10 by omega)]
theorem itoa_p2 {n : Int} (h : 10 ≤ n) : Lib.itoa n = Lib.itoa (n.tdiv 10) ++ Lib.itoa (n.tmod 10) := by
  obtain ⟨u, rfl⟩ : ∃ u : Nat, n = (u : Int) := ⟨n.toNat, by omega⟩
  rw [show ((u : Int)).tdiv 10 = ((u / 10 : Nat) : Int) from rfl, show ((u : Int)).tmod 10 = ((u % 10 : Nat) : Int) from rfl, Lib.itoa_nonneg, Lib.itoa_nonneg, Lib.itoa_nonneg]
  exact dec_two (by omega)
theorem itoa_m2 {n : Int} (h : n ≤ -10) : Lib.itoa n = Lib.itoa (n.tdiv 10) ++ Lib.itoa (-(n.tmod 10)) := by
  obtain ⟨u, hu, rfl⟩ : ∃ u : Nat, 10 ≤ u ∧ n = -(u : Int) := ⟨n.natAbs, by omega, by omega⟩
  rw [Int.neg_tdiv, Int.neg_tmod, Int.neg_neg, show ((u : Int)).tdiv 10 = ((u / 10 : Nat) : Int) from rfl, show ((u : Int)).tmod 10 = ((u % 10 : Nat) : Int) from rfl, Lib.itoa_neg u (by omega), Lib.itoa_neg (u / 10) (by omega), Lib.itoa_nonneg, dec_two hu]
  rfl
theorem itoa_p1 {n : Int} (h0 : 0 ≤ n) (h1 : n < 10) : Lib.itoa n = [UInt8.ofNat (48 + n.toNat)] := by
  obtain ⟨u, rfl⟩ : ∃ u : Nat, n = (u : Int) := ⟨n.toNat, by omega⟩
  rw [Lib.itoa_nonneg, Lib.decDigits_one (by omega)]; rfl
theorem tdiv_neg {n : Int} (h : n ≤ -10) : n.tdiv 10 < 0 ∧ (n.tdiv 10).natAbs < n.natAbs ∧ -9 ≤ n.tmod 10 ∧ n.tmod 10 ≤ 0 := by
  obtain ⟨u, hu, rfl⟩ : ∃ u : Nat, 10 ≤ u ∧ n = -(u : Int) := ⟨n.natAbs, by omega, by omega⟩
  rw [Int.neg_tdiv, Int.neg_tmod, show ((u : Int)).tdiv 10 = ((u / 10 : Nat) : Int) from rfl, show ((u : Int)).tmod 10 = ((u % 10 : Nat) : Int) from rfl]
  omega
theorem tdiv_pos {n : Int} (h : 10 ≤ n) : 0 ≤ n.tdiv 10 ∧ n.tdiv 10 < n ∧ 0 ≤ n.tmod 10 ∧ n.tmod 10 ≤ 9 := by
  obtain ⟨u, rfl⟩ : ∃ u : Nat, n = (u : Int) := ⟨n.toNat, by omega⟩
  rw [show ((u : Int)).tdiv 10 = ((u / 10 : Nat) : Int) from rfl, show ((u : Int)).tmod 10 = ((u % 10 : Nat) : Int) from rfl]
  omega
theorem nDig_le : ∀ (k u : Nat), u < 10 ^ (k + 1) → Lib.nDigits u ≤ k + 1
  | 0, u, h => by rw [Lib.nDigits_small (by simpa using h)]; exact Nat.le_refl _
  | k + 1, u, h => by
    by_cases hu : u < 10
    · rw [Lib.nDigits_small hu]; omega
    · rw [Lib.nDigits_big hu]
      have := nDig_le k (u / 10) (by rw [Nat.div_lt_iff_lt_mul (by decide)]; rw [Nat.pow_succ] at h; exact h)
      omega
theorem itoa_20 {n : Int} (h0 : -9223372036854775808 ≤ n) (h1 : n ≤ 9223372036854775807) : (Lib.itoa n).length ≤ 20 := by
  rcases (show n < 0 ∨ 0 ≤ n by omega) with h | h
  · obtain ⟨u, hu, rfl⟩ : ∃ u : Nat, 1 ≤ u ∧ n = -(u : Int) := ⟨n.natAbs, by omega, by omega⟩
    rw [Lib.itoa_neg u hu, List.length_cons, Lib.decDigits_length]
    have := nDig_le 18 u (by have : (10 : Nat) ^ (18 + 1) = 10000000000000000000 := by decide
                             omega)
    omega
  · obtain ⟨u, rfl⟩ : ∃ u : Nat, n = (u : Int) := ⟨n.toNat, by omega⟩
    rw [Lib.itoa_nonneg, Lib.decDigits_length]
    have := nDig_le 18 u (by have : (10 : Nat) ^ (18 + 1) = 10000000000000000000 := by decide
                             omega)
    omega
set_option maxRecDepth 100000 in
set_option maxHeartbeats 400000 in
theorem rdig_ok (n : Int) (w : World) (h0 : -9223372036854775808 ≤ n) (h1 : n ≤ 9223372036854775807) : Calls Tryd.prog 23 #[.int .i64 n] w fun e w' => e = .returned (.string ⟨(Lib.itoa n).toArray⟩) ∧ Below w.heap.size w w' := by
  induction hN : (2 * n.natAbs + (if n < 0 then 1 else 0)) using Nat.strongRecOn generalizing n w with
  | ind N ih =>
    have IH : ∀ (m : Int), 2 * m.natAbs + (if m < 0 then 1 else 0) < N → -9223372036854775808 ≤ m → m ≤ 9223372036854775807 → ∀ W : World, Calls Tryd.prog 23 #[.int .i64 m] W fun e w' => e = .returned (.string ⟨(Lib.itoa m).toArray⟩) ∧ Below W.heap.size W w' := fun m h a b W => ih _ h m W a b rfl
    clear ih
    by_cases c1 : n < 0
    · rw [if_pos c1] at hN
      have d1 : decide (n < 0) = true := decide_eq_true c1
      by_cases c2 : -10 < n
      · have d2 : decide (-10 < n) = true := decide_eq_true c2
        have HI := Lib.hid (IH (-n) (by rw [if_neg (by omega)]; omega) (by omega) (by omega))
        have HE := Lib.hid (itoa_m1 c1)
        have hl := itoa_20 (n := -n) (by omega) (by omega)
        have hw : IntKind.i64.wrap (-n) = -n := IntWalk.i64_in _ (by omega)
        clear IH hN
        go_enter Tryd.func23, Tryd.ntmps23
        go_wp2_with (go_at_call 23; refine (HI.out _).mono ?_; rintro e w1 ⟨rfl, b1⟩)
        go_ret
        exact ⟨ret_str (by rw [HE.out]; simp), b1⟩
      · have d2 : decide (-10 < n) = false := decide_eq_false c2
        obtain ⟨g1, g2, g3, g4⟩ := tdiv_neg (n := n) (by omega)
        have HI := Lib.hid (IH (n.tdiv 10) (by rw [if_pos g1]; omega) (by omega) (by omega))
        have HJ := Lib.hid (IH (-(n.tmod 10)) (by rw [if_neg (by omega)]; omega) (by omega) (by omega))
        have HE := Lib.hid (itoa_m2 (n := n) (by omega))
        have hl1 := itoa_20 (n := n.tdiv 10) (by omega) (by omega)
        have hl2 := itoa_20 (n := -(n.tmod 10)) (by omega) (by omega)
        obtain ⟨q, hq⟩ : ∃ q, n.tdiv 10 = q := ⟨_, rfl⟩
        obtain ⟨r, hr⟩ : ∃ r, n.tmod 10 = r := ⟨_, rfl⟩
        rw [hq] at g1 g2 HI HE hl1
        rw [hr] at g3 g4 HJ HE hl2
        have hw1 : IntKind.i64.wrap (n.tdiv 10) = q := by rw [hq]; exact IntWalk.i64_in _ (by omega)
        have hw2 : IntKind.i64.wrap (n.tmod 10) = r := by rw [hr]; exact IntWalk.i64_in _ (by omega)
        have hw : IntKind.i64.wrap (-r) = -r := IntWalk.i64_in _ (by omega)
        clear IH hN
        go_enter Tryd.func23, Tryd.ntmps23
        go_wp2_with fail
        refine (HI.out _).mono ?_
        rintro e w1 ⟨rfl, b1⟩
        go_wp2_with fail
        refine (HJ.out _).mono ?_
        rintro e w2 ⟨rfl, b2⟩
        go_wp2_with fail
        go_ret
        exact ⟨ret_str (by rw [HE.out]; simp), below_tr b1 b2⟩
    · rw [if_neg c1] at hN
      have d1 : decide (n < 0) = false := decide_eq_false c1
      by_cases c2 : n < 10
      · have d2 : decide (n < 10) = true := decide_eq_true c2
        have HE := Lib.hid (itoa_p1 (n := n) (by omega) c2)
        have hw1 : IntKind.i64.wrap (48 + n) = 48 + n := IntWalk.i64_in _ (by omega)
        have hw2 : IntKind.u8.wrap (48 + n) = 48 + n := IntWalk.u8_in _ (by omega)
        clear IH hN
        go_enter Tryd.func23, Tryd.ntmps23
        go_wp2
        have hcv : (convert 41 9 (.slice (some ⟨w.heap.size, 0, none⟩) 1 1)).run Tryd.prog (w.alloc (.cells #[.int .u8 (48 + n)] 5)) = .ok (.string ⟨[UInt8.ofNat (48 + n.toNat)].toArray⟩) (w.alloc (.cells #[.int .u8 (48 + n)] 5)) := by
          refine run_convert_bytes_back _ _ _ 5 ⟨w.heap.size, 0, none⟩ 1 [UInt8.ofNat (48 + n.toNat)] Tryd.underlying41 Tryd.underlying5 Tryd.underlying9 ?_
          intro j hj
          have : j = 0 := by simpa using hj
          subst this
          have e1 : ((UInt8.ofNat (48 + n.toNat)).toNat : Int) = 48 + n := by rw [toNat_dg (by omega)]; omega
          rw [show ([UInt8.ofNat (48 + n.toNat)])[0] = UInt8.ofNat (48 + n.toNat) from rfl, e1]
          show (w.alloc (.cells #[.int .u8 (48 + n)] 5)).cell? ⟨w.heap.size, 0, none⟩ = _
          rw [cell_of_block (heap_alloc_new w _)]
          rfl
        rw [hcv]
        simp only [Result.andThen]
        rw [Oper.upon_value]
        go_wp2
        go_ret
        exact ⟨ret_str (by rw [HE.out]; simp), below_box0 w _⟩
      · have d2 : decide (n < 10) = false := decide_eq_false c2
        obtain ⟨g1, g2, g3, g4⟩ := tdiv_pos (n := n) (by omega)
        have HI := Lib.hid (IH (n.tdiv 10) (by rw [if_neg (by omega)]; omega) (by omega) (by omega))
        have HJ := Lib.hid (IH (n.tmod 10) (by rw [if_neg (by omega)]; omega) (by omega) (by omega))
        have HE := Lib.hid (itoa_p2 (n := n) (by omega))
        have hl1 := itoa_20 (n := n.tdiv 10) (by omega) (by omega)
        have hl2 := itoa_20 (n := n.tmod 10) (by omega) (by omega)
        obtain ⟨q, hq⟩ : ∃ q, n.tdiv 10 = q := ⟨_, rfl⟩
        obtain ⟨r, hr⟩ : ∃ r, n.tmod 10 = r := ⟨_, rfl⟩
        rw [hq] at g1 g2 HI HE hl1
        rw [hr] at g3 g4 HJ HE hl2
        have hw1 : IntKind.i64.wrap (n.tdiv 10) = q := by rw [hq]; exact IntWalk.i64_in _ (by omega)
        have hw2 : IntKind.i64.wrap (n.tmod 10) = r := by rw [hr]; exact IntWalk.i64_in _ (by omega)
        clear IH hN
        go_enter Tryd.func23, Tryd.ntmps23
        go_wp2_with fail
        refine (HI.out _).mono ?_
        rintro e w1 ⟨rfl, b1⟩
        go_wp2_with fail
        refine (HJ.out _).mono ?_
        rintro e w2 ⟨rfl, b2⟩
        go_wp2_with fail
        go_ret
        exact ⟨ret_str (by rw [HE.out]; simp), below_tr b1 b2⟩
end Go.Proofs.YtgbdhmdaefbglaaDoor
