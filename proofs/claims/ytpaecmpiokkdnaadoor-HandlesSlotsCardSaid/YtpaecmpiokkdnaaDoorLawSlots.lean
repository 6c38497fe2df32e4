/- Handles: HandlesSlots returns true. -/
import Derived.Test.YtpaecmpiokkdnaaDoorHAwake
import Derived.Test.YtpaecmpiokkdnaaDoorHNewInt
import Derived.Test.YtpaecmpiokkdnaaDoorHPutInt
namespace Go.Proofs.YtpaecmpiokkdnaaDoor
open Go.RowKit Go.Sort Go.Joins
attribute [local go_sem] cell_grow frozen_grow size_grow

/-- the table after k calls of Put: the first k slots have given one handle -/
def hs (n k : Nat) : List Slt := (List.range n).map fun i => if i < k then (1, true, .int .i64 (i : Int)) else (0, false, .int .i64 0)
def hr (n k : Nat) : Nat → Bool := fun i => decide (k ≤ i) && decide (i < n)
theorem hs_length (n k : Nat) : (hs n k).length = n := by simp [hs]
theorem hs_get (n k i : Nat) (hi : i < n) : (hs n k).getD i (0, false, undef) = if i < k then (1, true, .int .i64 (i : Int)) else (0, false, .int .i64 0) := by
  simp [hs, hi]
theorem hs_zero (n : Nat) : hs n 0 = List.replicate n (0, false, .int .i64 0) := by
  apply List.ext_getElem?
  intro j
  by_cases hj : j < n <;> simp [hs, hj, List.getElem?_replicate]
theorem hs_succ (n k : Nat) (hk : k < n) : (hs n k).set k (1, true, .int .i64 (k : Int)) = hs n (k + 1) := by
  apply List.ext_getElem?
  intro j
  rw [List.getElem?_set]
  by_cases hj : j < n
  · by_cases e : k = j
    · subst e; simp [hs, hk]
    · rw [if_neg e]
      simp only [hs, List.getElem?_map, List.getElem?_range hj, Option.map_some]
      by_cases h : j < k
      · rw [if_pos h, if_pos (by omega)]
      · rw [if_neg h, if_neg (by omega)]
  · rw [List.getElem?_eq_none (by rw [hs_length]; omega), if_neg (by omega), List.getElem?_eq_none (by rw [hs_length]; omega)]
theorem hr_zero (n : Nat) : hr n 0 = fun i => decide (i < n) := by funext i; simp [hr]
theorem hr_succ (n k : Nat) (hk : k < n) : filled (hr n k) k (k + 1) false = hr n (k + 1) := by
  funext i
  unfold filled hr
  by_cases e : i = k
  · subst e; rw [if_pos ⟨Nat.le_refl _, by omega⟩]; simp; omega
  · rw [if_neg (by omega)]
    by_cases h : k ≤ i
    · simp [h, show k + 1 ≤ i by omega]
    · simp [h]; omega
theorem hr_next (n k : Nat) (hk : k < n) : nxt (hr n k) 0 n = k :=
  nxt_eq (Nat.zero_le _) (Nat.zero_le _) (by omega) (fun i _ h => by simp [hr]; omega) (fun _ => by simp [hr, hk])
theorem hput {B p q n k : Nat} {w : World} (h : Tb 99 105 w B p q (hs n k) k (hr n k)) (hT : Tab w) (hk : k < n) (hn : n ≤ 1024) :
    Calls Tryd.prog 14 #[.pointer (some ⟨p, 0, none⟩), .int .i64 (k : Int)] w fun e w' => e = .returned (.tuple #[.int .i64 (65536 + (k : Int)), .int .i64 0]) ∧
      Tb 99 105 w' B p q (hs n (k + 1)) (k + 1) (hr n (k + 1)) ∧ Fr p q w w' := by
  refine (Int.put_ok k 0 (k : Int) w h hT (by rw [hs_length, hr_next n k hk]) (by rw [hs_length]; exact hk) (by rw [hs_get n k k hk, if_neg (by omega)]) (by decide) (by omega)).mono ?_
  rintro e w' ⟨rfl, ht, hf⟩
  refine ⟨?_, ?_, hf⟩
  · exact ret_two (by simp) rfl
  · rw [hs_succ n k hk, hr_succ n k hk] at ht; exact ht
theorem slotI_first (k : Nat) (h : k < 65536) : slotI (65536 + (k : Int)) = k ∧ numI (65536 + (k : Int)) = 1 := by
  unfold slotI numI
  rw [if_neg (by omega), if_neg (by omega)]
  omega
theorem hslot (k : Nat) (w : World) (h : k < 65536) : Calls Tryd.prog 11 #[.int .i64 (65536 + (k : Int))] w fun e w' => e = .returned (.tuple #[.int .i64 (k : Int), .int .i64 1]) ∧ w = w' := by
  have := slot_ok (65536 + (k : Int)) w
  rwa [(slotI_first k h).1, (slotI_first k h).2] at this

set_option maxRecDepth 100000 in
set_option maxHeartbeats 3200000 in
theorem law_slots (h : Int) (s : Nat) (w : World) (hs8 : s ≤ 255) (hT : Tab w) :
    Calls Tryd.prog 3 #[.int .i64 h, .int .u8 (s : Int)] w fun e w' => e = .returned (.bool true) ∧ Below w.heap.size w w' := by
  have hTl := hT.lt
  have HT := Lib.hid hT
  have HTl := Lib.hid hTl
  clear hT hTl
  have hq1 : (slotI h != slotI h) = false := by simp
  have hq2 : (numI h != numI h) = false := by simp
  obtain ⟨n, hn⟩ : ∃ n, n = 1 + s := ⟨_, rfl⟩
  have hN := Int.new_ok n w (by omega) (by omega)
  rw [hn, show ((1 + s : Nat) : Int) = 1 + (s : Int) by omega] at hN
  rw [← hn, ← hs_zero, ← hr_zero] at hN
  have HN := Lib.hid hN
  have hn1 : n ≤ 256 := by omega
  have Hn := Lib.hid hn
  clear hN hn
  go_enter Tryd.func3, Tryd.ntmps3
  go_wp2_with fail
  refine (slot_ok h _).mono ?_
  rintro e w1 ⟨rfl, rfl⟩
  go_wp2_with fail
  refine (rslot_ok h _).mono ?_
  rintro e w1 ⟨rfl, rfl⟩
  go_wp2_with fail
  refine HN.out.mono ?_
  rintro e w1 ⟨rfl, t1, b1⟩
  have T1 := Lib.hid t1
  have B1 := Lib.hid b1
  have X1 := Lib.hid (HT.out.below b1)
  clear t1 b1
  go_wp2_with fail
  go_loopw [12] (fun i wr => ∃ k : Nat, k ≤ n ∧ i = .int .i64 k ∧ Hid (Tb 99 105 wr w.heap.size (w.heap.size + 1) w.heap.size (hs n k) k (hr n k)) ∧ Hid (Tab wr) ∧ Hid (Fr (w.heap.size + 1) w.heap.size w1 wr)) (fun i _ => n - (intOf i).toNat)
  case atStart => exact ⟨0, Nat.zero_le _, rfl, T1.out, X1.out, Fr.refl _ _ _⟩
  case round =>
    obtain ⟨k, hk, rfl, T2, X2, F2⟩ := hrel
    have hs1 : n = 1 + s := Hn.out
    have HS := Lib.hid hs1
    by_cases hlt : k < n
    · have hlt' : (k : Int) < 1 + (s : Int) := by omega
      clear hs1
      go_wp2_with fail
      refine (hput T2.out X2.out hlt (by omega)).mono ?_
      rintro e w2 ⟨rfl, t3, f3⟩
      have X3 := Lib.hid (X2.out.fr f3 (by have := HTl.out; omega) (by have := HTl.out; omega))
      have T3 := Lib.hid t3
      have F3 := Lib.hid (F2.out.trans f3)
      clear t3 f3
      go_wp2_with fail
      refine (hslot k _ (by omega)).mono ?_
      rintro e w3 ⟨rfl, rfl⟩
      go_wp2
      go_roundw
      case rel => exact ⟨k + 1, by omega, by go_num, T3.out, X3.out, F3.out⟩
      case measure => simp [intOf]; omega
    · have hlt' : ¬ (k : Int) < 1 + (s : Int) := by omega
      clear hs1
      go_wp2_with fail
      refine (awake_ok _ X2.out).mono ?_
      rintro e w3 ⟨rfl, b3⟩
      have B3 := Lib.hid b3
      clear b3
      go_wp2
      go_ret
      exact ⟨rfl, (Fr.below B1.out F2.out (by omega) (Nat.le_refl _) B1.out.size).trans (B3.out.mono (by have := F2.out.size; have := B1.out.size; omega))⟩
end Go.Proofs.YtpaecmpiokkdnaaDoor
