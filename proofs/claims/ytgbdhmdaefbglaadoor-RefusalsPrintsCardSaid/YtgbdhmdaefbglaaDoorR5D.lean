/- Refusals: Refused and After: program and reference. -/
import Derived.Test.YtgbdhmdaefbglaaDoorR5C
namespace Go.Proofs.YtgbdhmdaefbglaaDoor
open Go.RowKit Go.Sort Go.Joins Go.Shelf
attribute [local go_sem] cell_grow frozen_grow size_grow

/-- the first rule that refuses a call; -1: there is none -/
def idxP (n : Nat) (R : Nat → Rl) (k c : Int) : Int := if nxt (fun i => rfz (R i) k c) 0 n < n then ((nxt (fun i => rfz (R i) k c) 0 n : Nat) : Int) else -1
theorem idx_hit {n i : Nat} {R : Nat → Rl} {k c : Int} (hi : i < n) (h : rfz (R i) k c = true) (hp : ∀ j, j < i → rfz (R j) k c = false) : (i : Int) = idxP n R k c := by
  have e : nxt (fun i => rfz (R i) k c) 0 n = i := nxt_eq (Nat.zero_le _) (Nat.zero_le _) (by omega) (fun j _ hj => hp j hj) (fun _ => h)
  unfold idxP
  rw [e, if_pos hi]
theorem idx_miss {n : Nat} {R : Nat → Rl} {k c : Int} (hp : ∀ j, j < n → rfz (R j) k c = false) : -1 = idxP n R k c := by
  have e : nxt (fun i => rfz (R i) k c) 0 n = n := nxt_eq (Nat.zero_le _) (Nat.zero_le _) (Nat.le_refl _) (fun j _ hj => hp j hj) (fun h => by omega)
  unfold idxP
  rw [e, if_neg (Nat.lt_irrefl n)]
theorem idx_ge {n : Nat} {R : Nat → Rl} {k c : Int} : decide ((0 : Int) ≤ idxP n R k c) = rfP n R k c := by
  obtain ⟨_, s2, s3, s4⟩ := nxt_spec (p := fun i => rfz (R i) k c) (a := 0) (n := n) (Nat.zero_le _)
  unfold idxP
  by_cases h : nxt (fun i => rfz (R i) k c) 0 n < n
  · rw [if_pos h, rfP_yes h (s4 h)]; simp
  · rw [if_neg h, rfP_no (fun j hj => s3 j (Nat.zero_le _) (by omega))]; simp
section
variable {w : World} {a : Option Addr} {n c : Nat} {R : Nat → Rl}
set_option maxRecDepth 100000 in
set_option maxHeartbeats 1600000 in
theorem index_ok (hS : SlR w a n R) (hn : n ≤ 9223372036854775807) (hR : ∀ i, i < n → RlOk (R i)) (q m : Int) (B1 B2 : Nat) (c1 : w.cell? ⟨B1, 0, none⟩ = some (.int .i64 q)) (c2 : w.cell? ⟨B2, 0, none⟩ = some (.int .i64 m)) (h0 : 1 ≤ m) (h1 : m ≤ 1000000) :
    Calls Tryd.prog 65 #[.slice a n c, .func (.func 48) #[] #[.pointer (some ⟨B1, 0, none⟩), .pointer (some ⟨B2, 0, none⟩)]] w fun e w' => e = .returned (.int .i64 (idxP n R q m)) ∧ Below w.heap.size w w' := by
  have HS := Lib.hid hS
  have HR := Lib.hid hR
  have HC1 := Lib.hid c1
  have HC2 := Lib.hid c2
  have eg : ∀ args w, (callFunc 48 args).run Tryd.prog w = .ok (.enter 48 args) w := enters_of Tryd.func48 (by kernel_rfl) rfl
  clear hS hR c1 c2
  go_enter Tryd.func65, Tryd.ntmps65
  go_wp2
  go_loopw [8] (fun i wr => ∃ k : Nat, i = .int .i64 k ∧ k ≤ n ∧ Hid (Below w.heap.size w wr) ∧ Hid (∀ j, j < k → rfz (R j) q m = false)) (fun i _ => n - (intOf i).toNat)
  case atStart => exact ⟨0, rfl, Nat.zero_le _, Lib.hid (Below.refl _ _), Lib.hid (fun j hj => by omega)⟩
  case round =>
    obtain ⟨k, rfl, hk, HB, HA⟩ := hrel
    by_cases hlt : k < n
    · obtain ⟨b, o, rfl, g0, g1, g2, g3⟩ := (HS.out.below HB.out).at_ hlt
      have hbl := World.block_lt_of_cell? _ _ g0
      dsimp only at hbl
      have HC := Lib.hid (refcl_ok (R k) (HR.out k hlt) q m B1 B2 wr (cell_later HB.out HC1.out) (cell_later HB.out HC2.out) h0 h1)
      cases hr : rfz (R k) q m
      all_goals
        rw [hr] at HC
        have HE := Lib.hid hr
        clear hr
        go_wp2_with (go_at_fn 48; refine HC.out.mono ?_; rintro e' w1 ⟨rfl, b1⟩; have HB1 := Lib.hid (HB.out.trans (b1.mono HB.out.size)); clear b1)
      · go_roundw
        case rel => exact ⟨k + 1, by go_num, by omega, HB1, Lib.hid (fun j hj => by
          by_cases ej : j = k
          · rw [ej]; exact HE.out
          · exact HA.out j (by omega))⟩
        case measure => simp [intOf]; omega
      · go_ret
        exact ⟨ret_i64 (idx_hit hlt HE.out HA.out), HB1.out⟩
    · obtain rfl : k = n := by omega
      go_wp2
      go_ret
      exact ⟨ret_i64 (idx_miss HA.out), HB.out⟩
theorem contains_ok (hS : SlR w a n R) (hn : n ≤ 9223372036854775807) (hR : ∀ i, i < n → RlOk (R i)) (q m : Int) (B1 B2 : Nat) (c1 : w.cell? ⟨B1, 0, none⟩ = some (.int .i64 q)) (c2 : w.cell? ⟨B2, 0, none⟩ = some (.int .i64 m)) (h0 : 1 ≤ m) (h1 : m ≤ 1000000) :
    Calls Tryd.prog 47 #[.slice a n c, .func (.func 48) #[] #[.pointer (some ⟨B1, 0, none⟩), .pointer (some ⟨B2, 0, none⟩)]] w fun e w' => e = .returned (.bool (rfP n R q m)) ∧ Below w.heap.size w w' := by
  have HC := Lib.hid (index_ok (c := c) hS hn hR q m B1 B2 c1 c2 h0 h1)
  have hg := idx_ge (n := n) (R := R) (k := q) (c := m)
  obtain ⟨r, hr⟩ : ∃ r, rfP n R q m = r := ⟨_, rfl⟩
  obtain ⟨i, hi⟩ : ∃ i, idxP n R q m = i := ⟨_, rfl⟩
  rw [hr, hi] at hg
  rw [hr]
  rw [hi] at HC
  clear hS hR c1 c2 hr hi
  go_enter Tryd.func47, Tryd.ntmps47
  go_wp2_with fail
  refine HC.out.mono ?_
  rintro e w1 ⟨rfl, b1⟩
  have HB1 := Lib.hid b1
  clear b1
  go_wp2
  go_ret
  exact ⟨rfl, HB1.out⟩
theorem refused_ok (hS : SlR w a n R) (hn : n ≤ 9223372036854775807) (hR : ∀ i, i < n → RlOk (R i)) (q m : Int) (h0 : 1 ≤ m) (h1 : m ≤ 1000000) :
    Calls Tryd.prog 33 #[pV a n c, .int .i64 q, .int .i64 m] w fun e w' => e = .returned (.bool (rfP n R q m)) ∧ Below w.heap.size w w' := by
  have b3 : Below w.heap.size w (((w.alloc (.cells #[.slice a n c] 24)).alloc (.cells #[.int .i64 q] 3)).alloc (.cells #[.int .i64 m] 3)) := (((Below.refl _ w).alloc (Nat.le_refl _) _).alloc (by simp) _).alloc (by simp; omega) _
  have HC := Lib.hid (contains_ok (c := c) (hS.below b3) hn hR q m (w.heap.size + 1) (w.heap.size + 1 + 1) (by simp [go_sem]) (by simp [go_sem]) h0 h1)
  have HB := Lib.hid b3
  clear b3 hS hR
  go_enter Tryd.func33, Tryd.ntmps33
  go_wp2_with fail
  refine HC.out.mono ?_
  rintro e w1 ⟨rfl, b1⟩
  have HB1 := Lib.hid (below_tr HB.out b1)
  clear b1
  go_wp2
  go_ret
  exact ⟨rfl, HB1.out⟩

/-- what Refused answers -/
def rfdV (n : Nat) (R : Nat → Rl) (k c : Int) : Bool := if askE n R k c 1 = 0 then rfP n R k c else false
theorem rfd_cases {C : Bool → Int → Prop} (n : Nat) (R : Nat → Rl) (k c : Int) (h1 : ∀ e, e ≠ 0 → askE n R k c 1 = e → C false e) (h2 : askE n R k c 1 = 0 → C (rfP n R k c) 0) : C (rfdV n R k c) (askE n R k c 1) := by
  unfold rfdV
  by_cases h : askE n R k c 1 = 0
  · rw [if_pos h, h]; exact h2 h
  · rw [if_neg h]; exact h1 _ h rfl
set_option maxRecDepth 100000 in
set_option maxHeartbeats 1600000 in
theorem Refused_ok (hS : SlR w a n R) (hn : n ≤ 9223372036854775807) (q m : Int) :
    Calls Tryd.prog 15 #[pV a n c, .int .i64 q, .int .i64 m] w fun e w' => e = .returned (.tuple #[.bool (rfdV n R q m), .int .i64 (askE n R q m 1)]) ∧ Below w.heap.size w w' := by
  have b0 := below_box0 w (.cells #[.slice a n c] 24)
  have HS := Lib.hid (hS.below b0)
  have HC := Lib.hid (ask_ok (c := c) HS.out hn q m 1)
  have HB := Lib.hid b0
  clear b0 hS
  refine rfd_cases (C := fun v e => Calls Tryd.prog 15 #[pV a n c, .int .i64 q, .int .i64 m] w fun e' w' => e' = .returned (.tuple #[.bool v, .int .i64 e]) ∧ Below w.heap.size w w') n R q m (fun e he ha => ?_) (fun ha => ?_)
  · have d1 := bne0_true he
    rw [ha] at HC
    clear ha he
    go_enter Tryd.func15, Tryd.ntmps15
    go_wp2_with fail
    refine HC.out.mono ?_
    rintro e' w1 ⟨rfl, b1⟩
    have HB1 := Lib.hid (below_tr HB.out b1)
    clear b1
    go_wp2
    go_ret2
    exact ⟨rfl, HB1.out⟩
  · obtain ⟨hp, _, _, hm0, hm1⟩ := askE_zero ha
    have HR := Lib.hid (pE_zero hp).2
    rw [ha] at HC
    clear ha hp
    go_enter Tryd.func15, Tryd.ntmps15
    go_wp2_with fail
    refine HC.out.mono ?_
    rintro e' w1 ⟨rfl, b1⟩
    have k0 : w1.cell? ⟨w.heap.size, 0, none⟩ = some (.slice a n c) := cell_later b1 (by simp [go_sem])
    have HB1 := Lib.hid (below_tr HB.out b1)
    have HS1 := Lib.hid (HS.out.below b1)
    clear b1
    go_wp2_with fail
    refine (refused_ok HS1.out hn HR.out q m (by omega) (by omega)).mono ?_
    rintro e' w2 ⟨rfl, b2⟩
    have HB2 := Lib.hid (below_tr HB1.out b2)
    clear b2
    go_wp2
    go_ret2
    exact ⟨rfl, HB2.out⟩
end
end Go.Proofs.YtgbdhmdaefbglaaDoor
