/- Refusals: Next. -/
import Derived.Test.YtpjhedkloljpjaaDoorRRR5R
namespace Go.Proofs.YtpjhedkloljpjaaDoorRR
open Go.RowKit Go.Sort Go.Joins Go.Shelf
attribute [local go_sem] cell_grow frozen_grow size_grow
attribute [local go_sem ↓] Go.wp_at_zero Go.wp_at_succ
section
variable {w : World} {a : Option Addr} {n c : Nat} {R : Nat → Rl} {C H : Nat → Int}
set_option maxRecDepth 100000 in
set_option maxHeartbeats 6400000 in
theorem Next_c1 (hS : SlR w a n R) (hn : n ≤ 9223372036854775807) (q : Int) :
    ∀ e, e ≠ 0 → csE n R C H = e → Calls Tryd.prog 24 #[sV a n c C H, .int .i64 q] w fun ex w' => ∃ a' c', ex = .returned (.tuple #[sV a' 0 c' Z7 Z7, .bool false, .int .i64 e]) ∧ SlR w' a' 0 R ∧ Below w.heap.size w w' ∧ (∀ g, a' = some g → w.heap.size ≤ g.block) := by
  have b0 : Below w.heap.size w ((w.alloc (.cells (sA a n c C H) 38)).alloc (.cells #[.slice none 0 0, .int .i64 0, .int .i64 0, .int .i64 0, .int .i64 0, .int .i64 0, .int .i64 0, .int .i64 0, .int .i64 0, .int .i64 0, .int .i64 0, .int .i64 0, .int .i64 0, .int .i64 0, .int .i64 0] 38)) := ((Below.refl _ w).alloc (Nat.le_refl _) _).alloc (by simp) _
  have HS := Lib.hid (hS.below b0)
  have HS0 := Lib.hid hS
  have HC := Lib.hid (chkst_ok (c := c) (C := C) (H := H) HS.out hn)
  have HB := Lib.hid b0
  have hnew : StC ((w.alloc (.cells (sA a n c C H) 38)).alloc (.cells #[.slice none 0 0, .int .i64 0, .int .i64 0, .int .i64 0, .int .i64 0, .int .i64 0, .int .i64 0, .int .i64 0, .int .i64 0, .int .i64 0, .int .i64 0, .int .i64 0, .int .i64 0, .int .i64 0, .int .i64 0] 38)) (w.heap.size + 1) none 0 0 Z7 Z7 := by
    have := StC.new (a := none) (n := 0) (c := 0) (C := Z7) (H := Z7) (w.alloc (.cells (sA a n c C H) 38))
    rw [World.size_alloc] at this
    exact this
  have HZ := Lib.hid hnew
  have HN := Lib.hid ((StC.new (a := a) (n := n) (c := c) (C := C) (H := H) w).below (below_box0 _ (.cells #[.slice none 0 0, .int .i64 0, .int .i64 0, .int .i64 0, .int .i64 0, .int .i64 0, .int .i64 0, .int .i64 0, .int .i64 0, .int .i64 0, .int .i64 0, .int .i64 0, .int .i64 0, .int .i64 0, .int .i64 0] 38)))
  clear b0 hS hnew
  intro e he hce
  rw [hce] at HC
  have d1 := bne0_true he
  clear hce he
  go_enter Tryd.func24, Tryd.ntmps24
  go_wp2_with fail
  refine HC.out.mono ?_
  rintro e1 w1 ⟨rfl, b1⟩
  have HB1 := Lib.hid (below_tr HB.out b1)
  have hZ2 := HZ.out.below b1
  obtain ⟨s0, s1, s2, s3, s4, s5, s6, s7, s8, s9, s10, s11, s12, s13, s14⟩ := hZ2.cells
  have hf := hZ2.fz
  have HZ2 := Lib.hid hZ2
  clear b1 hZ2
  go_wp2
  exact bodyPost_ret (v := .tuple #[sV none 0 0 Z7 Z7, .bool false, .int .i64 e]) (by simp [results, Tryd.results24, go_sem, Z7, s0, s1, s2, s3, s4, s5, s6, s7, s8, s9, s10, s11, s12, s13, s14]) rfl ⟨none, 0, rfl, .inl rfl, below15 HB1.out (by simp) _ _ _ _ _ _ _ _ _ _ _ _ _ _ _, fun g h => by cases h⟩
set_option maxRecDepth 100000 in
set_option maxHeartbeats 6400000 in
theorem Next_c2 (hS : SlR w a n R) (hn : n ≤ 9223372036854775807) (q : Int) :
    csE n R C H = 0 → q < 0 → Calls Tryd.prog 24 #[sV a n c C H, .int .i64 q] w fun ex w' => ∃ a' c', ex = .returned (.tuple #[sV a' 0 c' Z7 Z7, .bool false, .int .i64 2]) ∧ SlR w' a' 0 R ∧ Below w.heap.size w w' ∧ (∀ g, a' = some g → w.heap.size ≤ g.block) := by
  have b0 : Below w.heap.size w ((w.alloc (.cells (sA a n c C H) 38)).alloc (.cells #[.slice none 0 0, .int .i64 0, .int .i64 0, .int .i64 0, .int .i64 0, .int .i64 0, .int .i64 0, .int .i64 0, .int .i64 0, .int .i64 0, .int .i64 0, .int .i64 0, .int .i64 0, .int .i64 0, .int .i64 0] 38)) := ((Below.refl _ w).alloc (Nat.le_refl _) _).alloc (by simp) _
  have HS := Lib.hid (hS.below b0)
  have HS0 := Lib.hid hS
  have HC := Lib.hid (chkst_ok (c := c) (C := C) (H := H) HS.out hn)
  have HB := Lib.hid b0
  have hnew : StC ((w.alloc (.cells (sA a n c C H) 38)).alloc (.cells #[.slice none 0 0, .int .i64 0, .int .i64 0, .int .i64 0, .int .i64 0, .int .i64 0, .int .i64 0, .int .i64 0, .int .i64 0, .int .i64 0, .int .i64 0, .int .i64 0, .int .i64 0, .int .i64 0, .int .i64 0] 38)) (w.heap.size + 1) none 0 0 Z7 Z7 := by
    have := StC.new (a := none) (n := 0) (c := 0) (C := Z7) (H := Z7) (w.alloc (.cells (sA a n c C H) 38))
    rw [World.size_alloc] at this
    exact this
  have HZ := Lib.hid hnew
  have HN := Lib.hid ((StC.new (a := a) (n := n) (c := c) (C := C) (H := H) w).below (below_box0 _ (.cells #[.slice none 0 0, .int .i64 0, .int .i64 0, .int .i64 0, .int .i64 0, .int .i64 0, .int .i64 0, .int .i64 0, .int .i64 0, .int .i64 0, .int .i64 0, .int .i64 0, .int .i64 0, .int .i64 0, .int .i64 0] 38)))
  clear b0 hS hnew
  intro hce h1
  rw [hce] at HC
  have d1 : decide (q < 0) = true := by simpa using h1
  clear hce h1
  go_enter Tryd.func24, Tryd.ntmps24
  go_wp2_with fail
  refine HC.out.mono ?_
  rintro e1 w1 ⟨rfl, b1⟩
  have HB1 := Lib.hid (below_tr HB.out b1)
  have hZ2 := HZ.out.below b1
  obtain ⟨s0, s1, s2, s3, s4, s5, s6, s7, s8, s9, s10, s11, s12, s13, s14⟩ := hZ2.cells
  have hf := hZ2.fz
  have HZ2 := Lib.hid hZ2
  clear b1 hZ2
  go_wp2
  exact bodyPost_ret (v := .tuple #[sV none 0 0 Z7 Z7, .bool false, .int .i64 2]) (by simp [results, Tryd.results24, go_sem, Z7, s0, s1, s2, s3, s4, s5, s6, s7, s8, s9, s10, s11, s12, s13, s14]) rfl ⟨none, 0, rfl, .inl rfl, below15 HB1.out (by simp) _ _ _ _ _ _ _ _ _ _ _ _ _ _ _, fun g h => by cases h⟩
set_option maxRecDepth 100000 in
set_option maxHeartbeats 6400000 in
theorem Next_c3 (hS : SlR w a n R) (hn : n ≤ 9223372036854775807) (q : Int) :
    csE n R C H = 0 → 0 ≤ q → 7 ≤ q → Calls Tryd.prog 24 #[sV a n c C H, .int .i64 q] w fun ex w' => ∃ a' c', ex = .returned (.tuple #[sV a' 0 c' Z7 Z7, .bool false, .int .i64 2]) ∧ SlR w' a' 0 R ∧ Below w.heap.size w w' ∧ (∀ g, a' = some g → w.heap.size ≤ g.block) := by
  have b0 : Below w.heap.size w ((w.alloc (.cells (sA a n c C H) 38)).alloc (.cells #[.slice none 0 0, .int .i64 0, .int .i64 0, .int .i64 0, .int .i64 0, .int .i64 0, .int .i64 0, .int .i64 0, .int .i64 0, .int .i64 0, .int .i64 0, .int .i64 0, .int .i64 0, .int .i64 0, .int .i64 0] 38)) := ((Below.refl _ w).alloc (Nat.le_refl _) _).alloc (by simp) _
  have HS := Lib.hid (hS.below b0)
  have HS0 := Lib.hid hS
  have HC := Lib.hid (chkst_ok (c := c) (C := C) (H := H) HS.out hn)
  have HB := Lib.hid b0
  have hnew : StC ((w.alloc (.cells (sA a n c C H) 38)).alloc (.cells #[.slice none 0 0, .int .i64 0, .int .i64 0, .int .i64 0, .int .i64 0, .int .i64 0, .int .i64 0, .int .i64 0, .int .i64 0, .int .i64 0, .int .i64 0, .int .i64 0, .int .i64 0, .int .i64 0, .int .i64 0] 38)) (w.heap.size + 1) none 0 0 Z7 Z7 := by
    have := StC.new (a := none) (n := 0) (c := 0) (C := Z7) (H := Z7) (w.alloc (.cells (sA a n c C H) 38))
    rw [World.size_alloc] at this
    exact this
  have HZ := Lib.hid hnew
  have HN := Lib.hid ((StC.new (a := a) (n := n) (c := c) (C := C) (H := H) w).below (below_box0 _ (.cells #[.slice none 0 0, .int .i64 0, .int .i64 0, .int .i64 0, .int .i64 0, .int .i64 0, .int .i64 0, .int .i64 0, .int .i64 0, .int .i64 0, .int .i64 0, .int .i64 0, .int .i64 0, .int .i64 0, .int .i64 0] 38)))
  clear b0 hS hnew
  intro hce h1 h2
  rw [hce] at HC
  have d1 : decide (q < 0) = false := by simpa using h1
  have d2 : decide (7 ≤ q) = true := by simpa using h2
  clear hce h1 h2
  go_enter Tryd.func24, Tryd.ntmps24
  go_wp2_with fail
  refine HC.out.mono ?_
  rintro e1 w1 ⟨rfl, b1⟩
  have HB1 := Lib.hid (below_tr HB.out b1)
  have hZ2 := HZ.out.below b1
  obtain ⟨s0, s1, s2, s3, s4, s5, s6, s7, s8, s9, s10, s11, s12, s13, s14⟩ := hZ2.cells
  have hf := hZ2.fz
  have HZ2 := Lib.hid hZ2
  clear b1 hZ2
  go_wp2
  exact bodyPost_ret (v := .tuple #[sV none 0 0 Z7 Z7, .bool false, .int .i64 2]) (by simp [results, Tryd.results24, go_sem, Z7, s0, s1, s2, s3, s4, s5, s6, s7, s8, s9, s10, s11, s12, s13, s14]) rfl ⟨none, 0, rfl, .inl rfl, below15 HB1.out (by simp) _ _ _ _ _ _ _ _ _ _ _ _ _ _ _, fun g h => by cases h⟩
set_option maxRecDepth 100000 in
set_option maxHeartbeats 6400000 in
theorem Next_c4 (hS : SlR w a n R) (hn : n ≤ 9223372036854775807) (q : Int) :
    ∀ k : Nat, csE n R C H = 0 → q = k → k < 7 → C k = 1000000 → Calls Tryd.prog 24 #[sV a n c C H, .int .i64 q] w fun ex w' => ∃ a' c', ex = .returned (.tuple #[sV a' 0 c' Z7 Z7, .bool false, .int .i64 3]) ∧ SlR w' a' 0 R ∧ Below w.heap.size w w' ∧ (∀ g, a' = some g → w.heap.size ≤ g.block) := by
  have b0 : Below w.heap.size w ((w.alloc (.cells (sA a n c C H) 38)).alloc (.cells #[.slice none 0 0, .int .i64 0, .int .i64 0, .int .i64 0, .int .i64 0, .int .i64 0, .int .i64 0, .int .i64 0, .int .i64 0, .int .i64 0, .int .i64 0, .int .i64 0, .int .i64 0, .int .i64 0, .int .i64 0] 38)) := ((Below.refl _ w).alloc (Nat.le_refl _) _).alloc (by simp) _
  have HS := Lib.hid (hS.below b0)
  have HS0 := Lib.hid hS
  have HC := Lib.hid (chkst_ok (c := c) (C := C) (H := H) HS.out hn)
  have HB := Lib.hid b0
  have hnew : StC ((w.alloc (.cells (sA a n c C H) 38)).alloc (.cells #[.slice none 0 0, .int .i64 0, .int .i64 0, .int .i64 0, .int .i64 0, .int .i64 0, .int .i64 0, .int .i64 0, .int .i64 0, .int .i64 0, .int .i64 0, .int .i64 0, .int .i64 0, .int .i64 0, .int .i64 0] 38)) (w.heap.size + 1) none 0 0 Z7 Z7 := by
    have := StC.new (a := none) (n := 0) (c := 0) (C := Z7) (H := Z7) (w.alloc (.cells (sA a n c C H) 38))
    rw [World.size_alloc] at this
    exact this
  have HZ := Lib.hid hnew
  have HN := Lib.hid ((StC.new (a := a) (n := n) (c := c) (C := C) (H := H) w).below (below_box0 _ (.cells #[.slice none 0 0, .int .i64 0, .int .i64 0, .int .i64 0, .int .i64 0, .int .i64 0, .int .i64 0, .int .i64 0, .int .i64 0, .int .i64 0, .int .i64 0, .int .i64 0, .int .i64 0, .int .i64 0, .int .i64 0] 38)))
  clear b0 hS hnew
  intro k hce hq hk hx3
  subst hq
  rw [hce] at HC
  have dk0 : decide ((k : Int) < 0) = false := by simp
  have dk7 : decide ((7 : Int) ≤ (k : Int)) = false := by simp; omega
  have hli : (k : Int) < 7 := by omega
  have hk0 : (0 : Int) ≤ (k : Int) := by omega
  have HX := Lib.hid hx3
  clear hce hx3
  go_enter Tryd.func24, Tryd.ntmps24
  go_wp2_with fail
  refine HC.out.mono ?_
  rintro e1 w1 ⟨rfl, b1⟩
  have HB1 := Lib.hid (below_tr HB.out b1)
  have hZ2 := HZ.out.below b1
  obtain ⟨s0, s1, s2, s3, s4, s5, s6, s7, s8, s9, s10, s11, s12, s13, s14⟩ := hZ2.cells
  have hf := hZ2.fz
  have HZ2 := Lib.hid hZ2
  have kC := (HN.out.below b1).cC hk
  rw [HX.out] at kC
  clear b1 hZ2
  go_wp2
  exact bodyPost_ret (v := .tuple #[sV none 0 0 Z7 Z7, .bool false, .int .i64 3]) (by simp [results, Tryd.results24, go_sem, Z7, s0, s1, s2, s3, s4, s5, s6, s7, s8, s9, s10, s11, s12, s13, s14]) rfl ⟨none, 0, rfl, .inl rfl, below15 HB1.out (by simp) _ _ _ _ _ _ _ _ _ _ _ _ _ _ _, fun g h => by cases h⟩
set_option maxRecDepth 100000 in
set_option maxHeartbeats 6400000 in
theorem Next_c5 (hS : SlR w a n R) (hn : n ≤ 9223372036854775807) (q : Int) :
    ∀ k : Nat, csE n R C H = 0 → q = k → k < 7 → C k ≠ 1000000 → rfP n R (k : Int) (C k + 1) = true → Calls Tryd.prog 24 #[sV a n c C H, .int .i64 q] w fun ex w' => ∃ a' c', ex = .returned (.tuple #[sV a' n c' (upd C k (C k + 1)) (upd H k (H k + 1)), .bool true, .int .i64 0]) ∧ SlR w' a' n R ∧ Below w.heap.size w w' ∧ (∀ g, a' = some g → w.heap.size ≤ g.block) := by
  have b0 : Below w.heap.size w ((w.alloc (.cells (sA a n c C H) 38)).alloc (.cells #[.slice none 0 0, .int .i64 0, .int .i64 0, .int .i64 0, .int .i64 0, .int .i64 0, .int .i64 0, .int .i64 0, .int .i64 0, .int .i64 0, .int .i64 0, .int .i64 0, .int .i64 0, .int .i64 0, .int .i64 0] 38)) := ((Below.refl _ w).alloc (Nat.le_refl _) _).alloc (by simp) _
  have HS := Lib.hid (hS.below b0)
  have HS0 := Lib.hid hS
  have HC := Lib.hid (chkst_ok (c := c) (C := C) (H := H) HS.out hn)
  have HB := Lib.hid b0
  have hnew : StC ((w.alloc (.cells (sA a n c C H) 38)).alloc (.cells #[.slice none 0 0, .int .i64 0, .int .i64 0, .int .i64 0, .int .i64 0, .int .i64 0, .int .i64 0, .int .i64 0, .int .i64 0, .int .i64 0, .int .i64 0, .int .i64 0, .int .i64 0, .int .i64 0, .int .i64 0] 38)) (w.heap.size + 1) none 0 0 Z7 Z7 := by
    have := StC.new (a := none) (n := 0) (c := 0) (C := Z7) (H := Z7) (w.alloc (.cells (sA a n c C H) 38))
    rw [World.size_alloc] at this
    exact this
  have HZ := Lib.hid hnew
  have HN := Lib.hid ((StC.new (a := a) (n := n) (c := c) (C := C) (H := H) w).below (below_box0 _ (.cells #[.slice none 0 0, .int .i64 0, .int .i64 0, .int .i64 0, .int .i64 0, .int .i64 0, .int .i64 0, .int .i64 0, .int .i64 0, .int .i64 0, .int .i64 0, .int .i64 0, .int .i64 0, .int .i64 0, .int .i64 0] 38)))
  clear b0 hS hnew
  intro k hce hq hk hx3 hr
  subst hq
  rw [hce] at HC
  obtain ⟨hp, hall⟩ := csE_zero hce
  obtain ⟨hx0, hx1, hy⟩ := hall k hk
  have hHR := (pE_zero hp).2
  have hn50 := (pE_zero hp).1
  have hle := hit_le n R (k : Int) (C k).toNat
  have HHR := Lib.hid hHR
  have HCE := Lib.hid (show 0 = csE n R C H from hce.symm)
  clear hce hp hall hHR
  obtain ⟨x, hx⟩ : ∃ x, C k = x := ⟨_, rfl⟩
  obtain ⟨y, hyy⟩ : ∃ y, H k = y := ⟨_, rfl⟩
  rw [hx] at hx0 hx1 hy hle hx3 hr ⊢
  rw [hyy] at hy ⊢
  have HX := Lib.hid hx
  have HY := Lib.hid hyy
  clear hx hyy
  obtain ⟨D, hD⟩ : ∃ D, upd C k (x + 1) = D := ⟨_, rfl⟩
  rw [hD]
  have HD := Lib.hid hD
  clear hD
  obtain ⟨J, hJ⟩ : ∃ J, upd H k (y + 1) = J := ⟨_, rfl⟩
  rw [hJ]
  have HJ := Lib.hid hJ
  clear hJ
  have hy0 : 0 ≤ y := by omega
  have hy1 : y ≤ 1000001 := by omega
  clear hy hle
  have dk0 : decide ((k : Int) < 0) = false := by simp
  have dk7 : decide ((7 : Int) ≤ (k : Int)) = false := by simp; omega
  have dk6 : (decide ((0 : Int) ≤ (k : Int)) && decide ((k : Int) ≤ 6)) = true := by simp; omega
  have dx : (x == (1000000 : Int)) = false := by simpa using hx3
  have hli : (k : Int) < 7 := by omega
  have hk0 : (0 : Int) ≤ (k : Int) := by omega
  clear dk6
  go_enter Tryd.func24, Tryd.ntmps24
  go_wp2_with fail
  refine HC.out.mono ?_
  rintro e1 w1 ⟨rfl, b1⟩
  have HB1 := Lib.hid (below_tr HB.out b1)
  have HS1 := Lib.hid (HS.out.below b1)
  have HN1 := Lib.hid (HN.out.below b1)
  have HZ1 := Lib.hid (HZ.out.below b1)
  have hz1 := HZ1.out.lt
  have k0 := HN1.out.c0
  have kC1 := HN1.out.cC hk
  have kf := HN1.out.fz
  rw [HX.out] at kC1
  clear b1
  go_wp2_with fail
  clear kC1 kf
  refine (clone_ok HS1.out (by omega)).mono ?_
  rintro e1 w2 ⟨a', c', rfl, hn2, b2⟩
  have HB2 := Lib.hid (below_tr HB1.out b2)
  have HN2 := Lib.hid (HN1.out.below b2)
  have HZ2 := Lib.hid (HZ1.out.below b2)
  have hfr : ∀ g, a' = some g → w.heap.size + 2 ≤ g.block := fun g e => by have := hn2.2 g e; omega
  have HS2 := Lib.hid hn2.1
  have HFR := Lib.hid hfr
  have kf2 := HN2.out.fz
  have kC := HN2.out.cC hk
  rw [HX.out] at kC
  clear b2 hn2 k0 hfr hz1
  have k02 := HN2.out.c0
  go_wp2_with fail
  have HN3 := Lib.hid (HN2.out.set0 (a' := a') (n' := n) (c' := c'))
  have HZ3 := Lib.hid (HZ2.out.other (B' := w.heap.size) (by omega) 0 (.slice a' n c'))
  have HS3 := Lib.hid (HS2.out.set_other (B := w.heap.size) (fun g e => by have := HFR.out g e; omega) 0 (.slice a' n c'))
  have HB3 := Lib.hid (HB2.out.setCell (p := ⟨w.heap.size, 0, none⟩) (Nat.le_refl _) (.slice a' n c'))
  have HN4 := Lib.hid (HN3.out.setC hk (x + 1))
  have HZ4 := Lib.hid (HZ3.out.other (B' := w.heap.size) (by omega) (1 + k) (.int .i64 (x + 1)))
  have HS4 := Lib.hid (HS3.out.set_other (B := w.heap.size) (fun g e => by have := HFR.out g e; omega) (1 + k) (.int .i64 (x + 1)))
  have HB4 := Lib.hid (HB3.out.setCell (p := ⟨w.heap.size, 1 + k, none⟩) (Nat.le_refl _) (.int .i64 (x + 1)))
  obtain ⟨V2, hV2⟩ : ∃ V2, (w2.setCell ⟨w.heap.size, 0, none⟩ (.slice a' n c')).setCell ⟨w.heap.size, 1 + k, none⟩ (.int .i64 (x + 1)) = V2 := ⟨_, rfl⟩
  rw [hV2] at HN4 HZ4 HB4 HS4 ⊢
  clear hV2 kC kf2 k02
  have k0 := HN4.out.c0
  have kC := HN4.out.cC hk
  rw [upd_same] at kC
  rw [HD.out] at HN4
  have HK2 : Hid (∀ w', Below V2.heap.size V2 w' → w'.cell? ⟨w.heap.size, 0, none⟩ = some (.slice a' n c') ∧ w'.cell? ⟨w.heap.size, 1 + k, none⟩ = some (.int .i64 (x + 1))) := Lib.hid (fun w' h => ⟨cell_later h k0, cell_later h kC⟩)
  have HCh := Lib.hid (fun W' (h : Below V2.heap.size V2 W') => refused_ok (c := c') (HS4.out.below h) (by omega) HHR.out (k : Int) (x + 1) (by omega) (by omega))
  rw [hr] at HCh
  clear hr
  go_region_held3 (fun w' => Below V2.heap.size V2 w' ∧ w'.cell? ⟨w.heap.size, 0, none⟩ = some (.slice a' n c') ∧ w'.cell? ⟨w.heap.size, 1 + k, none⟩ = some (.int .i64 (x + 1)))
    ((refine keepN HK2 ?_; first | exact (Below.refl _ _).drew | exact And.left (by assumption) | exact bel_call (by assumption) (by assumption)))
    ((go_at_call 36; (refine (HCh.out _ (And.left (by assumption))).mono ?_); rintro e1 w3 ⟨rfl, b3⟩; have g3 := Lib.hid (bel_call (by assumption) b3)))
  all_goals
    have HN5 := Lib.hid (HN4.out.below g3.out)
    have HZ5 := Lib.hid (HZ4.out.below g3.out)
    have HS5 := Lib.hid (HS4.out.below g3.out)
    have HB5 := Lib.hid (HB4.out.trans (g3.out.mono HB4.out.size))
    have kH := HN5.out.cH hk
    rw [HY.out] at kH
    have kf := HN5.out.fz
    go_upto_region 13 with fail
    have HN6 := Lib.hid (HN5.out.setH hk (y + 1))
    have HZ6 := Lib.hid (HZ5.out.other (B' := w.heap.size) (by omega) (8 + k) (.int .i64 (y + 1)))
    have HS6 := Lib.hid (HS5.out.set_other (B := w.heap.size) (fun g e => by have := HFR.out g e; omega) (8 + k) (.int .i64 (y + 1)))
    have HB6 := Lib.hid (HB5.out.setCell (p := ⟨w.heap.size, 8 + k, none⟩) (Nat.le_refl _) (.int .i64 (y + 1)))
    obtain ⟨V6, hV6⟩ : ∃ V6, w3.setCell ⟨w.heap.size, 8 + k, none⟩ (.int .i64 (y + 1)) = V6 := ⟨_, rfl⟩
    rw [hV6] at HN6 HZ6 HB6 HS6 ⊢
    rw [HJ.out] at HN6
    clear hV6 kH kf
    obtain ⟨s0, s1, s2, s3, s4, s5, s6, s7, s8, s9, s10, s11, s12, s13, s14⟩ := HN6.out.cells
    obtain ⟨r0, r1, r2, r3, r4, r5, r6, r7, r8, r9, r10, r11, r12, r13, r14⟩ := HZ6.out.cells
    have hf := HZ6.out.fz
    go_wp2
    (try simp only [Exit.inBlock, Exit.then])
    refine bodyPost_ret (v := .tuple #[sV a' n c' D J, .bool true, .int .i64 0]) ?hres rfl ?_
    case hres => simp [results, Tryd.results24, go_sem, s0, s1, s2, s3, s4, s5, s6, s7, s8, s9, s10, s11, s12, s13, s14, r0, r1, r2, r3, r4, r5, r6, r7, r8, r9, r10, r11, r12, r13, r14]
    exact ⟨a', c', rfl, slr15 HS6.out (fun g e => by have := HFR.out g e; omega) _ _ _ _ _ _ _ _ _ _ _ _ _ _ _, below15 HB6.out (by simp) _ _ _ _ _ _ _ _ _ _ _ _ _ _ _, fun g e => by have := HFR.out g e; omega⟩
set_option maxRecDepth 100000 in
set_option maxHeartbeats 6400000 in
theorem Next_c6 (hS : SlR w a n R) (hn : n ≤ 9223372036854775807) (q : Int) :
    ∀ k : Nat, csE n R C H = 0 → q = k → k < 7 → C k ≠ 1000000 → rfP n R (k : Int) (C k + 1) = false → Calls Tryd.prog 24 #[sV a n c C H, .int .i64 q] w fun ex w' => ∃ a' c', ex = .returned (.tuple #[sV a' n c' (upd C k (C k + 1)) H, .bool false, .int .i64 0]) ∧ SlR w' a' n R ∧ Below w.heap.size w w' ∧ (∀ g, a' = some g → w.heap.size ≤ g.block) := by
  have b0 : Below w.heap.size w ((w.alloc (.cells (sA a n c C H) 38)).alloc (.cells #[.slice none 0 0, .int .i64 0, .int .i64 0, .int .i64 0, .int .i64 0, .int .i64 0, .int .i64 0, .int .i64 0, .int .i64 0, .int .i64 0, .int .i64 0, .int .i64 0, .int .i64 0, .int .i64 0, .int .i64 0] 38)) := ((Below.refl _ w).alloc (Nat.le_refl _) _).alloc (by simp) _
  have HS := Lib.hid (hS.below b0)
  have HS0 := Lib.hid hS
  have HC := Lib.hid (chkst_ok (c := c) (C := C) (H := H) HS.out hn)
  have HB := Lib.hid b0
  have hnew : StC ((w.alloc (.cells (sA a n c C H) 38)).alloc (.cells #[.slice none 0 0, .int .i64 0, .int .i64 0, .int .i64 0, .int .i64 0, .int .i64 0, .int .i64 0, .int .i64 0, .int .i64 0, .int .i64 0, .int .i64 0, .int .i64 0, .int .i64 0, .int .i64 0, .int .i64 0] 38)) (w.heap.size + 1) none 0 0 Z7 Z7 := by
    have := StC.new (a := none) (n := 0) (c := 0) (C := Z7) (H := Z7) (w.alloc (.cells (sA a n c C H) 38))
    rw [World.size_alloc] at this
    exact this
  have HZ := Lib.hid hnew
  have HN := Lib.hid ((StC.new (a := a) (n := n) (c := c) (C := C) (H := H) w).below (below_box0 _ (.cells #[.slice none 0 0, .int .i64 0, .int .i64 0, .int .i64 0, .int .i64 0, .int .i64 0, .int .i64 0, .int .i64 0, .int .i64 0, .int .i64 0, .int .i64 0, .int .i64 0, .int .i64 0, .int .i64 0, .int .i64 0] 38)))
  clear b0 hS hnew
  intro k hce hq hk hx3 hr
  subst hq
  rw [hce] at HC
  obtain ⟨hp, hall⟩ := csE_zero hce
  obtain ⟨hx0, hx1, hy⟩ := hall k hk
  have hHR := (pE_zero hp).2
  have hn50 := (pE_zero hp).1
  have hle := hit_le n R (k : Int) (C k).toNat
  have HHR := Lib.hid hHR
  have HCE := Lib.hid (show 0 = csE n R C H from hce.symm)
  clear hce hp hall hHR
  obtain ⟨x, hx⟩ : ∃ x, C k = x := ⟨_, rfl⟩
  obtain ⟨y, hyy⟩ : ∃ y, H k = y := ⟨_, rfl⟩
  rw [hx] at hx0 hx1 hy hle hx3 hr ⊢
  rw [hyy] at hy
  have HX := Lib.hid hx
  have HY := Lib.hid hyy
  clear hx hyy
  obtain ⟨D, hD⟩ : ∃ D, upd C k (x + 1) = D := ⟨_, rfl⟩
  rw [hD]
  have HD := Lib.hid hD
  clear hD
  have hy0 : 0 ≤ y := by omega
  have hy1 : y ≤ 1000001 := by omega
  clear hy hle
  have dk0 : decide ((k : Int) < 0) = false := by simp
  have dk7 : decide ((7 : Int) ≤ (k : Int)) = false := by simp; omega
  have dk6 : (decide ((0 : Int) ≤ (k : Int)) && decide ((k : Int) ≤ 6)) = true := by simp; omega
  have dx : (x == (1000000 : Int)) = false := by simpa using hx3
  have hli : (k : Int) < 7 := by omega
  have hk0 : (0 : Int) ≤ (k : Int) := by omega
  clear dk6
  go_enter Tryd.func24, Tryd.ntmps24
  go_wp2_with fail
  refine HC.out.mono ?_
  rintro e1 w1 ⟨rfl, b1⟩
  have HB1 := Lib.hid (below_tr HB.out b1)
  have HS1 := Lib.hid (HS.out.below b1)
  have HN1 := Lib.hid (HN.out.below b1)
  have HZ1 := Lib.hid (HZ.out.below b1)
  have hz1 := HZ1.out.lt
  have k0 := HN1.out.c0
  have kC1 := HN1.out.cC hk
  have kf := HN1.out.fz
  rw [HX.out] at kC1
  clear b1
  go_wp2_with fail
  clear kC1 kf
  refine (clone_ok HS1.out (by omega)).mono ?_
  rintro e1 w2 ⟨a', c', rfl, hn2, b2⟩
  have HB2 := Lib.hid (below_tr HB1.out b2)
  have HN2 := Lib.hid (HN1.out.below b2)
  have HZ2 := Lib.hid (HZ1.out.below b2)
  have hfr : ∀ g, a' = some g → w.heap.size + 2 ≤ g.block := fun g e => by have := hn2.2 g e; omega
  have HS2 := Lib.hid hn2.1
  have HFR := Lib.hid hfr
  have kf2 := HN2.out.fz
  have kC := HN2.out.cC hk
  rw [HX.out] at kC
  clear b2 hn2 k0 hfr hz1
  have k02 := HN2.out.c0
  go_wp2_with fail
  have HN3 := Lib.hid (HN2.out.set0 (a' := a') (n' := n) (c' := c'))
  have HZ3 := Lib.hid (HZ2.out.other (B' := w.heap.size) (by omega) 0 (.slice a' n c'))
  have HS3 := Lib.hid (HS2.out.set_other (B := w.heap.size) (fun g e => by have := HFR.out g e; omega) 0 (.slice a' n c'))
  have HB3 := Lib.hid (HB2.out.setCell (p := ⟨w.heap.size, 0, none⟩) (Nat.le_refl _) (.slice a' n c'))
  have HN4 := Lib.hid (HN3.out.setC hk (x + 1))
  have HZ4 := Lib.hid (HZ3.out.other (B' := w.heap.size) (by omega) (1 + k) (.int .i64 (x + 1)))
  have HS4 := Lib.hid (HS3.out.set_other (B := w.heap.size) (fun g e => by have := HFR.out g e; omega) (1 + k) (.int .i64 (x + 1)))
  have HB4 := Lib.hid (HB3.out.setCell (p := ⟨w.heap.size, 1 + k, none⟩) (Nat.le_refl _) (.int .i64 (x + 1)))
  obtain ⟨V2, hV2⟩ : ∃ V2, (w2.setCell ⟨w.heap.size, 0, none⟩ (.slice a' n c')).setCell ⟨w.heap.size, 1 + k, none⟩ (.int .i64 (x + 1)) = V2 := ⟨_, rfl⟩
  rw [hV2] at HN4 HZ4 HB4 HS4 ⊢
  clear hV2 kC kf2 k02
  have k0 := HN4.out.c0
  have kC := HN4.out.cC hk
  rw [upd_same] at kC
  rw [HD.out] at HN4
  have HK2 : Hid (∀ w', Below V2.heap.size V2 w' → w'.cell? ⟨w.heap.size, 0, none⟩ = some (.slice a' n c') ∧ w'.cell? ⟨w.heap.size, 1 + k, none⟩ = some (.int .i64 (x + 1))) := Lib.hid (fun w' h => ⟨cell_later h k0, cell_later h kC⟩)
  have HCh := Lib.hid (fun W' (h : Below V2.heap.size V2 W') => refused_ok (c := c') (HS4.out.below h) (by omega) HHR.out (k : Int) (x + 1) (by omega) (by omega))
  rw [hr] at HCh
  clear hr
  go_region_held3 (fun w' => Below V2.heap.size V2 w' ∧ w'.cell? ⟨w.heap.size, 0, none⟩ = some (.slice a' n c') ∧ w'.cell? ⟨w.heap.size, 1 + k, none⟩ = some (.int .i64 (x + 1)))
    ((refine keepN HK2 ?_; first | exact (Below.refl _ _).drew | exact And.left (by assumption) | exact bel_call (by assumption) (by assumption)))
    ((go_at_call 36; (refine (HCh.out _ (And.left (by assumption))).mono ?_); rintro e1 w3 ⟨rfl, b3⟩; have g3 := Lib.hid (bel_call (by assumption) b3)))
  all_goals
    have HN5 := Lib.hid (HN4.out.below g3.out)
    have HZ5 := Lib.hid (HZ4.out.below g3.out)
    have HS5 := Lib.hid (HS4.out.below g3.out)
    have HB5 := Lib.hid (HB4.out.trans (g3.out.mono HB4.out.size))
    have HN6 := Lib.hid HN5.out
    have HZ6 := Lib.hid HZ5.out
    have HS6 := Lib.hid HS5.out
    have HB6 := Lib.hid HB5.out
    obtain ⟨s0, s1, s2, s3, s4, s5, s6, s7, s8, s9, s10, s11, s12, s13, s14⟩ := HN6.out.cells
    obtain ⟨r0, r1, r2, r3, r4, r5, r6, r7, r8, r9, r10, r11, r12, r13, r14⟩ := HZ6.out.cells
    have hf := HZ6.out.fz
    go_wp2
    (try simp only [Exit.inBlock, Exit.then])
    refine bodyPost_ret (v := .tuple #[sV a' n c' D H, .bool false, .int .i64 0]) ?hres rfl ?_
    case hres => simp [results, Tryd.results24, go_sem, s0, s1, s2, s3, s4, s5, s6, s7, s8, s9, s10, s11, s12, s13, s14, r0, r1, r2, r3, r4, r5, r6, r7, r8, r9, r10, r11, r12, r13, r14]
    exact ⟨a', c', rfl, slr15 HS6.out (fun g e => by have := HFR.out g e; omega) _ _ _ _ _ _ _ _ _ _ _ _ _ _ _, below15 HB6.out (by simp) _ _ _ _ _ _ _ _ _ _ _ _ _ _ _, fun g e => by have := HFR.out g e; omega⟩
theorem Next_ok (hS : SlR w a n R) (hn : n ≤ 9223372036854775807) (q : Int) :
    Calls Tryd.prog 24 #[sV a n c C H, .int .i64 q] w fun e w' => ∃ a' c', e = .returned (.tuple #[sV a' (nxN n R C H q) c' (nxC n R C H q) (nxH n R C H q), .bool (nxB n R C H q), .int .i64 (nxE n R C H q)]) ∧ SlR w' a' (nxN n R C H q) R ∧ Below w.heap.size w w' ∧ (∀ g, a' = some g → w.heap.size ≤ g.block) := by
  refine nx_cases' (P := fun N D J b e => Calls Tryd.prog 24 #[sV a n c C H, .int .i64 q] w fun ex w' => ∃ a' c', ex = .returned (.tuple #[sV a' N c' D J, .bool b, .int .i64 e]) ∧ SlR w' a' N R ∧ Below w.heap.size w w' ∧ (∀ g, a' = some g → w.heap.size ≤ g.block)) n R C H q (Next_c1 hS hn q) (Next_c2 hS hn q) (Next_c3 hS hn q) (Next_c4 hS hn q) (Next_c5 hS hn q) (Next_c6 hS hn q)
end
end Go.Proofs.YtpjhedkloljpjaaDoorRR
