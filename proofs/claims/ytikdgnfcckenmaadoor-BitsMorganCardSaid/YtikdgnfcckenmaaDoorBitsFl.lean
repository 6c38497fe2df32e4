/- Package bits: Flip. -/
import Derived.Test.YtikdgnfcckenmaaDoorBitsZ
namespace Go.Proofs.YtikdgnfcckenmaaDoor
open Go.RowKit Go.Sort Go.Joins
attribute [local go_sem] cell_grow frozen_grow size_grow

theorem newW_nat (n : Nat) (on : Bool) (hn : n ≤ 4096) : newW n on = pack (fun i => on && decide (i < n)) ((n + 63) / 64) := by
  unfold newW; rw [if_neg (by omega), Int.toNat_natCast]
theorem chk_all (n : Nat) (on : Bool) (hn : n ≤ 4096) : chk n (newW n on) = 0 := by
  rw [newW_nat n on hn]
  refine chk_ok (by omega) (by rw [pack_length]; omega) fun i h1 h2 => ?_
  rw [pack_length] at h1
  rw [Int.toNat_natCast] at h2
  rw [pack_bat _ _ _ h1]
  simp; omega
theorem newW_lt (N : Int) (on : Bool) : ∀ x ∈ newW N on, x < 18446744073709551616 := by
  unfold newW
  split
  · intro x hx; simp at hx
  · exact pack_lt _ _
theorem both_all (n : Nat) (ws : List Nat) (hn : n ≤ 4096) : bothE n (newW n true) n ws = chk n ws := by
  unfold bothE
  rw [if_neg (by rw [chk_all n true hn]; simp)]
  by_cases h : chk n ws = 0
  · rw [if_neg (by simpa using h), if_neg (by simp), h]
  · rw [if_pos h]
theorem flip_join (n : Nat) (ws : List Nat) (hn : n ≤ 4096) (hw : ∀ x ∈ ws, x < 18446744073709551616) : zipW (fun x y => x &&& (18446744073709551615 - y)) n (newW n true) n ws = flipW n ws := by
  rw [zipW_join (ob := fun x y => x && !y) (fun x y j hx hy hj => less_bit x y j hy hj) opFlip.1 (newW_lt _ _) hw]
  unfold joinW flipW
  rw [both_all n ws hn]
  by_cases h : chk n ws = 0
  · rw [if_pos h, if_pos h]
    obtain ⟨_, _, hl, _⟩ := chk_zero h
    rw [newW_nat n true hn, pack_length, Int.toNat_natCast, show ws.length = (n + 63) / 64 by omega]
    refine pack_congr fun i hi => ?_
    rw [pack_bat _ _ _ hi]
    simp [Bool.and_comm]
  · rw [if_neg h, if_neg h]

theorem ZAt.put {R : Nat} {W : World} (h : ZAt R W) : ZAt R ((W.setCell ⟨R, 0, none⟩ (.int .i64 0)).setCell ⟨R, 1, none⟩ (.slice none 0 0)) :=
  have e0 := h.r0
  have e1 := h.r1
  have g0 := h.f0
  have g1 := h.f1
  ⟨by simp [go_sem, e0, e1], by simp [go_sem, e0, e1], by simp [go_sem, g0], by simp [go_sem, g1]⟩
set_option maxRecDepth 100000 in
set_option maxHeartbeats 1600000 in
theorem bFlip_ok (N : Int) (a : Option Addr) (len cap : Nat) (ws : List Nat) (w : World) (hs : SlK .u64 w a len ws) (hw : ∀ x ∈ ws, x < 18446744073709551616) (hlen : len ≤ 9223372036854775807) :
    Calls Tryd.prog 47 #[.agg #[.int .i64 N, .slice a len cap]] w fun e w' => ∃ v, e = .returned (.tuple #[v, .int .i64 (chk N ws)]) ∧ BtR w' v (flipN N ws) (flipW N ws) ∧ Below w.heap.size w w' := by
  have hz0 : ZAt (w.heap.size + 1) ((w.alloc (.cells #[.int .i64 N, .slice a len cap] 24)).alloc (.cells #[.int .i64 0, .slice none 0 0] 24)) := by
    have := ZAt.new (w.alloc (.cells #[.int .i64 N, .slice a len cap] 24)) 24
    rwa [World.size_alloc] at this
  have HZ0 := Lib.hid hz0
  have R0 := Lib.hid ((RAt.new (N := N) (cap := cap) hs 24).below (below_box0 _ (.cells #[.int .i64 0, .slice none 0 0] 24)))
  clear hz0
  by_cases hN : N < 0 ∨ 4096 < N
  · have E0 : newE N = 7 := if_pos hN
    have E1 : chk N ws = 7 := chk_range hN
    have E2 : flipN N ws = 0 := by unfold flipN; rw [if_neg (by omega)]
    have E3 : flipW N ws = [] := by unfold flipW; rw [if_neg (by omega)]
    rw [E1, E2, E3]
    have H0 := Lib.hid E0
    clear E0 E1 E2 E3 hN
    go_enter Tryd.func47, Tryd.ntmps47
    go_wp2_with fail
    refine (bNew_all N true _).mono ?_
    rintro e w1 ⟨_, rfl, ⟨a1, k1, rfl, q1⟩, b1⟩
    rw [H0.out]
    have Z1 := (HZ0.out.below b1).put.below (below_box0 _ (.cells #[.int .i64 (newN N), .slice a1 (newW N true).length k1] 24))
    have ZZ := Lib.hid Z1
    have hz1 : w.heap.size + 1 < w1.heap.size := (HZ0.out.below b1).lt
    have r0 := (HZ0.out.below b1).r0
    have r1 := (HZ0.out.below b1).r1
    have f0 := (HZ0.out.below b1).f0
    have f1 := (HZ0.out.below b1).f1
    have HB1 := Lib.hid (R0.out.below b1).k
    clear b1 q1 Z1
    go_wp2
    have q0 := ZZ.out.r0
    have q1 := ZZ.out.r1
    exact bodyPost_ret (v := .tuple #[.agg #[.int .i64 0, .slice none 0 0], .int .i64 7]) (by simp [results, Tryd.results47, go_sem, q0, q1]) rfl ⟨_, rfl, BtR.zero _, ((HB1.out.setCell (p := ⟨w.heap.size + 1, 0, none⟩) (by simp) _).setCell (p := ⟨w.heap.size + 1, 1, none⟩) (by simp) _).alloc (by simp [World.setCell]; omega) _⟩
  · obtain ⟨n, rfl⟩ := Int.eq_ofNat_of_zero_le (by omega : 0 ≤ N)
    have hn : n ≤ 4096 := by omega
    have E0 : newE n = 0 := if_neg hN
    have E1 : newN n = n := if_neg hN
    have H0 := Lib.hid E0
    have H1 := Lib.hid E1
    have HE := Lib.hid (both_all n ws hn)
    have HJ := Lib.hid (flip_join n ws hn hw)
    have HF : Hid (zipN n (newW n true) n ws = flipN n ws) := Lib.hid (by unfold zipN flipN; rw [both_all n ws hn])
    clear E0 E1 hN
    go_enter Tryd.func47, Tryd.ntmps47
    go_wp2_with fail
    refine (bNew_all n true _).mono ?_
    rintro e w1 ⟨_, rfl, ⟨a1, k1, rfl, q1⟩, b1⟩
    rw [H0.out, H1.out]
    have hz1 : w.heap.size + 1 < w1.heap.size := (HZ0.out.below b1).lt
    have hz0 : w.heap.size < w1.heap.size := by omega
    have PA := Lib.hid (AtBits.new w1 n a1 (newW n true).length k1 24)
    have PR := Lib.hid ((R0.out.below b1).below (below_box0 _ (.cells #[.int .i64 n, .slice a1 (newW n true).length k1] 24)))
    have PS := Lib.hid (q1.alloc (.cells #[.int .i64 n, .slice a1 (newW n true).length k1] 24))
    have PZ := Lib.hid ((HZ0.out.below b1).below (below_box0 _ (.cells #[.int .i64 n, .slice a1 (newW n true).length k1] 24)))
    clear b1 q1
    go_wp2_with fail
    refine (bjoinFlip _ (Lib.hid opFlip) w1.heap.size w.heap.size n a1 _ k1 (newW n true) n a len cap ws _ PA.out PR.out.b PS.out PR.out.s (newW_lt _ _) hw (by rw [newW_nat n true hn, pack_length]; omega) hlen).mono ?_
    rintro e w2 ⟨v, rfl, ⟨a', cap', rfl, hk⟩, b2⟩
    have Z2 := PZ.out.below b2
    have r0 := Z2.r0
    have r1 := Z2.r1
    have f0 := Z2.f0
    have f1 := Z2.f1
    have HK := Lib.hid (hk.put r0 r1 (.int .i64 (zipN n (newW n true) n ws)) (.slice a' (zipW (fun x y => x &&& (18446744073709551615 - y)) n (newW n true) n ws).length cap'))
    have HB2 := Lib.hid (PR.out.below b2).k
    clear b2 Z2 hk
    go_wp2
    refine bodyPost_ret (v := .tuple #[.agg #[.int .i64 (zipN n (newW n true) n ws), .slice a' (zipW (fun x y => x &&& (18446744073709551615 - y)) n (newW n true) n ws).length cap'], .int .i64 (bothE n (newW n true) n ws)]) (by simp [results, Tryd.results47, go_sem, r0, r1]) rfl ⟨_, by rw [HE.out], ?_, (HB2.out.setCell (p := ⟨w.heap.size + 1, 0, none⟩) (by simp) _).setCell (p := ⟨w.heap.size + 1, 1, none⟩) (by simp) _⟩
    rw [← HF.out, ← HJ.out]
    exact ⟨a', cap', rfl, HK.out⟩
end Go.Proofs.YtikdgnfcckenmaaDoor
