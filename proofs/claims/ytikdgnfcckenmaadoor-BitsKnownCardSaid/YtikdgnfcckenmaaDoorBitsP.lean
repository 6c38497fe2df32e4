/- Package bits: New, Set, whatever they are handed. -/
import Derived.Test.YtikdgnfcckenmaaDoorRefE
import Derived.Test.YtikdgnfcckenmaaDoorBitsO
namespace Go.Proofs.YtikdgnfcckenmaaDoor
open Go.RowKit Go.Sort Go.Joins
attribute [local go_sem] cell_grow frozen_grow size_grow

theorem bNew_all (N : Int) (on : Bool) (w : World) :
    Calls Tryd.prog 33 #[.int .i64 N, .bool on] w fun e w' => ∃ v, e = .returned (.tuple #[v, .int .i64 (newE N)]) ∧ BtR w' v (newN N) (newW N on) ∧ Below w.heap.size w w' := by
  by_cases hN : N < 0 ∨ 4096 < N
  · have E : newE N = 7 := if_pos hN
    have F : newN N = 0 := if_pos hN
    have G : newW N on = [] := if_pos hN
    rw [E, F, G]
    exact (bNew_bad N on w hN).mono fun e w' h => ⟨_, h.1, BtR.zero _, h.2⟩
  · have E : newE N = 0 := if_neg hN
    have F : newN N = N := if_neg hN
    have G : newW N on = pack (fun i => on && decide (i < N.toNat)) ((N.toNat + 63) / 64) := if_neg hN
    rw [E, F, G]
    obtain ⟨n, rfl⟩ := Int.eq_ofNat_of_zero_le (by omega : 0 ≤ N)
    rw [Int.toNat_natCast]
    refine (bNew_ok n on w (by omega)).mono fun e w' h => ?_
    obtain ⟨a, cap, h1, h2, h3⟩ := h
    exact ⟨_, h1, ⟨a, cap, by rw [pack_length], by rw [pack_length]; exact SlK.of_own h2⟩, h3⟩

set_option maxRecDepth 100000 in
set_option maxHeartbeats 1600000 in
theorem bSet_all (N f t : Int) (on : Bool) (a : Option Addr) (len cap : Nat) (ws : List Nat) (w : World) (hs : SlK .u64 w a len ws) (hw : ∀ x ∈ ws, x < 18446744073709551616) (hlen : len ≤ 9223372036854775807) :
    Calls Tryd.prog 38 #[.agg #[.int .i64 N, .slice a len cap], .int .i64 f, .int .i64 t, .bool on] w fun e w' => ∃ v, e = .returned (.tuple #[v, .int .i64 (prt N ws f t)]) ∧ BtR w' v (setN N ws f t) (setW N ws f t on) ∧ Below w.heap.size w w' := by
  by_cases hp : prt N ws f t = 0
  · obtain ⟨hc, hf, hft, htN⟩ := prt_zero hp
    obtain ⟨hN0, hN, hl, _⟩ := chk_zero hc
    obtain ⟨f, rfl⟩ := Int.eq_ofNat_of_zero_le hf
    obtain ⟨t, rfl⟩ := Int.eq_ofNat_of_zero_le (by omega : 0 ≤ t)
    obtain ⟨n, rfl⟩ := Int.eq_ofNat_of_zero_le hN0
    have E1 : setN n ws f t = n := if_pos hp
    have E2 : setW n ws f t on = pack (filled (bat ws) f t on) ws.length := if_pos hp
    rw [E1, E2, hp]
    have hL := hs.length
    refine (bSet_ok n f t on a len cap ws w hs hw hc (by omega) (by omega)).mono fun e w' h => ?_
    obtain ⟨a', cap', h1, h2, h3⟩ := h
    subst hL
    exact ⟨_, h1, ⟨a', cap', by rw [pack_length], by rw [pack_length]; exact SlK.of_own h2⟩, h3⟩
  · have hpb := bne0_true hp
    have E1 : setN N ws f t = 0 := if_neg hp
    have E2 : setW N ws f t on = [] := if_neg hp
    rw [E1, E2]
    have hz0 : ZAt (w.heap.size + 1) ((w.alloc (.cells #[.int .i64 N, .slice a len cap] 24)).alloc (.cells #[.int .i64 0, .slice none 0 0] 24)) := by
      have := ZAt.new (w.alloc (.cells #[.int .i64 N, .slice a len cap] 24)) 24
      rwa [World.size_alloc] at this
    have HZ0 := Lib.hid hz0
    clear hp E1 E2 hz0
    have P1 := Lib.hid (bpart_ok w.heap.size N f t a len cap ws _ ((AtBits.new w N a len cap 24).below (below_box0 _ (.cells #[.int .i64 0, .slice none 0 0] 24))) ((hs.alloc _).alloc _) hw hlen)
    go_enter Tryd.func38, Tryd.ntmps38
    go_wp2_with fail
    refine P1.out.mono ?_
    rintro e w1 ⟨rfl, b1⟩
    have Z1 := HZ0.out.below b1
    have r0 := Z1.r0
    have r1 := Z1.r1
    have f0 := Z1.f0
    have f1 := Z1.f1
    have HB1 := Lib.hid ((below_alloc2 w _ _).trans (b1.mono (by simp; omega)))
    clear b1 Z1
    go_wp2
    exact bodyPost_ret (v := .tuple #[.agg #[.int .i64 0, .slice none 0 0], .int .i64 (prt N ws f t)]) (by simp [results, Tryd.results38, go_sem, r0, r1]) rfl ⟨_, rfl, BtR.zero _, (HB1.out.setCell (p := ⟨w.heap.size + 1, 0, none⟩) (by simp) _).setCell (p := ⟨w.heap.size + 1, 1, none⟩) (by simp) _⟩
end Go.Proofs.YtikdgnfcckenmaaDoor
