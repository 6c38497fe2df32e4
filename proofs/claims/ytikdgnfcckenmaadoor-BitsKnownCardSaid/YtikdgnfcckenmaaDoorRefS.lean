/- The reference for bits: Runs, SameRuns. -/
import Derived.Test.YtikdgnfcckenmaaDoorRefR
namespace Go.Proofs.YtikdgnfcckenmaaDoor
open Go.RowKit Go.Sort Go.Joins
attribute [local go_sem] cell_grow frozen_grow size_grow

set_option maxRecDepth 100000 in
set_option maxHeartbeats 1600000 in
theorem rRuns_ok (N : Int) (on : Bool) (a : Option Addr) (len cap : Nat) (ws : List Nat) (w : World) (hs : SlK .u64 w a len ws) (hw : ∀ x ∈ ws, x < 18446744073709551616) (hlen : len ≤ 9223372036854775807) :
    Calls Tryd.prog 25 #[.agg #[.int .i64 N, .slice a len cap], .bool on] w fun e w' => ∃ v, e = .returned (.tuple #[v, .int .i64 (chk N ws)]) ∧ RunsR w' v (runsV N ws on) ∧ Below w.heap.size w w' := by
  by_cases hc : chk N ws = 0
  · obtain ⟨hN0, hN, hl, -⟩ := chk_zero hc
    obtain ⟨n, rfl⟩ := Int.eq_ofNat_of_zero_le hN0
    have E1 : runsV n ws on = runsL (fun i => bat ws i == on) n := if_pos hc
    rw [E1, hc]
    have HC := Lib.hid hc
    have hL := hs.length
    have HL : Hid (len = (n + 63) / 64) := Lib.hid (by omega)
    clear hc hl hL E1
    go_enter Tryd.func25, Tryd.ntmps25
    go_wp2_with fail
    refine (r_check (RAt.new hs _) hw hlen).mono ?_
    rintro e w1 ⟨rfl, r1⟩
    rw [HC.out]
    have R1 := Lib.hid r1
    have c0 := r1.b.n
    have c1 := r1.b.s
    clear r1
    go_wp2_with fail
    refine (rList_ok n a len cap ws _ R1.out.s hw (by omega) HL.out).mono ?_
    rintro e w2 ⟨v, rfl, h1, b2⟩
    obtain ⟨va, vc, rfl⟩ := own_slice h1
    have R2 := Lib.hid (R1.out.below b2)
    have HB := Lib.hid (SlB.of_own h1)
    clear h1 b2
    go_wp2_with fail
    refine (rruns_ok n (bat ws) on va vc _ HB.out (by omega)).mono ?_
    rintro e w3 ⟨v, rfl, h1, b3⟩
    have H1 := Lib.hid (RunsR.of_own h1)
    have R3 := Lib.hid (R2.out.below b3)
    clear h1 b3
    go_wp2
    go_ret2
    exact ⟨v, rfl, H1.out, R3.out.k⟩
  · have hcb := bne0_true hc
    have E1 : runsV N ws on = [] := if_neg hc
    rw [E1]
    clear hc E1
    go_enter Tryd.func25, Tryd.ntmps25
    go_wp2_with fail
    refine (r_check (RAt.new hs _) hw hlen).mono ?_
    rintro e w1 ⟨rfl, r1⟩
    have R1 := Lib.hid r1
    clear r1
    go_wp2
    go_ret2
    exact ⟨_, rfl, RunsR.nil _, R1.out.k⟩

set_option maxRecDepth 100000 in
set_option maxHeartbeats 1600000 in
theorem rSameRuns_ok {u v : Value} {L : List (Nat × Nat)} (w : World) (hu : RunsR w u L) (hv : RunsR w v L) (hL : L.length ≤ 100000) :
    Calls Tryd.prog 26 #[u, v] w fun e w' => e = .returned (.bool true) ∧ Below w.heap.size w w' := by
  obtain ⟨a, ca, rfl, ha⟩ := hu
  obtain ⟨b, cb, rfl, hb⟩ := hv
  obtain ⟨len, hlen⟩ : ∃ len, L.length = len := ⟨_, rfl⟩
  rw [hlen] at ha hb hL ⊢
  have HA := Lib.hid ha
  have HB := Lib.hid hb
  clear ha hb hlen
  go_enter Tryd.func26, Tryd.ntmps26
  go_wp2
  go_loopw [5] (fun i wr => ∃ k : Nat, i = .int .i64 k ∧ k ≤ len ∧ Hid (∃ d, wr = w.drewN d)) (fun i _ => len - (intOf i).toNat)
  case atStart => exact ⟨0, rfl, Nat.zero_le _, Lib.hid ⟨0, rfl⟩⟩
  case round =>
    obtain ⟨k, rfl, hk, HD⟩ := hrel
    obtain ⟨d, hd⟩ := HD.out
    have HD1 := Lib.hid hd
    by_cases hlt : k < len
    · have ha := HA.out.below (below_draw w d)
      have hb := HB.out.below (below_draw w d)
      rw [← hd] at ha hb
      obtain ⟨ab, ao, rfl, hca⟩ := ha.cells.resolve_left (by omega)
      obtain ⟨bb, bo, rfl, hcb⟩ := hb.cells.resolve_left (by omega)
      obtain ⟨a1, a2⟩ := hca k hlt
      obtain ⟨b1, b2⟩ := hcb k hlt
      have hlti : (k : Int) < (len : Int) := by omega
      have hk0 : (0 : Int) ≤ (k : Int) := by omega
      clear hca hcb ha hb hd
      go_wp2
      go_quiet (fail)
      go_wp2
      go_roundw
      case rel => exact ⟨k + 1, by go_num, by omega, Lib.hid (drewN_of HD1.out _)⟩
      case measure => simp [intOf]; omega
    · clear hd
      go_wp2
      go_ret
      exact ⟨rfl, by rw [HD1.out]; exact below_draw w d⟩

theorem runsV_le (N : Int) (ws : List Nat) (on : Bool) : (runsV N ws on).length ≤ 100000 := by
  unfold runsV
  split
  · rename_i h
    obtain ⟨_, h2, _, _⟩ := chk_zero h
    have := runsL_length (look ws on) N.toNat
    omega
  · simp
end Go.Proofs.YtikdgnfcckenmaaDoor
