/- Package bits: Select. -/
import Derived.Test.YtikdgnfcckenmaaDoorBitsF
import Derived.Test.YtikdgnfcckenmaaDoorPlainS
import Derived.Lib.SmallJoins
namespace Go.Proofs.YtikdgnfcckenmaaDoor
open Go.RowKit Go.Sort
attribute [local go_sem] cell_grow frozen_grow size_grow

theorem below_drew {n₀ : Nat} {w w' : World} (h : Below n₀ w w') (m : Nat) : Below n₀ w (w'.drewN m) := ⟨h.os, h.tape, h.output, h.size, h.block⟩
/-- what Select returns, where it has looked -/
def selOut (n i : Nat) : Value := if i < n then .tuple #[.int .i64 (i : Nat), .int .i64 0] else .tuple #[.int .i64 0, .int .i64 4]
set_option maxRecDepth 100000 in
set_option maxHeartbeats 1600000 in
theorem bSelect_ok (n k : Nat) (on : Bool) (a : Option Addr) (len cap : Nat) (ws : List Nat) (w : World) (hT : Tab w) (hs : SlK .u64 w a len ws) (hw : ∀ x ∈ ws, x < 18446744073709551616) (hc : chk n ws = 0) (hk : k ≤ 9223372036854775807) :
    Calls Tryd.prog 27 #[.agg #[.int .i64 n, .slice a len cap], .int .i64 k, .bool on] w fun e w' =>
      e = .returned (selOut n (selP (look ws on) n k)) ∧ Below w.heap.size w w' := by
  obtain ⟨hn0, hn1, hn2, -⟩ := chk_zero hc
  have hL := hs.length
  have hlen : len = (n + 63) / 64 := by omega
  have hlu : len ≤ 64 := by omega
  have HL := Lib.hid hlen
  have HC := Lib.hid hc
  have HL2 := Lib.hid hL
  have HN := Lib.hid hn2
  clear hlen hc hL hn2
  have hz1 : decide ((k : Int) < 0) = false := by simp
  go_enter Tryd.func27, Tryd.ntmps27
  go_wp2_with (
    go_at_call 36
    refine (bCheck_ok (n : Int) a len cap ws _ (hs.alloc _) hw (by omega)).mono ?_
    rintro e w1 ⟨rfl, hb1⟩
    rw [HC.out]
    have k0 : w1.cell? ⟨w.heap.size, 0, none⟩ = some (.int .i64 n) := (hb1.cell (p := ⟨w.heap.size, 0, none⟩) (by simp [go_sem]; try omega)).trans (by simp [go_sem])
    have k1 : w1.cell? ⟨w.heap.size, 1, none⟩ = some (.slice a len cap) := (hb1.cell (p := ⟨w.heap.size, 1, none⟩) (by simp [go_sem]; try omega)).trans (by simp [go_sem])
    have hB : Below w.heap.size w w1 := (below_box0 _ _).trans (hb1.mono (by simp))
    clear hb1)
  have hB1 : AtBits w1 w.heap.size n a len cap := ⟨k0, k1⟩
  have hs1 : SlK .u64 w1 a len ws := hs.below hB
  have hT1 : Tab w1 := hT.below hB
  go_loopw [1, 22] (fun kk i wr => ∃ v r : Nat, i = .int .i64 v ∧ kk = .int .i64 r ∧ v ≤ len ∧ Hid (cnt (look ws on) 0 (min n (64 * v)) + r = k) ∧ r ≤ 9223372036854775807 ∧ Hid (∃ m, wr = w1.drewN m)) (fun _ i _ => len - (intOf i).toNat)
  case atStart => exact ⟨0, k, rfl, rfl, Nat.zero_le _, Lib.hid (by simp [cnt]), hk, Lib.hid ⟨0, rfl⟩⟩
  case round =>
    obtain ⟨v, r, rfl, rfl, hv, HI, hr, HM⟩ := hrel
    obtain ⟨m, hm⟩ := HM.out
    have hTr : Tab wr := by rw [hm]; exact hT1
    have hBr : AtBits wr w.heap.size n a len cap := by rw [hm]; exact ⟨k0, k1⟩
    have hsr : SlK .u64 wr a len ws := by rw [hm]; exact ⟨hs1.length, hs1.cells⟩
    have hm' := Lib.hid hm
    clear hm
    by_cases hlt : v < len
    · have hkn : 64 * v < n := by have := HL.out; omega
      have hmin : min n (64 * v) = 64 * v := by omega
      obtain ⟨X, hXd⟩ : ∃ X : Nat, wrd (ws.getD v 0) on (min 64 (n - 64 * v)) = X := ⟨_, rfl⟩
      have hXr : X < 18446744073709551616 := by rw [← hXd]; exact wrd_lt _ _ _
      have HX := Lib.hid hXd
      clear hXd
      have hp64 := pop_le X
      by_cases hge : pop X ≤ r
      · have hd : decide (pop X ≤ r) = true := by simpa using hge
        go_wp2_with (first
          | (go_at_call 59; refine (bword_ok w.heap.size n v on a len cap ws _ hBr hsr hw hlt (by omega) (by omega)).mono ?_; rintro e w2 ⟨rfl, m1, rfl⟩; rw [HX.out])
          | (go_at_call 60; refine (ones_ok X _ hXr).mono ?_; rintro e w2 ⟨rfl, rfl⟩))
        refine ⟨⟨v + 1, r - pop X, by simp, by congr 1; omega, by omega, Lib.hid ?_, by omega, Lib.hid (drewN_of hm'.out _)⟩, by simp [intOf]; omega⟩
        have e1 := sel_pass (on := on) hw (Nat.le_of_lt hkn)
        rw [HX.out] at e1
        have e2 := HI.out
        rw [hmin] at e2
        rw [e1]; omega
      · have hd : decide (pop X ≤ r) = false := by simpa using hge
        go_wp2_with (first
          | (go_at_call 59; refine (bword_ok w.heap.size n v on a len cap ws _ hBr hsr hw hlt (by omega) (by omega)).mono ?_; rintro e w2 ⟨rfl, m1, rfl⟩; rw [HX.out])
          | (go_at_call 60; refine (ones_ok X _ hXr).mono ?_; rintro e w2 ⟨rfl, rfl⟩))
        go_loopw [1, 10] (fun kk x wr2 => ∃ j y : Nat, kk = .int .i64 ((r - j : Nat) : Int) ∧ x = .int .u64 y ∧ j ≤ r ∧ Hid (Cleared X j y) ∧ Hid (∃ m, wr2 = w1.drewN m)) (fun kk _ _ => (intOf kk).toNat)
        case atStart => exact ⟨0, X, by simp, rfl, Nat.zero_le _, Lib.hid (Cleared.zero hXr), Lib.hid (drewN_of hm'.out _)⟩
        case round =>
          obtain ⟨j, y, rfl, rfl, hj, HY, HM2⟩ := hrel
          have hyn : y ≠ 0 := HY.out.ne (by omega)
          have hyr := HY.out.1
          obtain ⟨q, hq⟩ : ∃ q, r - j = q := ⟨_, rfl⟩
          have HQ := Lib.hid hq
          rw [hq]
          by_cases hq0 : 0 < q
          · have hd2 : decide (0 < q) = true := by simpa using hq0
            have hw1 : IntKind.u64.wrap ((y : Int) - 1) = ((y - 1 : Nat) : Int) := by
              rw [show (y : Int) - 1 = ((y - 1 : Nat) : Int) by omega]
              simp only [IntKind.wrap, IntKind.bits, IntKind.signed]
              simp
              omega
            have hX2 := u64_and_nat y (y - 1) hyr (by omega)
            go_wp2
            refine ⟨⟨j + 1, y &&& (y - 1), by congr 1; have := HQ.out; omega, rfl, by have := HQ.out; omega, Lib.hid (HY.out.step (by omega)), HM2⟩, by simp [intOf]; omega⟩
          · have hd2 : decide (0 < q) = false := by simpa using hq0
            go_wp2_with (go_at_call 61; refine (tz_ok y _ ?_ hyn hyr).mono ?_; obtain ⟨m2, hm2⟩ := HM2.out; rw [hm2]; exact hT1; rintro e w2 ⟨rfl, rfl⟩)
            go_ret2
            have hjr : j = r := by have := HQ.out; omega
            have hXX := HX.out
            have e2 := HI.out
            rw [hmin] at e2
            have hkr : k - cnt (look ws on) 0 (64 * v) = r := by omega
            obtain ⟨s1, s2⟩ := sel_word (on := on) (n := n) (w := v) (k := k) (y := y) hw (by omega) (by rw [hkr, hXX]; omega) (by rw [hkr, hXX, ← hjr]; exact HY.out)
            refine ⟨?_, by obtain ⟨m2, hm2⟩ := HM2.out; rw [hm2]; exact below_drew hB m2⟩
            unfold selOut
            rw [s1, if_pos s2, IntWalk.wrap64_in _ (by omega), show (v : Int) * 64 + (Lib.ctz 64 y : Nat) = ((64 * v + Lib.ctz 64 y : Nat) : Int) by omega]
            rfl
    · go_wp2
      go_ret2
      obtain ⟨m, hm⟩ := HM.out
      refine ⟨?_, by rw [hm]; exact below_drew hB m⟩
      have e1 := HI.out
      rw [show min n (64 * v) = n by have := HL.out; omega] at e1
      rw [selP_none (by omega)]
      unfold selOut
      rw [if_neg (Nat.lt_irrefl _)]
      rfl
end Go.Proofs.YtikdgnfcckenmaaDoor
