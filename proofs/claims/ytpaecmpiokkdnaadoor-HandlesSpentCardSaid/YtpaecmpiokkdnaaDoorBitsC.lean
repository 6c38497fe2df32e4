/- Package bits: count. -/
import Derived.Test.YtpaecmpiokkdnaaDoorBitsB
namespace Go.Proofs.YtpaecmpiokkdnaaDoor
open Go.RowKit Go.Sort
attribute [local go_sem] cell_grow frozen_grow size_grow

theorem lo_nat (f k : Nat) : (if (k : Int) * 64 < (f : Int) then (f : Int) - (k : Int) * 64 else 0).toNat = f - 64 * k := by split <;> omega
theorem hi_nat (t k : Nat) : (if (t : Int) - (k : Int) * 64 < 64 then (t : Int) - (k : Int) * 64 else 64).toNat = min 64 (t - 64 * k) := by split <;> omega
theorem count_round (ws : List Nat) (f t k : Nat) (h : 64 * k < t) (hf : f / 64 ≤ k) (ht : t ≤ 4096) (hx : ws[k]?.getD 0 < 18446744073709551616) :
    wrap64 (↑(cnt (bat ws) f (min t (64 * k))) + ↑(pop (bits BinOp.and IntKind.u64 ↑(ws[k]?.getD 0)
      ↑(mk (if (k : Int) * 64 < (f : Int) then (f : Int) - (k : Int) * 64 else 0).toNat (if (t : Int) - (k : Int) * 64 < 64 then (t : Int) - (k : Int) * 64 else 64).toNat)).toNat)) =
    ((cnt (bat ws) f (min t (64 * (k + 1))) : Nat) : Int) := by
  rw [count_step ws h hf, lo_nat, hi_nat, u64_and_nat _ _ hx (mk_lt _ _), List.getD_eq_getElem?_getD, Int.toNat_natCast]
  have h1 := cnt_le (bat ws) f (min t (64 * k))
  have h2 := pop_le (ws[k]?.getD 0 &&& mk (f - 64 * k) (min 64 (t - 64 * k)))
  rw [IntWalk.wrap64_in _ (by omega)]
  simp

theorem drewN_of {w wr : World} {m : Nat} (h : wr = w.drewN m) (k : Nat) : ∃ m', wr.drewN k = w.drewN m' := ⟨m + k, by rw [h, World.drewN_drewN]⟩
set_option maxHeartbeats 400000 in
theorem bcount_ok (a : Option Addr) (f t len cap : Nat) (ws : List Nat) (w : World) (hs : SlK .u64 w a len ws) (hw : ∀ x ∈ ws, x < 18446744073709551616) (hft : f ≤ t) (ht : t ≤ 64 * len) (hlen : len ≤ 64) :
    Calls Tryd.prog 81 #[.slice a len cap, .int .i64 f, .int .i64 t] w fun e w' => e = .returned (.int .i64 (cnt (bat ws) f t : Nat)) ∧ ∃ m, w' = w.drewN m := by
  go_enter Tryd.func81, Tryd.ntmps81
  go_wp2
  go_loopw [7, 8] (fun n i wr => ∃ k : Nat, f / 64 ≤ k ∧ k ≤ (t + 63) / 64 ∧ i = .int .i64 k ∧ n = .int .i64 (cnt (bat ws) f (min t (64 * k)) : Nat) ∧ ∃ m, wr = w.drewN m) (fun _ i _ => len - (intOf i).toNat)
  case atStart => exact ⟨f / 64, Nat.le_refl _, by omega, by go_num, by rw [cnt_zero (by omega)]; rfl, 0, rfl⟩
  case round =>
    obtain ⟨k, hk1, hk2, rfl, rfl, m, hm⟩ := hrel
    have Hm := Lib.hid hm
    by_cases hlt : 64 * k < t
    · obtain ⟨b, off, rfl, hc⟩ := hs.cells.resolve_left (by omega)
      have hck : wr.cell? ⟨b, off + k, none⟩ = some (.int .u64 (ws.getD k 0 : Nat)) := by rw [hm]; exact hc k (by omega)
      have hx : ws[k]?.getD 0 < 18446744073709551616 := by have := getD_lt hw (by decide) k; rwa [List.getD_eq_getElem?_getD] at this
      have hk0 : (0 : Int) ≤ (k : Int) := by omega
      have hk3 : (k : Int) < (len : Int) := by omega
      have hcl := cnt_le (bat ws) f (min t (64 * k))
      clear hc hs hk2 hm
      go_wp2
      go_quiet (first
        | (go_at_call 82; exact Calls.quiet_of (mask_int _ _ _ (by omega) (by omega) (by omega) (by omega)))
        | (go_at_call 87; exact quiet_same (ones_int _ _ (and_rng _ _ hx (mk_lt _ _)).1 (and_rng _ _ hx (mk_lt _ _)).2)))
      go_wp2
      go_roundw
      case rel => exact ⟨k + 1, by omega, by omega, by go_num, by rw [count_round ws f t k hlt hk1 (by omega) hx], drewN_of Hm.out _⟩
      case measure => simp [intOf]; omega
    · clear hm
      go_wp2
      go_ret
      have e : min t (64 * k) = t := by omega
      exact ⟨ret_i64 (by rw [e]), _, Hm.out⟩
end Go.Proofs.YtpaecmpiokkdnaaDoor
