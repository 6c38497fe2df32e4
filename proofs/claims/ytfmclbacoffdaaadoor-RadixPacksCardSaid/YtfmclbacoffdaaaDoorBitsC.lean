/- Package bits: count. -/
import Derived.Test.YtfmclbacoffdaaaDoorBitsB
namespace Go.Proofs.YtfmclbacoffdaaaDoor
open Go.RowKit Go.Sort
attribute [local go_sem] cell_grow frozen_grow size_grow

theorem lo_nat (f k : Nat) : (if (k : Int) * 64 < (f : Int) then (f : Int) - (k : Int) * 64 else 0).toNat = f - 64 * k := by split <;> omega
theorem hi_nat (t k : Nat) : (if (t : Int) - (k : Int) * 64 < 64 then (t : Int) - (k : Int) * 64 else 64).toNat = min 64 (t - 64 * k) := by split <;> omega
theorem count_round (ws : List Nat) (f t k : Nat) (h : 64 * k < t) (hf : f / 64 ≤ k) (ht : t ≤ 4096) (hx : ws[k]?.getD 0 < 18446744073709551616) :
    wrap64 (↑(cnt (bat ws) f (min t (64 * k))) + ↑(pop (bits BinOp.and IntKind.u64 ↑(ws[k]?.getD 0)
      ↑(mk (if (k : Int) * 64 < (f : Int) then (f : Int) - (k : Int) * 64 else 0).toNat (if (t : Int) - (k : Int) * 64 < 64 then (t : Int) - (k : Int) * 64 else 64).toNat)).toNat)) =
    ((cnt (bat ws) f (min t (64 * (k + 1))) : Nat) : Int) := by
  rw [count_step ws h hf, lo_nat, hi_nat, u64_and_nat _ _ hx (mk_lt _ _), List.getD_eq_getElem?_getD, Int.toNat_natCast]
  have h1 := cnt_le (bat ws) f (min t (64 * k))
  have h2 := pop_le (ws[k]?.getD 0 &&& mk (f - 64 * k) (min 64 (t - 64 * k)))
  rw [IntWalk.wrap64_in _ (by omega)]
  simp

theorem drewN_of {w wr : World} {m : Nat} (h : wr = w.drewN m) (k : Nat) : ∃ m', wr.drewN k = w.drewN m' := ⟨m + k, by rw [h, World.drewN_drewN]⟩
end Go.Proofs.YtfmclbacoffdaaaDoor
