/- Package cmp: Or of two; package bits: join. -/
import Derived.Test.YtikdgnfcckenmaaDoorRefF
import Derived.Deep.RegionHeld3
namespace Go.Proofs.YtikdgnfcckenmaaDoor
open Go.RowKit Go.Sort Go.Joins
attribute [local go_sem] cell_grow frozen_grow size_grow

def orE (x y : Int) : Int := if x ≠ 0 then x else y
set_option maxRecDepth 100000 in
set_option maxHeartbeats 800000 in
theorem cmpOr_ok (x y : Int) (g c : Nat) (w : World) (h0 : w.cell? ⟨g, 0, none⟩ = some (.int .i64 x)) (h1 : w.cell? ⟨g, 1, none⟩ = some (.int .i64 y)) :
    Calls Tryd.prog 78 #[.slice (some ⟨g, 0, none⟩) 2 c] w fun e w' => e = .returned (.int .i64 (orE x y)) ∧ w = w' := by
  go_enter Tryd.func78, Tryd.ntmps78
  go_wp2
  go_loop [8] (fun i => ∃ k : Nat, k ≤ 2 ∧ i = .int .i64 k ∧ Hid (1 ≤ k → x = 0) ∧ Hid (2 ≤ k → y = 0)) (fun i => 2 - (intOf i).toNat)
  case atStart => exact ⟨0, by omega, rfl, Lib.hid (fun h => by omega), Lib.hid (fun h => by omega)⟩
  case round =>
    obtain ⟨k, hk, rfl, HX, HY⟩ := hrel
    match k, hk with
    | 0, _ =>
      by_cases hx : x = 0
      · have hb : (x != 0) = false := bne0_false hx
        have H := Lib.hid hx
        clear hx
        go_wp2
        go_round
        case rel => exact ⟨1, by omega, rfl, Lib.hid (fun _ => H.out), Lib.hid (fun h => by omega)⟩
        case measure => simp [intOf]
      · have hb : (x != 0) = true := bne0_true hx
        have R : Hid (orE x y = x) := Lib.hid (if_pos hx)
        clear hx
        go_wp2
        go_ret
        exact ⟨ret_i64 R.out.symm, rfl⟩
    | 1, _ =>
      have R0 : Hid (orE x y = y) := Lib.hid (if_neg (by have := HX.out (by omega); omega))
      by_cases hx : y = 0
      · have hb : (y != 0) = false := bne0_false hx
        have H := Lib.hid hx
        clear hx
        go_wp2
        go_round
        case rel => exact ⟨2, by omega, rfl, Lib.hid (fun _ => HX.out (by omega)), Lib.hid (fun _ => H.out)⟩
        case measure => simp [intOf]
      · have hb : (y != 0) = true := bne0_true hx
        clear hx
        go_wp2
        go_ret
        exact ⟨ret_i64 R0.out.symm, rfl⟩
    | 2, _ =>
      have R0 : Hid (orE x y = 0) := Lib.hid (by unfold orE; rw [if_neg (by have := HX.out (by omega); omega)]; exact HY.out (by omega))
      go_wp2
      go_ret
      exact ⟨ret_i64 R0.out.symm, rfl⟩
end Go.Proofs.YtikdgnfcckenmaaDoor
