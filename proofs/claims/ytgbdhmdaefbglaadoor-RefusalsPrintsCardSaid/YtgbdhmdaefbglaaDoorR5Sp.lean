/- Refusals: SamePlan. -/
import Derived.Test.YtgbdhmdaefbglaaDoorR5H
import Derived.Laws.StructEq
import Derived.ChangeKeysEq
namespace Go.Proofs.YtgbdhmdaefbglaaDoor
open Go.RowKit Go.Sort Go.Joins Go.Shelf
attribute [local go_sem] cell_grow frozen_grow size_grow
attribute [local go_sem ↓] Go.wp_at_zero Go.wp_at_succ
theorem neq_rule (x y : Rl) (w : World) : Sem.run Tryd.prog (binOp .neq 45 (rV x) (rV y)) w = .ok (.bool (!decide (x = y))) w := by
  have u3 := Tryd.underlying3
  have hS : Tryd.prog.underlying 45 = some (.struct (Tryd.prog.fieldsOf 45)) := by kernel_rfl
  have hp : Tryd.prog.stoodInHeld 45 = false := by kernel_rfl
  rw [run_neq_struct, show (10000 : Nat) = 9999 + 1 from rfl, run_equalIn_agg w 9999 45 _ _ hS hp]
  simp only [Program.fieldsOf, Tryd.underlying45]
  obtain ⟨a, b, c, d⟩ := x
  obtain ⟨a', b', c', d'⟩ := y
  go_simp
  by_cases h1 : a = a' <;> by_cases h2 : b = b' <;> by_cases h3 : c = c' <;> by_cases h4 : d = d' <;> simp [h1, h2, h3, h4]
/-- are two plans the same, rule by rule? -/
def spB (n : Nat) (R : Nat → Rl) (m : Nat) (Q : Nat → Rl) : Bool := decide (n = m) && (List.range n).all fun j => decide (R j = Q j)
theorem spB_len {n m : Nat} {R Q : Nat → Rl} (h : n ≠ m) : spB n R m Q = false := by unfold spB; rw [decide_eq_false h, Bool.false_and]
theorem spB_yes {n : Nat} {R Q : Nat → Rl} (h : ∀ j, j < n → R j = Q j) : spB n R n Q = true := by
  unfold spB
  rw [decide_eq_true rfl, Bool.true_and, List.all_eq_true]
  exact fun j hj => decide_eq_true (h j (List.mem_range.1 hj))
theorem spB_no {n j : Nat} {R Q : Nat → Rl} (hj : j < n) (h : R j ≠ Q j) : spB n R n Q = false := by
  unfold spB
  rw [decide_eq_true rfl, Bool.true_and, List.all_eq_false]
  exact ⟨j, List.mem_range.2 hj, by simpa using h⟩
theorem guard57 : Tryd.prog.eqGuardType Tryd.prog.depth 45 = false := by kernel_rfl
section
variable {w : World} {a b : Option Addr} {n c m d : Nat} {R Q : Nat → Rl}
set_option maxRecDepth 100000 in
set_option maxHeartbeats 1600000 in
theorem samePlan_ok (hS : SlR w a n R) (hn : n ≤ 9223372036854775807) (hQ : SlR w b m Q) (hm : m ≤ 9223372036854775807) :
    Calls Tryd.prog 10 #[pV a n c, pV b m d] w fun e w' => e = .returned (.bool (spB n R m Q)) ∧ Below w.heap.size w w' := by
  have b2 : Below w.heap.size w ((w.alloc (.cells #[.slice a n c] 24)).alloc (.cells #[.slice b m d] 24)) := ((Below.refl _ w).alloc (Nat.le_refl _) _).alloc (by simp) _
  have HB := Lib.hid b2
  by_cases hnm : n = m
  · subst hnm
    have hne : ((n : Int) != (n : Int)) = false := by simp
    have HS := Lib.hid hS
    have HQ := Lib.hid hQ
    clear b2 hS hQ
    go_enter Tryd.func10, Tryd.ntmps10
    go_wp2
    obtain ⟨W, hW⟩ : ∃ W, (w.alloc (.cells #[.slice a n c] 24)).alloc (.cells #[.slice b n d] 24) = W := ⟨_, rfl⟩
    have k0 : W.cell? ⟨w.heap.size, 0, none⟩ = some (.slice a n c) := by rw [← hW]; simp [go_sem]
    have k1 : W.cell? ⟨w.heap.size + 1, 0, none⟩ = some (.slice b n d) := by rw [← hW]; simp [go_sem]
    rw [hW] at HB ⊢
    clear hW
    go_loopw [5] (fun i wr => ∃ k : Nat, i = .int .i64 k ∧ k ≤ n ∧ Hid (∀ j, j < k → R j = Q j) ∧ Hid (Below W.heap.size W wr)) (fun i _ => n - (intOf i).toNat)
    case atStart => exact ⟨0, rfl, Nat.zero_le _, Lib.hid (fun j hj => by omega), Lib.hid (Below.refl _ _)⟩
    case round =>
      obtain ⟨k, rfl, hk, HA, HBr⟩ := hrel
      clear hne
      have e0 := cell_later HBr.out k0
      have e1 := cell_later HBr.out k1
      clear k0 k1
      have HBw := Lib.hid (HB.out.trans (HBr.out.mono HB.out.size))
      by_cases hlt : k < n
      · obtain ⟨ba, oa, rfl, g0, g1, g2, g3⟩ := (HS.out.below HBw.out).at_ hlt
        obtain ⟨bb, ob, rfl, h0, h1, h2, h3⟩ := (HQ.out.below HBw.out).at_ hlt
        have hli : (k : Int) < (n : Int) := by omega
        have hk0 : (0 : Int) ≤ (k : Int) := by omega
        have hneq := neq_rule (R k) (Q k)
        have hgd := guard57
        obtain ⟨r, hr⟩ : ∃ r, decide (R k = Q k) = r := ⟨_, rfl⟩
        rw [hr] at hneq
        have HR := Lib.hid hr
        clear hr
        cases r
        · go_wp2_with fail
          go_quiet (fail)
          go_wp2
          go_ret
          exact ⟨ret_bool (spB_no hlt (of_decide_eq_false HR.out)).symm, HBw.out.trans ((below_draw _ _).mono HBw.out.size)⟩
        · go_wp2_with fail
          go_quiet (fail)
          go_wp2
          go_roundw
          case rel => exact ⟨k + 1, by go_num, by omega, Lib.hid (fun j hj => by
            by_cases ej : j = k
            · rw [ej]; exact of_decide_eq_true HR.out
            · exact HA.out j (by omega)), Lib.hid (HBr.out.trans ((below_draw _ _).mono HBr.out.size))⟩
          case measure => simp [intOf]; omega
      · obtain rfl : k = n := by omega
        go_wp2
        go_ret
        exact ⟨ret_bool (spB_yes HA.out).symm, HBw.out⟩
  · have hne : ((n : Int) != (m : Int)) = true := by simp; omega
    have HE := Lib.hid (spB_len (R := R) (Q := Q) hnm)
    clear b2 hS hQ hnm
    go_enter Tryd.func10, Tryd.ntmps10
    go_wp2
    go_ret
    exact ⟨ret_bool HE.out.symm, HB.out⟩
end
end Go.Proofs.YtgbdhmdaefbglaaDoor
