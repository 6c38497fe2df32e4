/- Clocks: Run of a plan that is wrong; plans and lists of rings compared; the example. -/
import Derived.Test.YtmgpdaljminipaaDoorC9H
import Derived.Laws.StructEq
import Derived.ChangeKeysEq
namespace Go.Proofs.YtmgpdaljminipaaDoor
open Go.RowKit Go.Sort Go.Joins Go.Shelf
attribute [local go_sem] cell_grow frozen_grow size_grow

theorem neq_alarm (x y : Al) (w : World) : Sem.run Tryd.prog (binOp .neq 50 (aV x) (aV y)) w = .ok (.bool (!decide (x = y))) w := by
  have u3 := Tryd.underlying2
  have u9 := Tryd.underlying9
  have hS : Tryd.prog.underlying 50 = some (.struct (Tryd.prog.fieldsOf 50)) := by kernel_rfl
  have hp : Tryd.prog.stoodInHeld 50 = false := by kernel_rfl
  rw [run_neq_struct, show (10000 : Nat) = 9999 + 1 from rfl, run_equalIn_agg w 9999 50 _ _ hS hp]
  simp only [Program.fieldsOf, Tryd.underlying50]
  obtain ⟨a, b, c⟩ := x
  obtain ⟨a', b', c'⟩ := y
  go_simp
  have hs := str_eq a a'
  by_cases h1 : a = a' <;> by_cases h2 : b = b' <;> by_cases h3 : c = c' <;> simp [h1, h2, h3] <;> simp_all
theorem neq_ring (x y : Rn) (w : World) : Sem.run Tryd.prog (binOp .neq 39 (gV x) (gV y)) w = .ok (.bool (!decide (x = y))) w := by
  have u3 := Tryd.underlying2
  have u9 := Tryd.underlying9
  have hS : Tryd.prog.underlying 39 = some (.struct (Tryd.prog.fieldsOf 39)) := by kernel_rfl
  have hp : Tryd.prog.stoodInHeld 39 = false := by kernel_rfl
  rw [run_neq_struct, show (10000 : Nat) = 9999 + 1 from rfl, run_equalIn_agg w 9999 39 _ _ hS hp]
  simp only [Program.fieldsOf, Tryd.underlying39]
  obtain ⟨a, b⟩ := x
  obtain ⟨a', b'⟩ := y
  go_simp
  have hs := str_eq a a'
  by_cases h1 : a = a' <;> by_cases h2 : b = b' <;> simp [h1, h2] <;> simp_all
/-- are two lists the same, one by one? -/
def sqB {α : Type} [DecidableEq α] (n : Nat) (R : Nat → α) (m : Nat) (Q : Nat → α) : Bool := decide (n = m) && (List.range n).all fun j => decide (R j = Q j)
section
variable {α : Type} [DecidableEq α]
theorem sqB_len {n m : Nat} {R Q : Nat → α} (h : n ≠ m) : sqB n R m Q = false := by unfold sqB; rw [decide_eq_false h, Bool.false_and]
theorem sqB_yes {n : Nat} {R Q : Nat → α} (h : ∀ j, j < n → R j = Q j) : sqB n R n Q = true := by
  unfold sqB
  rw [decide_eq_true rfl, Bool.true_and, List.all_eq_true]
  exact fun j hj => decide_eq_true (h j (List.mem_range.1 hj))
theorem sqB_no {n j : Nat} {R Q : Nat → α} (hj : j < n) (h : R j ≠ Q j) : sqB n R n Q = false := by
  unfold sqB
  rw [decide_eq_true rfl, Bool.true_and, List.all_eq_false]
  exact ⟨j, List.mem_range.2 hj, by simpa using h⟩
end
theorem guardA : Tryd.prog.eqGuardType Tryd.prog.depth 50 = false := by kernel_rfl
theorem guardG : Tryd.prog.eqGuardType Tryd.prog.depth 39 = false := by kernel_rfl
section
variable {w : World} {a b : Option Addr} {n c m d : Nat} {R Q : Nat → Al} {G H : Nat → Rn}
set_option maxRecDepth 100000 in
set_option maxHeartbeats 1600000 in
theorem samePlan_ok (hS : SlA w a n R) (hn : n ≤ 9223372036854775807) (hQ : SlA w b m Q) (hm : m ≤ 9223372036854775807) :
    Calls Tryd.prog 21 #[pV a n c, pV b m d] w fun e w' => e = .returned (.bool (sqB n R m Q)) ∧ Below w.heap.size w w' := by
  have b2 : Below w.heap.size w ((w.alloc (.cells #[.slice a n c] 44)).alloc (.cells #[.slice b m d] 44)) := ((Below.refl _ w).alloc (Nat.le_refl _) _).alloc (by simp) _
  have HB := Lib.hid b2
  by_cases hnm : n = m
  · subst hnm
    have hne : ((n : Int) != (n : Int)) = false := by simp
    have HS := Lib.hid hS
    have HQ := Lib.hid hQ
    clear b2 hS hQ
    go_enter Tryd.func21, Tryd.ntmps21
    go_wp2
    obtain ⟨W, hW⟩ : ∃ W, (w.alloc (.cells #[.slice a n c] 44)).alloc (.cells #[.slice b n d] 44) = W := ⟨_, rfl⟩
    have k0 : W.cell? ⟨w.heap.size, 0, none⟩ = some (.slice a n c) := by rw [← hW]; simp [go_sem]
    have k1 : W.cell? ⟨w.heap.size + 1, 0, none⟩ = some (.slice b n d) := by rw [← hW]; simp [go_sem]
    rw [hW] at HB ⊢
    clear hW
    go_loopw [5] (fun i wr => ∃ k : Nat, i = .int .i64 k ∧ k ≤ n ∧ Hid (∀ j, j < k → R j = Q j) ∧ Hid (Below W.heap.size W wr)) (fun i _ => n - (intOf i).toNat)
    case atStart => exact ⟨0, rfl, Nat.zero_le _, Lib.hid (fun j hj => by omega), Lib.hid (Below.refl _ _)⟩
    case round =>
      obtain ⟨k, rfl, hk, HA, HBr⟩ := hrel
      clear hne
      have e0 := cell_later HBr.out k0
      have e1 := cell_later HBr.out k1
      clear k0 k1
      have HBw := Lib.hid (HB.out.trans (HBr.out.mono HB.out.size))
      by_cases hlt : k < n
      · obtain ⟨ba, oa, rfl, g0, g1, g2⟩ := (HS.out.below HBw.out).at_ hlt
        obtain ⟨bb, ob, rfl, h0, h1, h2⟩ := (HQ.out.below HBw.out).at_ hlt
        have hli : (k : Int) < (n : Int) := by omega
        have hk0 : (0 : Int) ≤ (k : Int) := by omega
        have hneq := neq_alarm (R k) (Q k)
        have hgd := guardA
        obtain ⟨r, hr⟩ : ∃ r, decide (R k = Q k) = r := ⟨_, rfl⟩
        rw [hr] at hneq
        have HR := Lib.hid hr
        clear hr
        cases r
        · go_wp2_with fail
          go_quiet (fail)
          go_wp2
          go_ret
          exact ⟨ret_bool (sqB_no hlt (of_decide_eq_false HR.out)).symm, HBw.out.trans ((below_draw _ _).mono HBw.out.size)⟩
        · go_wp2_with fail
          go_quiet (fail)
          go_wp2
          go_roundw
          case rel => exact ⟨k + 1, by go_num, by omega, Lib.hid (fun j hj => by
            by_cases ej : j = k
            · rw [ej]; exact of_decide_eq_true HR.out
            · exact HA.out j (by omega)), Lib.hid (HBr.out.trans ((below_draw _ _).mono HBr.out.size))⟩
          case measure => simp [intOf]; omega
      · obtain rfl : k = n := by omega
        go_wp2
        go_ret
        exact ⟨ret_bool (sqB_yes HA.out).symm, HBw.out⟩
  · have hne : ((n : Int) != (m : Int)) = true := by simp; omega
    have HE := Lib.hid (sqB_len (R := R) (Q := Q) hnm)
    clear b2 hS hQ hnm
    go_enter Tryd.func21, Tryd.ntmps21
    go_wp2
    go_ret
    exact ⟨ret_bool HE.out.symm, HB.out⟩
set_option maxRecDepth 100000 in
set_option maxHeartbeats 1600000 in
theorem ringsEq_ok (hS : SlG w a n G) (hn : n ≤ 9223372036854775807) (hQ : SlG w b m H) (hm : m ≤ 9223372036854775807) :
    Calls Tryd.prog 20 #[.slice a n c, .slice b m d] w fun e w' => e = .returned (.bool (sqB n G m H)) ∧ Below w.heap.size w w' := by
  by_cases hnm : n = m
  · subst hnm
    have hne : ((n : Int) != (n : Int)) = false := by simp
    have HS := Lib.hid hS
    have HQ := Lib.hid hQ
    clear hS hQ
    go_enter Tryd.func20, Tryd.ntmps20
    go_wp2
    go_loopw [5] (fun i wr => ∃ k : Nat, i = .int .i64 k ∧ k ≤ n ∧ Hid (∀ j, j < k → G j = H j) ∧ Hid (Below w.heap.size w wr)) (fun i _ => n - (intOf i).toNat)
    case atStart => exact ⟨0, rfl, Nat.zero_le _, Lib.hid (fun j hj => by omega), Lib.hid (Below.refl _ _)⟩
    case round =>
      obtain ⟨k, rfl, hk, HA, HBr⟩ := hrel
      clear hne
      by_cases hlt : k < n
      · obtain ⟨ba, oa, rfl, g0, g1⟩ := (HS.out.below HBr.out).at_ hlt
        obtain ⟨bb, ob, rfl, h0, h1⟩ := (HQ.out.below HBr.out).at_ hlt
        have hli : (k : Int) < (n : Int) := by omega
        have hk0 : (0 : Int) ≤ (k : Int) := by omega
        have hneq := neq_ring (G k) (H k)
        have hgd := guardG
        obtain ⟨r, hr⟩ : ∃ r, decide (G k = H k) = r := ⟨_, rfl⟩
        rw [hr] at hneq
        have HR := Lib.hid hr
        clear hr
        cases r
        · go_wp2_with fail
          go_quiet (fail)
          go_wp2
          go_ret
          exact ⟨ret_bool (sqB_no hlt (of_decide_eq_false HR.out)).symm, HBr.out.trans ((below_draw _ _).mono HBr.out.size)⟩
        · go_wp2_with fail
          go_quiet (fail)
          go_wp2
          go_roundw
          case rel => exact ⟨k + 1, by go_num, by omega, Lib.hid (fun j hj => by
            by_cases ej : j = k
            · rw [ej]; exact of_decide_eq_true HR.out
            · exact HA.out j (by omega)), Lib.hid (HBr.out.trans ((below_draw _ _).mono HBr.out.size))⟩
          case measure => simp [intOf]; omega
      · obtain rfl : k = n := by omega
        go_wp2
        go_ret
        exact ⟨ret_bool (sqB_yes HA.out).symm, HBr.out⟩
  · have hne : ((n : Int) != (m : Int)) = true := by simp; omega
    have HE := Lib.hid (sqB_len (R := G) (Q := H) hnm)
    clear hS hQ hnm
    go_enter Tryd.func20, Tryd.ntmps20
    go_wp2
    go_ret
    exact ⟨ret_bool HE.out.symm, Below.refl _ _⟩
end
section
variable {w : World} {a : Option Addr} {n c : Nat} {R : Nat → Al} {u : Int}
set_option maxRecDepth 100000 in
set_option maxHeartbeats 1600000 in
theorem run_bad (hS : SlA w a n R) (hn : n ≤ 9223372036854775807) (hR : ∀ j, j < n → AlB (R j)) (hE : rnE n R u ≠ 0) :
    Calls Tryd.prog 19 #[pV a n c, .int .i64 u] w fun e w' => e = .returned (.tuple #[.slice none 0 0, .agg #[.slice none 0 0], .int .i64 (rnE n R u)]) ∧ Below w.heap.size w w' := by
  have b1 : Below w.heap.size w (((w.alloc (.cells #[.slice a n c] 44)).alloc (.cells #[.int .i64 u] 2)).alloc (.cells #[.slice none 0 0] 44)) := (((Below.refl _ w).alloc (Nat.le_refl _) _).alloc (by simp) _).alloc (by simp; omega) _
  have h5 : BoxA (((w.alloc (.cells #[.slice a n c] 44)).alloc (.cells #[.int .i64 u] 2)).alloc (.cells #[.slice none 0 0] 44)) (w.heap.size + 1 + 1) none 0 0 := by
    have := heap_alloc_new ((w.alloc (.cells #[.slice a n c] 44)).alloc (.cells #[.int .i64 u] 2)) (.cells #[.slice none 0 0] 44)
    rw [World.size_alloc, World.size_alloc] at this
    exact this
  have HC := Lib.hid (count_ok (c := c) (hS.below b1) hn hR u)
  have HB := Lib.hid b1
  have H5 := Lib.hid h5
  have hw : (ctE n R u ≠ 0 ∧ rnE n R u = ctE n R u) ∨ (ctE n R u = 0 ∧ rnE n R u = 3 ∧ 1000 < sumA R u n ∧ ctV n R u = sumA R u n) := by
    unfold rnE at hE ⊢
    by_cases h0 : ctE n R u = 0
    · right
      rw [if_neg (by simpa using h0)] at hE ⊢
      by_cases h1 : 1000 < sumA R u n
      · exact ⟨h0, if_pos h1, h1, if_pos h0⟩
      · rw [if_neg h1] at hE; exact absurd rfl hE
    · exact .inl ⟨h0, if_pos h0⟩
  clear hS hR hE b1 h5
  rcases hw with ⟨h0, he⟩ | ⟨h0, he, h1, hv⟩
  · rw [he]
    obtain ⟨e0, he0⟩ : ∃ e, ctE n R u = e := ⟨_, rfl⟩
    rw [he0] at HC h0 ⊢
    have d0 := bne0_true h0
    clear he he0 h0
    go_enter Tryd.func19, Tryd.ntmps19
    go_wp2_with fail
    refine HC.out.mono ?_
    rintro e w1 ⟨rfl, b1⟩
    have h51 := (b1.block _ (blk_lt H5.out)).trans H5.out
    have k5 : w1.cell? ⟨w.heap.size + 1 + 1, 0, none⟩ = some (.slice none 0 0) := by rw [cell_of_block h51]; rfl
    have f5 := unfrozen_of_block h51
    have HB1 := Lib.hid (below_tr HB.out b1)
    clear b1 h51
    go_wp2
    exact bodyPost_ret (v := .tuple #[.slice none 0 0, .agg #[.slice none 0 0], .int .i64 e0]) (by simp [results, Tryd.results19, go_sem, k5, f5]) rfl ⟨rfl, HB1.out.setCell (p := ⟨w.heap.size + 1 + 1, 0, none⟩) (by dsimp only; omega) _⟩
  · rw [he]
    rw [h0, hv] at HC
    obtain ⟨s, hs⟩ : ∃ s, sumA R u n = s := ⟨_, rfl⟩
    rw [hs] at HC h1
    have d1 : decide (1000 < s) = true := by simpa using h1
    clear he h0 h1 hv hs
    go_enter Tryd.func19, Tryd.ntmps19
    go_wp2_with fail
    refine HC.out.mono ?_
    rintro e w1 ⟨rfl, b1⟩
    have h51 := (b1.block _ (blk_lt H5.out)).trans H5.out
    have k5 : w1.cell? ⟨w.heap.size + 1 + 1, 0, none⟩ = some (.slice none 0 0) := by rw [cell_of_block h51]; rfl
    have f5 := unfrozen_of_block h51
    have HB1 := Lib.hid (below_tr HB.out b1)
    clear b1 h51
    go_wp2
    exact bodyPost_ret (v := .tuple #[.slice none 0 0, .agg #[.slice none 0 0], .int .i64 3]) (by simp [results, Tryd.results19, go_sem, k5, f5]) rfl ⟨rfl, HB1.out.setCell (p := ⟨w.heap.size + 1 + 1, 0, none⟩) (by dsimp only; omega) _⟩
end
/-- the plan of the examples -/
def exL : List Al := [(⟨#[97]⟩, 5, 10), (⟨#[98]⟩, 15, 0)]
def exR (j : Nat) : Al := exL.getD j al0
set_option maxRecDepth 100000 in
theorem example_ok (w : World) : Calls Tryd.prog 14 #[] w fun e w' => ∃ b, e = .returned (pV (some ⟨b, 0, none⟩) 2 2) ∧ SlA w' (some ⟨b, 0, none⟩) 2 exR ∧ Below w.heap.size w w' := by
  go_enter Tryd.func14, Tryd.ntmps14
  go_wp2
  refine bodyPost_ret (v := pV (some ⟨w.heap.size + 1, 0, none⟩) 2 2) (by simp [results, Tryd.results14, go_sem]) rfl ⟨_, rfl, .inr ⟨_, _, rfl, fun j hj => ?_⟩, ((Below.refl _ w).alloc (Nat.le_refl _) _).alloc (by simp) _⟩
  match j, hj with
  | 0, _ => refine ⟨?_, ?_, ?_⟩ <;> simp [go_sem, exR, exL]
  | 1, _ => refine ⟨?_, ?_, ?_⟩ <;> simp [go_sem, exR, exL]
end Go.Proofs.YtmgpdaljminipaaDoor
