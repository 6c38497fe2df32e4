/- Handles of type int: Check. -/
import Derived.Test.YtpaecmpiokkdnaaDoorHState
namespace Go.Proofs.YtpaecmpiokkdnaaDoor.Int
open Go.RowKit Go.Sort Go.Joins
attribute [local go_sem] cell_grow frozen_grow size_grow

section
variable {n na nv : Nat} {ga aa va : Option Addr} {gc ac vc : Nat} {G : Nat → Int} {A : Nat → Bool}
set_option maxRecDepth 100000 in
set_option maxHeartbeats 3200000 in
theorem check_ok (w : World) (hG : SlF w ga n (zI G)) (hA : SlF w aa na (zB A)) :
    Calls Tryd.prog 16 #[.agg #[.slice ga n gc, .slice aa na ac, .slice va nv vc]] w fun e w' => e = .returned (.tuple #[.int .i64 (hcI n na nv G A), .int .i64 (hcE n na nv G A)]) ∧ Below w.heap.size w w' := by
  have hb0 := below_box0 w (.cells #[.slice ga n gc, .slice aa na ac, .slice va nv vc] 35)
  have HB := Lib.hid hb0
  by_cases h1 : n < 1 ∨ 1024 < n
  · have R := Lib.hid (hc_range (na := na) (nv := nv) (G := G) (A := A) h1)
    clear hb0
    by_cases h2 : n < 1
    all_goals
      have h3 : ¬ n < 1 → 1024 < n := fun h => by omega
      first
        | (have d1 : decide ((n : Int) < 1) = true := by rw [decide_eq_true_eq]; omega
           clear h1 h2 h3)
        | (have d1 : decide ((n : Int) < 1) = false := by rw [decide_eq_false_iff_not]; omega
           have d2 : decide (1024 < n) = true := by rw [decide_eq_true_eq]; exact h3 h2
           have d3 : decide ((1024 : Int) < (n : Int)) = true := by rw [decide_eq_true_eq]; have := h3 h2; omega
           clear h1 h2 h3)
      go_enter Tryd.func16, Tryd.ntmps16
      go_wp2
      go_ret2
      exact ⟨ret_two R.out.1 R.out.2, HB.out⟩
  · have d1 : decide ((n : Int) < 1) = false := by rw [decide_eq_false_iff_not]; omega
    have d2 : decide (1024 < n) = false := by rw [decide_eq_false_iff_not]; omega
    have d3 : decide ((1024 : Int) < (n : Int)) = false := by rw [decide_eq_false_iff_not]; omega
    have hn : n ≤ 1024 := by omega
    by_cases h2 : na ≠ n ∨ nv ≠ n
    · have R := Lib.hid (hc_form (G := G) (A := A) h1 h2)
      clear hb0
      by_cases h3 : na = n
      all_goals
        have h4 : na = n → nv ≠ n := fun h => by omega
        first
          | (have d4 : ((na : Int) != (n : Int)) = false := by rw [bne_eq_false_iff_eq]; omega
             have d5 : ((nv : Int) != (n : Int)) = true := by rw [bne_iff_ne]; have := h4 h3; omega
             clear h1 h2 h3 h4)
          | (have d4 : ((na : Int) != (n : Int)) = true := by rw [bne_iff_ne]; omega
             clear h1 h2 h3 h4)
        go_enter Tryd.func16, Tryd.ntmps16
        go_wp2
        go_ret2
        exact ⟨ret_two R.out.1 R.out.2, HB.out⟩
    · obtain rfl : na = n := by omega
      obtain rfl : nv = na := by omega
      have HN := Lib.hid h1
      have HG := Lib.hid (hG.below hb0)
      have HA := Lib.hid (hA.below hb0)
      clear hb0 h1 h2 hG hA
      go_enter Tryd.func16, Tryd.ntmps16
      go_wp2
      go_loop [33] (fun x => ∃ i : Nat, i ≤ nv ∧ x = .int .i64 i ∧ Hid (∀ j, j < i → badS G A j = false)) (fun x => nv - (intOf x).toNat)
      case atStart => exact ⟨0, Nat.zero_le _, rfl, Lib.hid (fun j h => by omega)⟩
      case round =>
        obtain ⟨i, hi, rfl, HP⟩ := hrel
        by_cases hlt : i < nv
        · obtain ⟨gb, go, rfl, cg⟩ := HG.out.at_ hlt
          obtain ⟨ab, ao, rfl, ca⟩ := HA.out.at_ hlt
          have hli : (i : Int) < (nv : Int) := by omega
          have hl0 : (0 : Int) ≤ (i : Int) := by omega
          have hlb : decide (i < nv) = true := by simpa using hlt
          obtain ⟨g, hg⟩ : ∃ g, G i = g := ⟨_, rfl⟩
          obtain ⟨al, hal⟩ : ∃ al, A i = al := ⟨_, rfl⟩
          have HBad : Hid (badS G A i = (decide (g < 0) || decide (65535 < g) || (decide (g = 0) && al))) := Lib.hid (by unfold badS; rw [hg, hal])
          dsimp only [zI, zB] at cg ca
          rw [hg] at cg
          rw [hal] at ca
          clear hg hal
          by_cases g1 : g < 0
          · have d4 : decide (g < 0) = true := by simpa using g1
            have R := Lib.hid (hc_bad HN.out hlt (by rw [HBad.out, d4]; rfl) HP.out)
            clear g1
            go_wp2
            go_ret2
            exact ⟨ret_two R.out.1 R.out.2, HB.out⟩
          · have d4 : decide (g < 0) = false := by simpa using g1
            by_cases g2 : 65535 < g
            · have d5 : decide (65535 < g) = true := by simpa using g2
              have R := Lib.hid (hc_bad HN.out hlt (by rw [HBad.out, d4, d5]; rfl) HP.out)
              clear g1 g2
              go_wp2
              go_ret2
              exact ⟨ret_two R.out.1 R.out.2, HB.out⟩
            · have d5 : decide (65535 < g) = false := by simpa using g2
              by_cases g3 : g = 0
              · have d6 : (g == 0) = true := by simpa using g3
                cases al with
                | true =>
                  have R := Lib.hid (hc_bad HN.out hlt (by rw [HBad.out, d4, d5, decide_eq_true g3]; rfl) HP.out)
                  clear g1 g2 g3
                  go_wp2
                  go_ret2
                  exact ⟨ret_two R.out.1 R.out.2, HB.out⟩
                | false =>
                  have R := Lib.hid (show badS G A i = false by rw [HBad.out, d4, d5]; simp)
                  clear g1 g2 g3
                  go_wp2
                  go_round
                  case rel => exact ⟨i + 1, by omega, by go_num, Lib.hid (fun j h => by
                    by_cases hj : j = i
                    · rw [hj]; exact R.out
                    · exact HP.out j (by omega))⟩
                  case measure => simp [intOf]; omega
              · have d6 : (g == 0) = false := by simpa using g3
                have R := Lib.hid (show badS G A i = false by rw [HBad.out, d4, d5, decide_eq_false g3]; rfl)
                clear g1 g2 g3
                go_wp2
                go_round
                case rel => exact ⟨i + 1, by omega, by go_num, Lib.hid (fun j h => by
                  by_cases hj : j = i
                  · rw [hj]; exact R.out
                  · exact HP.out j (by omega))⟩
                case measure => simp [intOf]; omega
        · have hlb : decide (i < nv) = false := by simpa using hlt
          have R := Lib.hid (hc_good HN.out (fun j h => HP.out j (by omega)))
          go_wp2
          go_ret2
          exact ⟨ret_two R.out.1 R.out.2, HB.out⟩
end
end Go.Proofs.YtpaecmpiokkdnaaDoor.Int
