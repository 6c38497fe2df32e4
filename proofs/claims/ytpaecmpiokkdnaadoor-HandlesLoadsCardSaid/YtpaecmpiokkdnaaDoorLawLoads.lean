/- Handles: HandlesLoads returns true. -/
import Derived.Test.YtpaecmpiokkdnaaDoorHSame
import Derived.Test.YtpaecmpiokkdnaaDoorHSaveInt
import Derived.Test.YtpaecmpiokkdnaaDoorHLoadInt
import Derived.Test.YtpaecmpiokkdnaaDoorHAwake
import Derived.Deep.RegionHeld3
namespace Go.Proofs.YtpaecmpiokkdnaaDoor
open Go.RowKit Go.Sort Go.Joins
attribute [local go_sem] cell_grow frozen_grow size_grow

theorem vF_int {n : Nat} {G : Nat → Int} {A : Nat → Bool} {V : Nat → Value} (hV : ∀ j, ∃ z : Int, V j = .int .i64 z) : ∀ j, j < (stP n G A V (.int .i64 0) n).length → ∃ z : Int, ((stP n G A V (.int .i64 0) n).getD j (0, false, undef)).2.2 = .int .i64 z := by
  intro j hj
  rw [stP_length] at hj
  rw [stP_get hj, if_pos hj]
  obtain ⟨z, hz⟩ := hV j
  cases hA : A j
  · exact ⟨0, by simp⟩
  · exact ⟨z, by simp [hz]⟩

section
variable {n na nv : Nat} {ga aa va : Option Addr} {gc ac vc : Nat} {G : Nat → Int} {A : Nat → Bool} {V : Nat → Value}
set_option maxRecDepth 100000 in
set_option maxHeartbeats 3200000 in
theorem law_loads (w : World) (hG : SlF w ga n (zI G)) (hA : SlF w aa na (zB A)) (hV : SlF w va nv V) (hVf : ∀ j, ∃ x : Int, V j = .int .i64 x) (hn : n ≤ 9223372036854775807) (hna : na ≤ 9223372036854775807) (hnv : nv ≤ 9223372036854775807) (hT : Tab w) :
    Calls Tryd.prog 4 #[.agg #[.slice ga n gc, .slice aa na ac, .slice va nv vc]] w fun e w' => e = .returned (.bool true) ∧ Below w.heap.size w w' := by
  have hb0 := below_box0 w (.cells #[.slice ga n gc, .slice aa na ac, .slice va nv vc] 35)
  have HB := Lib.hid hb0
  have HT := Lib.hid (hT.below hb0)
  have HG := Lib.hid (hG.below hb0)
  have HA := Lib.hid (hA.below hb0)
  have HV := Lib.hid (hV.below hb0)
  clear hb0 hT hG hA hV
  by_cases hfar : 1100 < n ∨ 1100 < na ∨ 1100 < nv
  · have key : (decide ((1100 : Int) < (n : Int)) = true ∧ decide (1100 < n) = true) ∨ (decide ((1100 : Int) < (n : Int)) = false ∧ decide (1100 < n) = false ∧ ((decide ((1100 : Int) < (na : Int)) = true ∧ decide (1100 < na) = true) ∨ (decide ((1100 : Int) < (na : Int)) = false ∧ decide (1100 < na) = false ∧ decide ((1100 : Int) < (nv : Int)) = true ∧ decide (1100 < nv) = true))) := by
      by_cases c1 : 1100 < n
      · left; exact ⟨by simp; omega, by simpa using c1⟩
      · right
        refine ⟨by simp; omega, by simpa using c1, ?_⟩
        by_cases c2 : 1100 < na
        · left; exact ⟨by simp; omega, by simpa using c2⟩
        · right; exact ⟨by simp; omega, by simpa using c2, by simp; omega, by simp; omega⟩
    clear hfar
    rcases key with ⟨d1, d2⟩ | ⟨d1, d2, ⟨d3, d4⟩ | ⟨d3, d4, d5, d6⟩⟩
    all_goals
      go_enter Tryd.func4, Tryd.ntmps4
      go_wp2_with fail
      refine (awake_ok _ HT.out).mono ?_
      rintro e w1 ⟨rfl, b1⟩
      have HB1 := Lib.hid (HB.out.trans (b1.mono (by simp)))
      clear b1
      go_wp2
      go_ret
      exact ⟨rfl, HB1.out⟩
  · have d1 : decide ((1100 : Int) < (n : Int)) = false := by simp; omega
    have d2 : decide (1100 < n) = false := by simp; omega
    have d3 : decide ((1100 : Int) < (na : Int)) = false := by simp; omega
    have d4 : decide (1100 < na) = false := by simp; omega
    have d5 : decide ((1100 : Int) < (nv : Int)) = false := by simp; omega
    have d6 : decide (1100 < nv) = false := by simp; omega
    clear hfar
    have q1 : (hcI n na nv G A != hcI n na nv G A) = false := by simp
    have q2 : (hcE n na nv G A != hcE n na nv G A) = false := by simp
    have HC : Hid (∀ w', Below (w.alloc (.cells #[.slice ga n gc, .slice aa na ac, .slice va nv vc] 35)).heap.size (w.alloc (.cells #[.slice ga n gc, .slice aa na ac, .slice va nv vc] 35)) w' → w'.cell? ⟨w.heap.size, 0, none⟩ = some (.slice ga n gc) ∧ w'.cell? ⟨w.heap.size, 1, none⟩ = some (.slice aa na ac) ∧ w'.cell? ⟨w.heap.size, 2, none⟩ = some (.slice va nv vc)) :=
      Lib.hid (fun w' h => ⟨cell_later h (by simp [go_sem]), cell_later h (by simp [go_sem]), cell_later h (by simp [go_sem])⟩)
    by_cases he : hcE n na nv G A = 0
    · have q3 : ((0 : Int) != 0) = false := by decide
      have HE := Lib.hid he
      have hst := hcE_zero he
      have hval := Lib.hid (vF_int (n := n) (G := G) (A := A) hVf)
      have hlen := Lib.hid (show (stP n G A V (.int .i64 0) n).length ≤ 1024 by rw [stP_length]; exact hst.2.1)
      clear he hst
      go_enter Tryd.func4, Tryd.ntmps4
      go_wp2_with fail
      refine (Int.check_ok _ HG.out HA.out).mono ?_
      rintro e w1 ⟨rfl, b1⟩
      have c0 := (HC.out _ b1)
      have c1 := c0.2.1
      have c2 := c0.2.2
      replace c0 := c0.1
      have HB1 := Lib.hid b1
      clear b1
      go_wp2_with fail
      refine (rcheck_ok _ (HG.out.below HB1.out) (HA.out.below HB1.out)).mono ?_
      rintro e w2 ⟨rfl, b2⟩
      have HB2 := Lib.hid (below_tr HB1.out b2)
      clear b2 c0 c1 c2
      have c0 := (HC.out _ HB2.out)
      have c1 := c0.2.1
      have c2 := c0.2.2
      replace c0 := c0.1
      go_wp2_with fail
      refine (Int.load_ok _ (HG.out.below HB2.out) (HA.out.below HB2.out) (HV.out.below HB2.out) hVf HE.out).mono ?_
      rintro e w3 ⟨p, q, rfl, t3, b3⟩
      have HB3 := Lib.hid (below_tr HB2.out b3)
      have T3 := Lib.hid t3
      clear b3 t3 c0 c1 c2
      have c0 := (HC.out _ HB3.out)
      have c1 := c0.2.1
      have c2 := c0.2.2
      replace c0 := c0.1
      go_wp2_with fail
      refine (rload_ok _ (HG.out.below HB3.out) (HA.out.below HB3.out) (HV.out.below HB3.out) hVf HE.out).mono ?_
      rintro e w4 ⟨x, rfl, rs4, b4⟩
      obtain ⟨xa, xc, ya, yc, za, zc, rfl, ra4⟩ := rs4
      have HB4 := Lib.hid (below_tr HB3.out b4)
      have T4 := Lib.hid (T3.out.below b4)
      have R4 := Lib.hid ra4
      have HT4 := Lib.hid (HT.out.below HB4.out)
      clear b4 c0 c1 c2 ra4
      go_wp2
      generalize hW : World.alloc w4 _ = W
      have HCu : Hid (∀ w', Below W.heap.size W w' → w'.cell? ⟨w4.heap.size, 0, none⟩ = some (.slice xa (stP n G A V (.int .i64 0) n).length xc) ∧ w'.cell? ⟨w4.heap.size, 1, none⟩ = some (.slice ya (stP n G A V (.int .i64 0) n).length yc) ∧ w'.cell? ⟨w4.heap.size, 2, none⟩ = some (.slice za (stP n G A V (.int .i64 0) n).length zc)) :=
        Lib.hid (fun w' h => ⟨cell_later h (by rw [← hW]; simp [go_sem]), cell_later h (by rw [← hW]; simp [go_sem]), cell_later h (by rw [← hW]; simp [go_sem])⟩)
      have b45 : Below w4.heap.size w4 W := by rw [← hW]; exact below_box0 _ _
      have T5 := Lib.hid (T4.out.below b45)
      have R5 := Lib.hid (R4.out.below b45)
      have HT5 := Lib.hid (HT4.out.below b45)
      have HB5 := Lib.hid (below_tr HB4.out b45)
      clear hW b45
      go_region_held3 (fun w' => Below W.heap.size W w' ∧ w'.cell? ⟨w4.heap.size, 0, none⟩ = some (.slice xa (stP n G A V (.int .i64 0) n).length xc) ∧ w'.cell? ⟨w4.heap.size, 1, none⟩ = some (.slice ya (stP n G A V (.int .i64 0) n).length yc) ∧ w'.cell? ⟨w4.heap.size, 2, none⟩ = some (.slice za (stP n G A V (.int .i64 0) n).length zc))
        ((refine keepN HCu ?_; first | exact (Below.refl _ _).drew | exact And.left (by assumption) | exact bel_call (by assumption) (by assumption) | exact bel_alloc (by assumption) _))
        (first
          | (go_at_call 21; (with_reducible refine (Int.save_ok _ (T5.out.below (And.left (by assumption))) hval.out).mono ?_); rintro e w6 ⟨x6, rfl, rs6, b6⟩; have g6 : Below W.heap.size W w6 := bel_call (by assumption) b6)
          | (go_at_call 20; (refine (rsame_rs rs6 ⟨_, _, _, _, _, _, rfl, R5.out.below g6⟩ (fun j hj => hval.out j hj) (by have := hlen.out; omega)).mono ?_); rintro e w7 ⟨rfl, b7⟩; have g7 : Below W.heap.size W w7 := bel_call (by assumption) b7)
          | (go_at_call 15; (refine (awake_ok _ (HT5.out.below (And.left (by assumption)))).mono ?_); rintro e w8 ⟨rfl, b8⟩; have g8 : Below W.heap.size W w8 := bel_call (by assumption) b8))
      all_goals
        go_wp2
        go_ret
        exact ⟨rfl, (HB.out.trans (HB5.out.mono (by simp))).trans (g8.mono (by have := HB5.out.size; have := HB.out.size; simp at *; omega))⟩
    · have hb := bne0_true he
      have HE := Lib.hid he
      clear he
      go_enter Tryd.func4, Tryd.ntmps4
      go_wp2_with fail
      refine (Int.check_ok _ HG.out HA.out).mono ?_
      rintro e w1 ⟨rfl, b1⟩
      have c0 := (HC.out _ b1)
      have c1 := c0.2.1
      have c2 := c0.2.2
      replace c0 := c0.1
      have HB1 := Lib.hid b1
      clear b1
      go_wp2_with fail
      refine (rcheck_ok _ (HG.out.below HB1.out) (HA.out.below HB1.out)).mono ?_
      rintro e w2 ⟨rfl, b2⟩
      have HB2 := Lib.hid (below_tr HB1.out b2)
      clear b2 c0 c1 c2
      have c0 := (HC.out _ HB2.out)
      have c1 := c0.2.1
      have c2 := c0.2.2
      replace c0 := c0.1
      go_wp2_with fail
      refine (Int.load_err _ (HG.out.below HB2.out) (HA.out.below HB2.out) HE.out).mono ?_
      rintro e w3 ⟨rfl, b3⟩
      have HB3 := Lib.hid (below_tr HB2.out b3)
      clear b3 c0 c1 c2
      have c0 := (HC.out _ HB3.out)
      have c1 := c0.2.1
      have c2 := c0.2.2
      replace c0 := c0.1
      go_wp2_with fail
      refine (rload_err _ (HG.out.below HB3.out) (HA.out.below HB3.out) HE.out).mono ?_
      rintro e w4 ⟨rfl, b4⟩
      have HB4 := Lib.hid (below_tr HB3.out b4)
      clear b4 c0 c1 c2
      have HT4 := Lib.hid (HT.out.below HB4.out)
      go_wp2
      generalize hW : World.alloc w4 _ = W
      have b45 : Below w4.heap.size w4 W := by rw [← hW]; exact below_box0 _ _
      have HT5 := Lib.hid (HT4.out.below b45)
      have HB5 := Lib.hid (below_tr HB4.out b45)
      clear hW b45
      first | go_region_with ((go_at_call 15; refine (awake_ok _ (HT5.out.below (Below.refl _ _).drew)).mono ?_; rintro e w5 ⟨rfl, b5⟩)) | fail
      all_goals
        go_wp2
        go_ret
        exact ⟨rfl, (HB.out.trans (HB5.out.mono (by simp))).trans ((((Below.refl W.heap.size W).drew).trans b5).mono (by have := HB5.out.size; have := HB.out.size; simp at *; omega))⟩
end
end Go.Proofs.YtpaecmpiokkdnaaDoor
