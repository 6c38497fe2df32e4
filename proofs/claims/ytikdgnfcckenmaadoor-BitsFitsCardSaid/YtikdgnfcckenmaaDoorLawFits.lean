/- Bits: BitsFits returns true. -/
import Derived.Test.YtikdgnfcckenmaaDoorRefV
import Derived.Test.YtikdgnfcckenmaaDoorBitsW
import Derived.Test.YtikdgnfcckenmaaDoorSAtB
import Derived.Test.YtikdgnfcckenmaaDoorBitsO
namespace Go.Proofs.YtikdgnfcckenmaaDoor
open Go.RowKit Go.Sort Go.Joins
attribute [local go_sem] cell_grow frozen_grow size_grow

set_option maxRecDepth 100000 in
set_option maxHeartbeats 3200000 in
theorem law_fits (N m fr : Int) (a : Option Addr) (len cap : Nat) (ws : List Nat) (w : World) (hT : Tab w) (hs : SlK .u64 w a len ws) (hw : ∀ x ∈ ws, x < 18446744073709551616) (hlen : len ≤ 9223372036854775807) (hm : m ≤ 9223372036854775807) :
    Calls Tryd.prog 3 #[.agg #[.int .i64 N, .slice a len cap], .int .i64 m, .int .i64 fr] w fun e w' => e = .returned (.bool true) ∧ Below w.heap.size w w' := by
  have S0 := Lib.hid (SAt.mk (AtBits.new w N a len cap 24) (hs.alloc _) (hT.alloc _) (below_box0 _ _) (by simp))
  have c0 := S0.out.b.n
  have c1 := S0.out.b.s
  clear hT hs
  by_cases h20 : 20 < len ∧ len ≤ 64
  · have hd1 : decide ((20 : Int) < (len : Int)) = true := by rw [decide_eq_true_eq]; omega
    have hd2 : decide ((len : Int) ≤ 64) = true := by rw [decide_eq_true_eq]; omega
    clear h20
    go_enter Tryd.func3, Tryd.ntmps3
    go_wp2_with (go_at_call 14; refine (awake_ok _ S0.out.t).mono ?_; rintro e w2 ⟨rfl, b2⟩; have S2 := Lib.hid (S0.out.below b2); clear b2)
    go_ret
    exact ⟨rfl, S2.out.k⟩
  · by_cases hfar : 100 < len
    · have hd : decide (100 < len) = true := by simpa using hfar
      have hd1 : decide ((20 : Int) < (len : Int)) = true := by rw [decide_eq_true_eq]; omega
      have hd2 : decide ((len : Int) ≤ 64) = false := by rw [decide_eq_false_iff_not]; omega
      clear h20
      go_enter Tryd.func3, Tryd.ntmps3
      go_wp2_with fail
      refine (far_ok N a len cap _).mono ?_
      rintro e w1 ⟨rfl, b1⟩
      have S1 := Lib.hid (S0.out.below b1)
      clear b1
      go_wp2_with fail
      refine (awake_ok _ S1.out.t).mono ?_
      rintro e w2 ⟨rfl, b2⟩
      have S2 := Lib.hid (S1.out.below b2)
      clear b2
      go_wp2
      go_ret
      exact ⟨rfl, S2.out.k⟩
    · have hd : decide (100 < len) = false := by simpa using hfar
      by_cases h2 : 20 < len
      all_goals
        first
          | (have hd1 : decide ((20 : Int) < (len : Int)) = true := by rw [decide_eq_true_eq]; omega
             have hd2 : decide ((len : Int) ≤ 64) = false := by rw [decide_eq_false_iff_not]; omega
             clear h20 h2)
          | (have hd1 : decide ((20 : Int) < (len : Int)) = false := by rw [decide_eq_false_iff_not]; omega
             clear h20 h2)
        go_enter Tryd.func3, Tryd.ntmps3
        go_wp2_with fail
        refine (far_ok N a len cap _).mono ?_
        rintro e w1 ⟨rfl, b1⟩
        have S1 := Lib.hid (S0.out.below b1)
        have c2 := S1.out.b.n
        have c3 := S1.out.b.s
        clear b1
        go_wp2_with fail
        refine (bFit_all N m fr a len cap ws _ S1.out.t S1.out.s hw hlen hm).mono ?_
        rintro e w2 ⟨rfl, b2⟩
        have S2 := Lib.hid (S1.out.below b2)
        have c2_0 := S2.out.b.n
        have c2_1 := S2.out.b.s
        clear b2
        go_wp2_with fail
        refine (rFit_ok N m fr a len cap ws _ S2.out.s hw hlen hm).mono ?_
        rintro e w3 ⟨rfl, b3⟩
        have S3 := Lib.hid (S2.out.below b3)
        have c3_0 := S3.out.b.n
        have c3_1 := S3.out.b.s
        clear b3
        go_wp2_with fail
        refine (bBest_all N m a len cap ws _ S3.out.t S3.out.s hw hlen hm).mono ?_
        rintro e w4 ⟨rfl, b4⟩
        have S4 := Lib.hid (S3.out.below b4)
        have c4_0 := S4.out.b.n
        have c4_1 := S4.out.b.s
        clear b4
        go_wp2_with fail
        refine (rBest_ok N m a len cap ws _ S4.out.s hw hlen hm).mono ?_
        rintro e w5 ⟨rfl, b5⟩
        have S5 := Lib.hid (S4.out.below b5)
        have c5_0 := S5.out.b.n
        have c5_1 := S5.out.b.s
        clear b5
        go_wp2_with fail
        refine (bBlock_all N m a len cap ws _ S5.out.t S5.out.s hw hlen).mono ?_
        rintro e w6 ⟨rfl, b6⟩
        have S6 := Lib.hid (S5.out.below b6)
        have c6_0 := S6.out.b.n
        have c6_1 := S6.out.b.s
        clear b6
        go_wp2_with fail
        refine (rBlock_ok N m a len cap ws _ S6.out.s hw hlen).mono ?_
        rintro e w7 ⟨rfl, b7⟩
        have S7 := Lib.hid (S6.out.below b7)
        have c7_0 := S7.out.b.n
        have c7_1 := S7.out.b.s
        clear b7
        go_wp2_with fail
        refine (awake_ok _ S7.out.t).mono ?_
        rintro e w8 ⟨rfl, b8⟩
        have S8 := Lib.hid (S7.out.below b8)
        have c8_0 := S8.out.b.n
        have c8_1 := S8.out.b.s
        clear b8
        go_wp2
        go_ret
        exact ⟨rfl, S8.out.k⟩
end Go.Proofs.YtikdgnfcckenmaaDoor
