/- Bits: BitsRuns returns true. -/
import Derived.Test.YtikdgnfcckenmaaDoorRefS
import Derived.Test.YtikdgnfcckenmaaDoorBitsO
import Derived.Test.YtikdgnfcckenmaaDoorLawSearch
namespace Go.Proofs.YtikdgnfcckenmaaDoor
open Go.RowKit Go.Sort Go.Joins
attribute [local go_sem] cell_grow frozen_grow size_grow

set_option maxRecDepth 100000 in
set_option maxHeartbeats 1600000 in
theorem law_runs (N : Int) (on : Bool) (a : Option Addr) (len cap : Nat) (ws : List Nat) (w : World) (hT : Tab w) (hs : SlK .u64 w a len ws) (hw : ∀ x ∈ ws, x < 18446744073709551616) (hlen : len ≤ 9223372036854775807) :
    Calls Tryd.prog 5 #[.agg #[.int .i64 N, .slice a len cap], .bool on] w fun e w' => e = .returned (.bool true) ∧ Below w.heap.size w w' := by
  have S0 := Lib.hid (SAt.mk (AtBits.new w N a len cap 24) (hs.alloc _) (hT.alloc _) (below_box0 _ _) (by simp))
  clear hT hs
  by_cases hfar : 100 < len
  · have hd : decide (100 < len) = true := by simpa using hfar
    go_enter Tryd.func5, Tryd.ntmps5
    go_wp2_with fail
    refine (far_ok N a len cap _).mono ?_
    rintro e w1 ⟨rfl, b1⟩
    have S1 := Lib.hid (S0.out.below b1)
    clear b1
    go_wp2_with fail
    refine (awake_ok _ S1.out.t).mono ?_
    rintro e w2 ⟨rfl, b2⟩
    have S2 := Lib.hid (S1.out.below b2)
    clear b2
    go_wp2
    go_ret
    exact ⟨rfl, S2.out.k⟩
  · have hd : decide (100 < len) = false := by simpa using hfar
    go_enter Tryd.func5, Tryd.ntmps5
    go_wp2_with fail
    refine (far_ok N a len cap _).mono ?_
    rintro e w1 ⟨rfl, b1⟩
    have S1 := Lib.hid (S0.out.below b1)
    have c1 := S1.out.b.n
    have c2 := S1.out.b.s
    clear b1
    go_wp2_with fail
    refine (bRuns_ok N on a len cap ws _ S1.out.t S1.out.t.lt S1.out.s hw hlen).mono ?_
    rintro e w2 ⟨v, rfl, q2, b2⟩
    have S2 := Lib.hid (S1.out.below b2)
    have Q2 := Lib.hid q2
    have c3 := S2.out.b.n
    have c4 := S2.out.b.s
    clear b2 q2
    go_wp2_with fail
    refine (rRuns_ok N on a len cap ws _ S2.out.s hw hlen).mono ?_
    rintro e w3 ⟨u, rfl, q3, b3⟩
    have S3 := Lib.hid (S2.out.below b3)
    have Q3 := Lib.hid (Q2.out.below b3)
    have P3 := Lib.hid q3
    clear b3 q3
    go_wp2_with fail
    refine (rSameRuns_ok _ Q3.out P3.out (runsV_le _ _ _)).mono ?_
    rintro e w4 ⟨rfl, b4⟩
    have S4 := Lib.hid (S3.out.below b4)
    clear b4
    go_wp2_with fail
    refine (awake_ok _ S4.out.t).mono ?_
    rintro e w5 ⟨rfl, b5⟩
    have S5 := Lib.hid (S4.out.below b5)
    clear b5
    go_wp2
    go_ret
    exact ⟨rfl, S5.out.k⟩
end Go.Proofs.YtikdgnfcckenmaaDoor
