/- Bits: BitsFinds returns true. -/
import Derived.Test.YtikdgnfcckenmaaDoorBitsO
namespace Go.Proofs.YtikdgnfcckenmaaDoor
open Go.RowKit Go.Sort Go.Joins
attribute [local go_sem] cell_grow frozen_grow size_grow

set_option maxRecDepth 100000 in
set_option maxHeartbeats 3200000 in
theorem law_finds (N f t k : Int) (on : Bool) (a : Option Addr) (len cap : Nat) (ws : List Nat) (w : World) (hT : Tab w) (hs : SlK .u64 w a len ws) (hw : ∀ x ∈ ws, x < 18446744073709551616) (hlen : len ≤ 9223372036854775807) (hk : k ≤ 9223372036854775807) :
    Calls Tryd.prog 7 #[.agg #[.int .i64 N, .slice a len cap], .agg #[.int .i64 f, .int .i64 t, .bool on], .int .i64 k] w fun e w' => e = .returned (.bool true) ∧ Below w.heap.size w w' := by
  have HT := Lib.hid hT
  have HS := Lib.hid hs
  clear hT hs
  by_cases hfar : 100 < len
  · have hd : decide (100 < len) = true := by simpa using hfar
    go_enter Tryd.func7, Tryd.ntmps7
    go_wp2_with fail
    refine (far_ok N a len cap _).mono ?_
    rintro e w1 ⟨rfl, b1⟩
    have S1 := Lib.hid ((FAt.new (N := N) (cap := cap) HS.out HT.out f t on _ _).below b1)
    clear b1
    go_wp2_with fail
    refine (awake_ok _ S1.out.tb).mono ?_
    rintro e w2 ⟨rfl, b2⟩
    have S2 := Lib.hid (S1.out.below b2)
    clear b2
    go_wp2
    go_ret
    exact ⟨rfl, S2.out.k⟩
  · have hd : decide (100 < len) = false := by simpa using hfar
    go_enter Tryd.func7, Tryd.ntmps7
    go_wp2_with fail
    refine (far_ok N a len cap _).mono ?_
    rintro e w1 ⟨rfl, b1⟩
    have S1 := Lib.hid ((FAt.new (N := N) (cap := cap) HS.out HT.out f t on _ _).below b1)
    have c1 := S1.out.b.n
    have c2 := S1.out.b.s
    have c3 := S1.out.x2
    clear b1
    go_wp2_with fail
    refine (bSelect_all N k on a len cap ws _ S1.out.tb S1.out.s hw hlen hk).mono ?_
    rintro e w2 ⟨rfl, b2⟩
    have S2 := Lib.hid (S1.out.below b2)
    have c2_0 := S2.out.b.n
    have c2_1 := S2.out.b.s
    have c2_2 := S2.out.x0
    have c2_3 := S2.out.x1
    have c2_4 := S2.out.x2
    clear b2
    go_wp2_with fail
    refine (rSelect_ok N k on a len cap ws _ S2.out.s hw hlen hk).mono ?_
    rintro e w3 ⟨rfl, b3⟩
    have S3 := Lib.hid (S2.out.below b3)
    have c3_0 := S3.out.b.n
    have c3_1 := S3.out.b.s
    have c3_2 := S3.out.x0
    have c3_3 := S3.out.x1
    have c3_4 := S3.out.x2
    clear b3
    go_wp2_with fail
    refine (bNext_ok N f on a len cap ws _ S3.out.tb S3.out.s hw hlen).mono ?_
    rintro e w4 ⟨rfl, b4⟩
    have S4 := Lib.hid (S3.out.below b4)
    have c4_0 := S4.out.b.n
    have c4_1 := S4.out.b.s
    have c4_2 := S4.out.x0
    have c4_3 := S4.out.x1
    have c4_4 := S4.out.x2
    clear b4
    go_wp2_with fail
    refine (rNext_ok N f on a len cap ws _ S4.out.s hw hlen).mono ?_
    rintro e w5 ⟨rfl, b5⟩
    have S5 := Lib.hid (S4.out.below b5)
    have c5_0 := S5.out.b.n
    have c5_1 := S5.out.b.s
    have c5_2 := S5.out.x0
    have c5_3 := S5.out.x1
    have c5_4 := S5.out.x2
    clear b5
    go_wp2_with fail
    refine (bLast_ok N t on a len cap ws _ S5.out.s hw hlen).mono ?_
    rintro e w6 ⟨rfl, b6⟩
    have S6 := Lib.hid (S5.out.below b6)
    have c6_0 := S6.out.b.n
    have c6_1 := S6.out.b.s
    have c6_2 := S6.out.x0
    have c6_3 := S6.out.x1
    have c6_4 := S6.out.x2
    clear b6
    go_wp2_with fail
    refine (rLast_ok N t on a len cap ws _ S6.out.s hw hlen).mono ?_
    rintro e w7 ⟨rfl, b7⟩
    have S7 := Lib.hid (S6.out.below b7)
    have c7_0 := S7.out.b.n
    have c7_1 := S7.out.b.s
    have c7_2 := S7.out.x0
    have c7_3 := S7.out.x1
    have c7_4 := S7.out.x2
    clear b7
    go_wp2_with fail
    refine (awake_ok _ S7.out.tb).mono ?_
    rintro e w8 ⟨rfl, b8⟩
    have S8 := Lib.hid (S7.out.below b8)
    have c8_0 := S8.out.b.n
    have c8_1 := S8.out.b.s
    have c8_2 := S8.out.x0
    have c8_3 := S8.out.x1
    have c8_4 := S8.out.x2
    clear b8
    go_wp2
    go_ret
    exact ⟨rfl, S8.out.k⟩
end Go.Proofs.YtikdgnfcckenmaaDoor
