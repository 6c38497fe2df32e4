/- Bits: BitsBasics returns true. -/
import Derived.Test.YtikdgnfcckenmaaDoorBoxes
import Derived.Deep.RegionHeld3
namespace Go.Proofs.YtikdgnfcckenmaaDoor
open Go.RowKit Go.Sort Go.Joins
attribute [local go_sem] cell_grow frozen_grow size_grow

theorem newW_le (N : Int) (on : Bool) : (newW N on).length ≤ 100000 := by
  unfold newW
  split
  · simp
  · rw [pack_length]; omega
theorem setW_le (N : Int) (ws : List Nat) (f t : Int) (on : Bool) (h : ws.length ≤ 100000) : (setW N ws f t on).length ≤ 100000 := by
  unfold setW
  split
  · rw [pack_length]; exact h
  · simp

set_option maxRecDepth 100000 in
set_option maxHeartbeats 3200000 in
theorem law_basics (N f t i : Int) (on : Bool) (a : Option Addr) (len cap : Nat) (ws : List Nat) (w : World) (hT : Tab w) (hs : SlK .u64 w a len ws) (hw : ∀ x ∈ ws, x < 18446744073709551616) (hlen : len ≤ 9223372036854775807) :
    Calls Tryd.prog 9 #[.agg #[.int .i64 N, .slice a len cap], .agg #[.int .i64 f, .int .i64 t, .bool on], .int .i64 i] w fun e w' => e = .returned (.bool true) ∧ Below w.heap.size w w' := by
  have HT := Lib.hid hT
  have HS := Lib.hid hs
  clear hT hs
  by_cases hfar : 100 < len
  · have hd : decide (100 < len) = true := by simpa using hfar
    go_enter Tryd.func9, Tryd.ntmps9
    go_wp2_with fail
    refine (far_ok N a len cap _).mono ?_
    rintro e w1 ⟨rfl, b1⟩
    have S1 := Lib.hid ((FAt.new (N := N) (cap := cap) HS.out HT.out f t on _ _).below b1)
    clear b1
    go_wp2_with fail
    refine (awake_ok _ S1.out.tb).mono ?_
    rintro e w2 ⟨rfl, b2⟩
    have S2 := Lib.hid (S1.out.below b2)
    clear b2
    go_wp2
    go_ret
    exact ⟨rfl, S2.out.k⟩
  · have hd : decide (100 < len) = false := by simpa using hfar
    go_enter Tryd.func9, Tryd.ntmps9
    go_wp2_with fail
    refine (far_ok N a len cap _).mono ?_
    rintro e w1 ⟨rfl, b1⟩
    have S1 := Lib.hid ((FAt.new (N := N) (cap := cap) HS.out HT.out f t on _ _).below b1)
    have c10 := S1.out.x0
    have c11 := S1.out.x2
    clear b1
    go_wp2_with fail
    refine (bNew_all f on _).mono ?_
    rintro e w2 ⟨_, rfl, ⟨a1, k1, rfl, q1⟩, b2⟩
    have S2 := Lib.hid (S1.out.below b2)
    have c20 := S2.out.x0
    have c21 := S2.out.x2
    have Q1 := Lib.hid q1
    have hA : w.heap.size + 1 < w2.heap.size := S2.out.l
    have h02 : w.heap.size < w2.heap.size := by omega
    clear b2 q1
    go_wp2_with fail
    refine (rNew_ok f on _).mono ?_
    rintro e w3 ⟨_, rfl, ⟨a2, k2, rfl, q2⟩, b3⟩
    have S3 := Lib.hid ((S2.out.below (below_box0 _ _)).below b3)
    have A3 : Hid (BBox w3 w2.heap.size (newN f) a1 (newW f on).length k1 (newW f on)) := Lib.hid ((BBox.new Q1.out _).below b3)
    have hAC : w2.heap.size < w3.heap.size := A3.out.lt
    have h03 : w.heap.size < w3.heap.size := by omega
    have h13 : w.heap.size + 1 < w3.heap.size := by omega
    have c30 := S3.out.b.n
    have c31 := S3.out.b.s
    have Q2 := Lib.hid q2
    clear b3 q2
    go_wp2_with fail
    refine (bGet_ok N i a len cap ws _ (S3.out.s.alloc _) hw hlen).mono ?_
    rintro e w4 ⟨rfl, b4⟩
    have S4 := Lib.hid ((S3.out.below (below_box0 _ _)).below b4)
    have A4 := Lib.hid ((A3.out.below (below_box0 _ _)).below b4)
    have C4 : Hid (BBox w4 w3.heap.size (newN f) a2 (newW f on).length k2 (newW f on)) := Lib.hid ((BBox.new Q2.out _).below b4)
    have c40 := S4.out.b.n
    have c41 := S4.out.b.s
    clear b4
    go_wp2_with fail
    refine (rGet_ok N i a len cap ws _ S4.out.s hw hlen).mono ?_
    rintro e w5 ⟨rfl, b5⟩
    have S5 := Lib.hid (S4.out.below b5)
    have A5 := Lib.hid (A4.out.below b5)
    have C5 := Lib.hid (C4.out.below b5)
    clear b5
    have c50 := S5.out.b.n
    have c51 := S5.out.b.s
    have c52 := A5.out.n
    have c53 := A5.out.s
    have c54 := C5.out.n
    have c55 := C5.out.s
    go_wp2_with fail
    have HC : Hid (∀ w', Below w5.heap.size w5 w' → w'.cell? ⟨w.heap.size, 0, none⟩ = some (.int .i64 N) ∧ w'.cell? ⟨w.heap.size, 1, none⟩ = some (.slice a len cap) ∧ w'.cell? ⟨w2.heap.size, 0, none⟩ = some (.int .i64 (newN f)) ∧ w'.cell? ⟨w2.heap.size, 1, none⟩ = some (.slice a1 (newW f on).length k1) ∧ w'.cell? ⟨w3.heap.size, 0, none⟩ = some (.int .i64 (newN f)) ∧ w'.cell? ⟨w3.heap.size, 1, none⟩ = some (.slice a2 (newW f on).length k2)) :=
      fun w' h => ⟨cell_later h c50, cell_later h c51, cell_later h c52, cell_later h c53, cell_later h c54, cell_later h c55⟩
    go_region_held3 (fun w' => Below w5.heap.size w5 w' ∧ w'.cell? ⟨w.heap.size, 0, none⟩ = some (.int .i64 N) ∧ w'.cell? ⟨w.heap.size, 1, none⟩ = some (.slice a len cap) ∧ w'.cell? ⟨w2.heap.size, 0, none⟩ = some (.int .i64 (newN f)) ∧ w'.cell? ⟨w2.heap.size, 1, none⟩ = some (.slice a1 (newW f on).length k1) ∧ w'.cell? ⟨w3.heap.size, 0, none⟩ = some (.int .i64 (newN f)) ∧ w'.cell? ⟨w3.heap.size, 1, none⟩ = some (.slice a2 (newW f on).length k2))
      ((refine keepN HC ?_; first | exact (Below.refl _ _).drew | exact bel_call (by assumption) (by assumption)))
      (first
        | (go_at_call 36; refine (bCheck_ok N a len cap ws _ (S5.out.s.below (And.left (by assumption))) hw hlen).mono ?_; rintro e w' ⟨rfl, hb⟩)
        | (go_at_call 21; refine (rCheck_ok N a len cap ws _ (S5.out.s.below (And.left (by assumption))) hw hlen).mono ?_; rintro e w' ⟨rfl, hb⟩)
        | (go_at_call 37; refine (rSame_ok (newN f) a1 a2 (newW f on).length k1 k2 (newW f on) _ (A5.out.k.below (And.left (by assumption))) (C5.out.k.below (And.left (by assumption))) (newW_le _ _)).mono ?_; rintro e w' ⟨rfl, hb⟩))
    have b6 : Below w5.heap.size w5 w' := And.left (by assumption)
    have S6 := Lib.hid (S5.out.below b6)
    have A6 := Lib.hid (A5.out.below b6)
    have C6 := Lib.hid (C5.out.below b6)
    clear b6
    have d0 := S6.out.b.n
    have d1 := S6.out.b.s
    have d2 := S6.out.x0
    have d3 := S6.out.x1
    have d4 := S6.out.x2
    go_wp2_with fail
    refine (bSet_all N f t on a len cap ws _ S6.out.s hw hlen).mono ?_
    rintro e w7 ⟨_, rfl, ⟨a3, k3, rfl, q3⟩, b7⟩
    have S7 := Lib.hid (S6.out.below b7)
    have A7 := Lib.hid (A6.out.below b7)
    have C7 := Lib.hid (C6.out.below b7)
    have Q3 := Lib.hid q3
    clear b7 q3
    have e0 := S7.out.b.n
    have e1 := S7.out.b.s
    have e2 := S7.out.x0
    have e3 := S7.out.x1
    have e4 := S7.out.x2
    have e5 := A7.out.n
    have e6 := A7.out.s
    have e7 := A7.out.f0
    have e8 := A7.out.f1
    have hne : w2.heap.size ≠ w3.heap.size := by omega
    go_wp2_with fail
    refine (rSet_ok N f t on a len cap ws _ (S7.out.put A7.out hA HT.out _ _).s hw hlen).mono ?_
    rintro e w8 ⟨_, rfl, ⟨a4, k4, rfl, q4⟩, b8⟩
    have S8 := Lib.hid ((S7.out.put A7.out hA HT.out _ _).below b8)
    have A8 := Lib.hid ((A7.out.put Q3.out).below b8)
    have C8 := Lib.hid ((C7.out.keep A7.out hne _ _).below b8)
    have Q4 := Lib.hid q4
    clear b8 q4
    have g0 := S8.out.b.n
    have g1 := S8.out.b.s
    have g2 := S8.out.x0
    have g3 := S8.out.x1
    have g5 := C8.out.n
    have g6 := C8.out.s
    have g7 := C8.out.f0
    have g8 := C8.out.f1
    go_wp2_with fail
    refine (bCount_ok N f t a len cap ws _ (S8.out.put C8.out h13 HT.out _ _).s hw hlen).mono ?_
    rintro e w9 ⟨rfl, b9⟩
    have S9 := Lib.hid ((S8.out.put C8.out h13 HT.out _ _).below b9)
    have A9 := Lib.hid ((A8.out.keep C8.out hne.symm _ _).below b9)
    have C9 := Lib.hid ((C8.out.put Q4.out).below b9)
    clear b9
    have m0 := S9.out.b.n
    have m1 := S9.out.b.s
    have m2 := S9.out.x0
    have m3 := S9.out.x1
    go_wp2_with fail
    refine (rCount_ok N f t a len cap ws _ S9.out.s hw hlen).mono ?_
    rintro e w10 ⟨rfl, b10⟩
    have S10 := Lib.hid (S9.out.below b10)
    have A10 := Lib.hid (A9.out.below b10)
    have C10 := Lib.hid (C9.out.below b10)
    clear b10
    have o0 := A10.out.n
    have o1 := A10.out.s
    have o2 := C10.out.n
    have o3 := C10.out.s
    go_wp2_with fail
    refine (rSame_ok _ a3 a4 _ k3 k4 _ _ A10.out.k C10.out.k (setW_le N ws f t on (by have := S10.out.s.length; omega))).mono ?_
    rintro e w11 ⟨rfl, b11⟩
    have S11 := Lib.hid (S10.out.below b11)
    clear b11
    go_wp2_with fail
    refine (awake_ok _ S11.out.tb).mono ?_
    rintro e w12 ⟨rfl, b12⟩
    have S12 := Lib.hid (S11.out.below b12)
    clear b12
    go_wp2
    go_ret
    exact ⟨rfl, S12.out.k⟩
end Go.Proofs.YtikdgnfcckenmaaDoor
