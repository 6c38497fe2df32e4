/- Bits: BitsJoins returns true. -/
import Derived.Test.YtikdgnfcckenmaaDoorBitsFl
import Derived.Test.YtikdgnfcckenmaaDoorBoxes
namespace Go.Proofs.YtikdgnfcckenmaaDoor
open Go.RowKit Go.Sort Go.Joins
attribute [local go_sem] cell_grow frozen_grow size_grow

theorem RAt2.put {w : World} {N : Int} {a : Option Addr} {len cap : Nat} {ws : List Nat} {M : Int} {b : Option Addr} {lb cb : Nat} {vs : List Nat} {W : World} (h : RAt2 w N a len cap ws M b lb cb vs W) {A : Nat} {N0 : Int} {a0 : Option Addr} {L0 cap0 : Nat} {ws0 : List Nat} (h0 : BBox W A N0 a0 L0 cap0 ws0) (hA : w.heap.size + 1 < A) (u v : Value) :
    RAt2 w N a len cap ws M b lb cb vs ((W.setCell ⟨A, 0, none⟩ u).setCell ⟨A, 1, none⟩ v) := by
  have hb : Below w.heap.size w ((W.setCell ⟨A, 0, none⟩ u).setCell ⟨A, 1, none⟩ v) := (h.k.setCell (p := ⟨A, 0, none⟩) (by dsimp only; omega) u).setCell (p := ⟨A, 1, none⟩) (by dsimp only; omega) v
  have E : ∀ B, B < A → ((W.setCell ⟨A, 0, none⟩ u).setCell ⟨A, 1, none⟩ v).heap[B]? = W.heap[B]? := fun B hB => (Below.heap_setCell _ _ _ _ (by dsimp only; omega)).trans (Below.heap_setCell _ _ _ _ (by dsimp only; omega))
  exact ⟨⟨(World.cell?_of_block (E _ (by dsimp only; omega))).trans h.p.n, (World.cell?_of_block (E _ (by dsimp only; omega))).trans h.p.s⟩, ⟨(World.cell?_of_block (E _ hA)).trans h.q.n, (World.cell?_of_block (E _ hA)).trans h.q.s⟩, h.s.put h0.n h0.s _ _, h.t.put h0.n h0.s _ _, hb, by simpa [World.setCell] using h.l⟩
theorem joinW_le (o : Bool → Bool → Bool) (N : Int) (ws : List Nat) (M : Int) (vs : List Nat) (h : ws.length ≤ 100000) : (joinW o N ws M vs).length ≤ 100000 := by
  unfold joinW
  split
  · rw [pack_length]; exact h
  · simp
theorem flipW_le (N : Int) (ws : List Nat) (h : ws.length ≤ 100000) : (flipW N ws).length ≤ 100000 := by
  unfold flipW
  split
  · rw [pack_length]; exact h
  · simp

set_option maxRecDepth 100000 in
set_option maxHeartbeats 6400000 in
theorem law_joins (N : Int) (a : Option Addr) (len cap : Nat) (ws : List Nat) (M : Int) (b : Option Addr) (lb cb : Nat) (vs : List Nat) (w : World) (hT : Tab w) (hs : SlK .u64 w a len ws) (ht : SlK .u64 w b lb vs) (hw : ∀ x ∈ ws, x < 18446744073709551616) (hv : ∀ x ∈ vs, x < 18446744073709551616) (hlen : len ≤ 9223372036854775807) (hlb : lb ≤ 9223372036854775807) :
    Calls Tryd.prog 10 #[.agg #[.int .i64 N, .slice a len cap], .agg #[.int .i64 M, .slice b lb cb]] w fun e w' => e = .returned (.bool true) ∧ Below w.heap.size w w' := by
  have HT := Lib.hid hT
  have S0 := Lib.hid (RAt2.new (N := N) (M := M) (cap := cap) (cb := cb) hs ht 24 24)
  clear hT hs ht
  by_cases hfar : 100 < len
  · have hd : decide (100 < len) = true := by simpa using hfar
    go_enter Tryd.func10, Tryd.ntmps10
    go_wp2_with fail
    refine (far_ok N a len cap _).mono ?_
    rintro e w1 ⟨rfl, b1⟩
    have S1 := Lib.hid (S0.out.below b1)
    clear b1
    go_wp2_with fail
    refine (awake_ok _ (HT.out.below S1.out.k)).mono ?_
    rintro e w2 ⟨rfl, b2⟩
    have S2 := Lib.hid (S1.out.below b2)
    clear b2
    go_wp2
    go_ret
    exact ⟨rfl, S2.out.k⟩
  have hd : decide (100 < len) = false := by simpa using hfar
  by_cases hfar2 : 100 < lb
  · have hd2 : decide (100 < lb) = true := by simpa using hfar2
    go_enter Tryd.func10, Tryd.ntmps10
    go_wp2_with fail
    refine (far_ok N a len cap _).mono ?_
    rintro e w1 ⟨rfl, b1⟩
    have S1 := Lib.hid (S0.out.below b1)
    have c1 := S1.out.q.n
    have c2 := S1.out.q.s
    clear b1
    go_wp2_with fail
    refine (far_ok M b lb cb _).mono ?_
    rintro e w2 ⟨rfl, b2⟩
    have S2 := Lib.hid (S1.out.below b2)
    clear b2
    go_wp2_with fail
    refine (awake_ok _ (HT.out.below S2.out.k)).mono ?_
    rintro e w3 ⟨rfl, b3⟩
    have S3 := Lib.hid (S2.out.below b3)
    clear b3
    go_wp2
    go_ret
    exact ⟨rfl, S3.out.k⟩
  have hd2 : decide (100 < lb) = false := by simpa using hfar2
  have hle : Hid (ws.length ≤ 100000) := Lib.hid (by have := S0.out.s.length; omega)
  go_enter Tryd.func10, Tryd.ntmps10
  go_wp2_with fail
  refine (far_ok N a len cap _).mono ?_
  rintro e w1 ⟨rfl, b1⟩
  have S1 := Lib.hid (S0.out.below b1)
  have c11 := S1.out.q.n
  have c12 := S1.out.q.s
  clear b1
  go_wp2_with fail
  refine (far_ok M b lb cb _).mono ?_
  rintro e w2 ⟨rfl, b2⟩
  have S2 := Lib.hid (S1.out.below b2)
  have c21 := S2.out.p.n
  have c22 := S2.out.p.s
  have c23 := S2.out.q.n
  have c24 := S2.out.q.s
  clear b2 c11 c12
  -- And
  go_wp2_with fail
  refine (bAnd_ok N a len cap ws M b lb cb vs _ S2.out.s S2.out.t hw hv hlen hlb).mono ?_
  rintro e w3 ⟨_, rfl, ⟨a1, k1, rfl, q1⟩, b3⟩
  have S3 := Lib.hid (S2.out.below b3)
  have Q1 := Lib.hid q1
  have h13 : w.heap.size + 1 < w3.heap.size := S3.out.l
  have h03 : w.heap.size < w3.heap.size := by omega
  have c31 := S3.out.p.n
  have c32 := S3.out.p.s
  have c33 := S3.out.q.n
  have c34 := S3.out.q.s
  clear b3 q1 c21 c22 c23 c24
  go_wp2_with fail
  refine (rAnd_ok N a len cap ws M b lb cb vs _ (S3.out.s.alloc _) (S3.out.t.alloc _) hw hv hlen hlb).mono ?_
  rintro e w4 ⟨_, rfl, ⟨a2, k2, rfl, q2⟩, b4⟩
  have S4 := Lib.hid ((S3.out.below (below_box0 _ _)).below b4)
  have A4 : Hid (BBox w4 w3.heap.size (joinN N ws M vs) a1 (joinW (fun x y => x && y) N ws M vs).length k1 (joinW (fun x y => x && y) N ws M vs)) := Lib.hid ((BBox.new Q1.out _).below b4)
  have Q2 := Lib.hid q2
  have hAC : w3.heap.size < w4.heap.size := A4.out.lt
  have h04 : w.heap.size < w4.heap.size := by omega
  have h14 : w.heap.size + 1 < w4.heap.size := by omega
  have hne : w3.heap.size ≠ w4.heap.size := by omega
  have c41 := A4.out.n
  have c42 := A4.out.s
  clear b4 q2 c31 c32 c33 c34
  go_wp2_with fail
  refine (rSame_ok _ a1 a2 _ k1 k2 _ _ (A4.out.k.alloc _) (Q2.out.alloc _) (joinW_le _ _ _ _ _ hle.out)).mono ?_
  rintro e w5 ⟨rfl, b5⟩
  have S5 := Lib.hid ((S4.out.below (below_box0 _ _)).below b5)
  have A5 := Lib.hid ((A4.out.below (below_box0 _ _)).below b5)
  have C5 : Hid (BBox w5 w4.heap.size (joinN N ws M vs) a2 (joinW (fun x y => x && y) N ws M vs).length k2 (joinW (fun x y => x && y) N ws M vs)) := Lib.hid ((BBox.new Q2.out _).below b5)
  have c51 := S5.out.p.n
  have c52 := S5.out.p.s
  have c53 := S5.out.q.n
  have c54 := S5.out.q.s
  clear b5 c41 c42
  -- Or
  go_wp2_with fail
  refine (bOr_ok N a len cap ws M b lb cb vs _ S5.out.s S5.out.t hw hv hlen hlb).mono ?_
  rintro e w6 ⟨_, rfl, ⟨a3, k3, rfl, q3⟩, b6⟩
  have S6 := Lib.hid (S5.out.below b6)
  have A6 := Lib.hid (A5.out.below b6)
  have C6 := Lib.hid (C5.out.below b6)
  have Q3 := Lib.hid q3
  have c61 := S6.out.p.n
  have c62 := S6.out.p.s
  have c63 := S6.out.q.n
  have c64 := S6.out.q.s
  have c65 := A6.out.n
  have c66 := A6.out.s
  have c67 := A6.out.f0
  have c68 := A6.out.f1
  clear b6 q3 c51 c52 c53 c54
  go_wp2_with fail
  refine (rOr_ok N a len cap ws M b lb cb vs _ (S6.out.put A6.out h13 _ _).s (S6.out.put A6.out h13 _ _).t hw hv hlen hlb).mono ?_
  rintro e w7 ⟨_, rfl, ⟨a4, k4, rfl, q4⟩, b7⟩
  have S7 := Lib.hid ((S6.out.put A6.out h13 _ _).below b7)
  have A7 := Lib.hid ((A6.out.put Q3.out).below b7)
  have C7 := Lib.hid ((C6.out.keep A6.out hne _ _).below b7)
  have Q4 := Lib.hid q4
  have c71 := A7.out.n
  have c72 := A7.out.s
  have c75 := C7.out.n
  have c76 := C7.out.s
  have c77 := C7.out.f0
  have c78 := C7.out.f1
  clear b7 q4 c61 c62 c63 c64 c65 c66 c67 c68
  go_wp2_with fail
  refine (rSame_ok _ a3 a4 _ k3 k4 _ _ (A7.out.keep C7.out hne.symm _ _).k (C7.out.put Q4.out).k (joinW_le _ _ _ _ _ hle.out)).mono ?_
  rintro e w8 ⟨rfl, b8⟩
  have S8 := Lib.hid ((S7.out.put C7.out h14 _ _).below b8)
  have A8 := Lib.hid ((A7.out.keep C7.out hne.symm _ _).below b8)
  have C8 := Lib.hid ((C7.out.put Q4.out).below b8)
  have c81 := S8.out.p.n
  have c82 := S8.out.p.s
  have c83 := S8.out.q.n
  have c84 := S8.out.q.s
  clear b8 c71 c72 c75 c76 c77 c78
  -- Less
  go_wp2_with fail
  refine (bLess_ok N a len cap ws M b lb cb vs _ S8.out.s S8.out.t hw hv hlen hlb).mono ?_
  rintro e w9 ⟨_, rfl, ⟨a5, k5, rfl, q5⟩, b9⟩
  have S9 := Lib.hid (S8.out.below b9)
  have A9 := Lib.hid (A8.out.below b9)
  have C9 := Lib.hid (C8.out.below b9)
  have Q5 := Lib.hid q5
  have c91 := S9.out.p.n
  have c92 := S9.out.p.s
  have c93 := S9.out.q.n
  have c94 := S9.out.q.s
  have c95 := A9.out.n
  have c96 := A9.out.s
  have c97 := A9.out.f0
  have c98 := A9.out.f1
  clear b9 q5 c81 c82 c83 c84
  go_wp2_with fail
  refine (rLess_ok N a len cap ws M b lb cb vs _ (S9.out.put A9.out h13 _ _).s (S9.out.put A9.out h13 _ _).t hw hv hlen hlb).mono ?_
  rintro e w10 ⟨_, rfl, ⟨a6, k6, rfl, q6⟩, b10⟩
  have S10 := Lib.hid ((S9.out.put A9.out h13 _ _).below b10)
  have A10 := Lib.hid ((A9.out.put Q5.out).below b10)
  have C10 := Lib.hid ((C9.out.keep A9.out hne _ _).below b10)
  have Q6 := Lib.hid q6
  have d1 := S10.out.p.n
  have d2 := S10.out.p.s
  have d5 := C10.out.n
  have d6 := C10.out.s
  have d7 := C10.out.f0
  have d8 := C10.out.f1
  clear b10 q6 c91 c92 c93 c94 c95 c96 c97 c98
  -- Flip
  go_wp2_with fail
  refine (bFlip_ok N a len cap ws _ (S10.out.put C10.out h14 _ _).s hw hlen).mono ?_
  rintro e w11 ⟨_, rfl, ⟨a7, k7, rfl, q7⟩, b11⟩
  have S11 := Lib.hid ((S10.out.put C10.out h14 _ _).below b11)
  have A11 := Lib.hid ((A10.out.keep C10.out hne.symm _ _).below b11)
  have C11 := Lib.hid ((C10.out.put Q6.out).below b11)
  have Q7 := Lib.hid q7
  have e1 := S11.out.p.n
  have e2 := S11.out.p.s
  have x1 : w.heap.size + 1 < w11.heap.size := S11.out.l
  have x0 : w.heap.size < w11.heap.size := by omega
  have x2 : w3.heap.size < w11.heap.size := A11.out.lt
  have x3 : w4.heap.size < w11.heap.size := C11.out.lt
  clear b11 q7 d1 d2 d5 d6 d7 d8
  go_wp2_with fail
  refine (rFlip_ok N a len cap ws _ (S11.out.s.alloc _) hw hlen).mono ?_
  rintro e w12 ⟨_, rfl, ⟨a8, k8, rfl, q8⟩, b12⟩
  have S12 := Lib.hid ((S11.out.below (below_box0 _ _)).below b12)
  have A12 := Lib.hid ((A11.out.below (below_box0 _ _)).below b12)
  have C12 := Lib.hid ((C11.out.below (below_box0 _ _)).below b12)
  have U12 : Hid (BBox w12 w11.heap.size (flipN N ws) a7 (flipW N ws).length k7 (flipW N ws)) := Lib.hid ((BBox.new Q7.out _).below b12)
  have Q8 := Lib.hid q8
  have y2 : w3.heap.size < w12.heap.size := A12.out.lt
  have y3 : w4.heap.size < w12.heap.size := C12.out.lt
  have y4 : w11.heap.size < w12.heap.size := U12.out.lt
  have g1 := A12.out.n
  have g2 := A12.out.s
  have g3 := C12.out.n
  have g4 := C12.out.s
  clear b12 q8 e1 e2
  go_wp2_with fail
  refine (rSame_ok _ a5 a6 _ k5 k6 _ _ (A12.out.k.alloc _) (C12.out.k.alloc _) (joinW_le _ _ _ _ _ hle.out)).mono ?_
  rintro e w13 ⟨rfl, b13⟩
  have S13 := Lib.hid ((S12.out.below (below_box0 _ _)).below b13)
  have U13 := Lib.hid ((U12.out.below (below_box0 _ _)).below b13)
  have V13 : Hid (BBox w13 w12.heap.size (flipN N ws) a8 (flipW N ws).length k8 (flipW N ws)) := Lib.hid ((BBox.new Q8.out _).below b13)
  have i1 := U13.out.n
  have i2 := U13.out.s
  have i3 := V13.out.n
  have i4 := V13.out.s
  clear b13 g1 g2 g3 g4
  go_wp2_with fail
  refine (rSame_ok _ a7 a8 _ k7 k8 _ _ U13.out.k V13.out.k (flipW_le _ _ hle.out)).mono ?_
  rintro e w14 ⟨rfl, b14⟩
  have S14 := Lib.hid (S13.out.below b14)
  clear b14
  go_wp2_with fail
  refine (awake_ok _ (HT.out.below S14.out.k)).mono ?_
  rintro e w15 ⟨rfl, b15⟩
  have S15 := Lib.hid (S14.out.below b15)
  clear b15
  go_wp2
  go_ret
  exact ⟨rfl, S15.out.k⟩
end Go.Proofs.YtikdgnfcckenmaaDoor
