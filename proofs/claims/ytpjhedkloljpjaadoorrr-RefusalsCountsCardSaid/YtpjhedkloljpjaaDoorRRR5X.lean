/- Refusals: RefusalsCounts: the counters in memory. -/
import Derived.Test.YtpjhedkloljpjaaDoorRRR5W
import Derived.Test.YtpjhedkloljpjaaDoorRRR5J
import Derived.Test.YtpjhedkloljpjaaDoorRRR5S
import Derived.Test.YtpjhedkloljpjaaDoorRRR5U
import Derived.Test.YtpjhedkloljpjaaDoorRRSlZ
namespace Go.Proofs.YtpjhedkloljpjaaDoorRR
open Go.RowKit Go.Sort Go.Joins Go.Shelf
/-- seven counters in a box -/
structure A7 (W : World) (B : Nat) (C : Nat → Int) : Prop where
  b : W.heap[B]? = some (.cells #[.int .i64 (C 0), .int .i64 (C 1), .int .i64 (C 2), .int .i64 (C 3), .int .i64 (C 4), .int .i64 (C 5), .int .i64 (C 6)] 36 (0, 0))
section
variable {W W' : World} {B : Nat} {C : Nat → Int}
theorem A7.below (h : A7 W B C) (hb : Below W.heap.size W W') : A7 W' B C := ⟨(hb.block _ (blk_lt h.b)).trans h.b⟩
theorem A7.lt (h : A7 W B C) : B < W.heap.size := blk_lt h.b
theorem A7.fz (h : A7 W B C) (j : Nat) : W.frozen? ⟨B, j, none⟩ = false := unfrozen_of_block h.b j
theorem A7.c (h : A7 W B C) {k : Nat} (hk : k < 7) : W.cell? ⟨B, k, none⟩ = some (.int .i64 (C k)) := by
  rw [cell_of_block h.b]
  match k, hk with
  | 0, _ => rfl
  | 1, _ => rfl
  | 2, _ => rfl
  | 3, _ => rfl
  | 4, _ => rfl
  | 5, _ => rfl
  | 6, _ => rfl
theorem A7.cells (h : A7 W B C) : W.cell? ⟨B, 0, none⟩ = some (.int .i64 (C 0)) ∧ W.cell? ⟨B, 1, none⟩ = some (.int .i64 (C 1)) ∧ W.cell? ⟨B, 2, none⟩ = some (.int .i64 (C 2)) ∧ W.cell? ⟨B, 3, none⟩ = some (.int .i64 (C 3)) ∧ W.cell? ⟨B, 4, none⟩ = some (.int .i64 (C 4)) ∧ W.cell? ⟨B, 5, none⟩ = some (.int .i64 (C 5)) ∧ W.cell? ⟨B, 6, none⟩ = some (.int .i64 (C 6)) :=
  ⟨h.c (k := 0) (by decide), h.c (k := 1) (by decide), h.c (k := 2) (by decide), h.c (k := 3) (by decide), h.c (k := 4) (by decide), h.c (k := 5) (by decide), h.c (k := 6) (by decide)⟩
theorem A7.set (h : A7 W B C) {k : Nat} (hk : k < 7) (v : Int) : A7 (W.setCell ⟨B, k, none⟩ (.int .i64 v)) B (upd C k v) := by
  refine ⟨(setCell_block h.b _).trans ?_⟩
  match k, hk with
  | 0, _ => simp [upd]
  | 1, _ => simp [upd]
  | 2, _ => simp [upd]
  | 3, _ => simp [upd]
  | 4, _ => simp [upd]
  | 5, _ => simp [upd]
  | 6, _ => simp [upd]
theorem A7.other {B' : Nat} (h : A7 W B C) (hne : B ≠ B') (j : Nat) (v : Value) : A7 (W.setCell ⟨B', j, none⟩ v) B C := ⟨(Below.heap_setCell _ _ _ _ hne).trans h.b⟩
end
theorem A7.new (w : World) : A7 (w.alloc (.cells #[.int .i64 0, .int .i64 0, .int .i64 0, .int .i64 0, .int .i64 0, .int .i64 0, .int .i64 0] 36)) w.heap.size Z7 := ⟨heap_alloc_new w _⟩
theorem boxP_other {W : World} {B B' : Nat} {a : Option Addr} {n c : Nat} (h : BoxP W B a n c) (hne : B ≠ B') (j : Nat) (v : Value) : BoxP (W.setCell ⟨B', j, none⟩ v) B a n c := (Below.heap_setCell _ _ _ _ hne).trans h
theorem boxP_below {W W' : World} {B : Nat} {a : Option Addr} {n c : Nat} (h : BoxP W B a n c) (hb : Below W.heap.size W W') : BoxP W' B a n c := (hb.block _ (blk_lt h)).trans h
theorem boxP_c0 {W : World} {B : Nat} {a : Option Addr} {n c : Nat} (h : BoxP W B a n c) : W.cell? ⟨B, 0, none⟩ = some (.slice a n c) := by rw [cell_of_block h]; rfl
/-- what lies in memory at a round's head -/
structure CtM (w W : World) (g5 g7 g8 g9 : Nat) (a : Option Addr) (n c : Nat) (R : Nat → Rl) (a5 : Option Addr) (c5 : Nat) (C H T : Nat → Int) : Prop where
  b : Below w.heap.size w W
  p : BoxP W w.heap.size a n c
  s : StC W g5 a5 n c5 C H
  m : A7 W g7 C
  h : A7 W g8 H
  l : A7 W g9 T
  r : SlR W a5 n R
  f : n = 0 ∨ ∀ g, a5 = some g → g.block ≠ g5 ∧ g.block ≠ g7 ∧ g.block ≠ g8 ∧ g.block ≠ g9
section
variable {w W W' : World} {g5 g7 g8 g9 : Nat} {a : Option Addr} {n c : Nat} {R : Nat → Rl} {a5 : Option Addr} {c5 : Nat} {C H T : Nat → Int}
theorem CtM.below (h : CtM w W g5 g7 g8 g9 a n c R a5 c5 C H T) (hb : Below W.heap.size W W') : CtM w W' g5 g7 g8 g9 a n c R a5 c5 C H T :=
  ⟨below_tr h.b hb, boxP_below h.p hb, h.s.below hb, h.m.below hb, h.h.below hb, h.l.below hb, h.r.below hb, h.f⟩
end
/-- what lies in memory within a round -/
structure CtR (w W : World) (g5 g7 g8 g9 g12 : Nat) (a : Option Addr) (n c : Nat) (R : Nat → Rl) (a5 : Option Addr) (c5 : Nat) (C H : Nat → Int) (aa : Option Addr) (ca : Nat) (D J M K T : Nat → Int) : Prop where
  b : Below w.heap.size w W
  p : BoxP W w.heap.size a n c
  s : StC W g5 a5 n c5 C H
  m : A7 W g7 M
  h : A7 W g8 K
  l : A7 W g9 T
  t : StC W g12 aa n ca D J
  r : SlR W aa n R
  f : n = 0 ∨ ∀ g, aa = some g → g.block ≠ g5 ∧ g.block ≠ g7 ∧ g.block ≠ g8 ∧ g.block ≠ g9
/-- the boxes lie apart -/
structure Ord5 (w : World) (g5 g7 g8 g9 g12 : Nat) : Prop where
  h0 : w.heap.size < g5
  h1 : g5 < g7
  h2 : g7 < g8
  h3 : g8 < g9
  h4 : g9 < g12
section
variable {w W W' : World} {g5 g7 g8 g9 g12 : Nat} {a : Option Addr} {n c : Nat} {R : Nat → Rl} {a5 : Option Addr} {c5 : Nat} {C H : Nat → Int} {aa : Option Addr} {ca : Nat} {D J M K T : Nat → Int}
theorem CtR.below (h : CtR w W g5 g7 g8 g9 g12 a n c R a5 c5 C H aa ca D J M K T) (hb : Below W.heap.size W W') : CtR w W' g5 g7 g8 g9 g12 a n c R a5 c5 C H aa ca D J M K T :=
  ⟨below_tr h.b hb, boxP_below h.p hb, h.s.below hb, h.m.below hb, h.h.below hb, h.l.below hb, h.t.below hb, h.r.below hb, h.f⟩
theorem CtR.setM (h : CtR w W g5 g7 g8 g9 g12 a n c R a5 c5 C H aa ca D J M K T) (o : Ord5 w g5 g7 g8 g9 g12) {k : Nat} (hk : k < 7) (v : Int) :
    CtR w (W.setCell ⟨g7, k, none⟩ (.int .i64 v)) g5 g7 g8 g9 g12 a n c R a5 c5 C H aa ca D J (upd M k v) K T := by
  obtain ⟨h0, h1, h2, h3, h4⟩ := o
  exact ⟨h.b.setCell (p := ⟨g7, k, none⟩) (by dsimp only; omega) _, boxP_other h.p (by omega) _ _, h.s.other (by omega) _ _, h.m.set hk v, h.h.other (by omega) _ _, h.l.other (by omega) _ _, h.t.other (by omega) _ _, h.f.elim (fun h0 => .inl h0) (fun hf => h.r.set_other (fun g e => (hf g e).2.1) _ _), h.f⟩
theorem CtR.setH (h : CtR w W g5 g7 g8 g9 g12 a n c R a5 c5 C H aa ca D J M K T) (o : Ord5 w g5 g7 g8 g9 g12) {k : Nat} (hk : k < 7) (v : Int) :
    CtR w (W.setCell ⟨g8, k, none⟩ (.int .i64 v)) g5 g7 g8 g9 g12 a n c R a5 c5 C H aa ca D J M (upd K k v) T := by
  obtain ⟨h0, h1, h2, h3, h4⟩ := o
  exact ⟨h.b.setCell (p := ⟨g8, k, none⟩) (by dsimp only; omega) _, boxP_other h.p (by omega) _ _, h.s.other (by omega) _ _, h.m.other (by omega) _ _, h.h.set hk v, h.l.other (by omega) _ _, h.t.other (by omega) _ _, h.f.elim (fun h0 => .inl h0) (fun hf => h.r.set_other (fun g e => (hf g e).2.2.1) _ _), h.f⟩
theorem CtR.setL (h : CtR w W g5 g7 g8 g9 g12 a n c R a5 c5 C H aa ca D J M K T) (o : Ord5 w g5 g7 g8 g9 g12) {k : Nat} (hk : k < 7) (v : Int) :
    CtR w (W.setCell ⟨g9, k, none⟩ (.int .i64 v)) g5 g7 g8 g9 g12 a n c R a5 c5 C H aa ca D J M K (upd T k v) := by
  obtain ⟨h0, h1, h2, h3, h4⟩ := o
  exact ⟨h.b.setCell (p := ⟨g9, k, none⟩) (by dsimp only; omega) _, boxP_other h.p (by omega) _ _, h.s.other (by omega) _ _, h.m.other (by omega) _ _, h.h.other (by omega) _ _, h.l.set hk v, h.t.other (by omega) _ _, h.f.elim (fun h0 => .inl h0) (fun hf => h.r.set_other (fun g e => (hf g e).2.2.2) _ _), h.f⟩
/-- a round begins: the new state in a box of its own -/
theorem CtM.begin (h : CtM w W g5 g7 g8 g9 a n c R a5 c5 C H T) (hb : Below W.heap.size W W') (hr : SlR W' aa n R) (hf : ∀ g, aa = some g → W.heap.size ≤ g.block) :
    CtR w (W'.alloc (.cells (sA aa n ca D J) 38)) g5 g7 g8 g9 W'.heap.size a n c R a5 c5 C H aa ca D J C H T := by
  have b2 := below_box0 W' (.cells (sA aa n ca D J) 38)
  have h2 := (h.below hb).below b2
  exact ⟨h2.b, h2.p, h2.s, h2.m, h2.h, h2.l, StC.new W', hr.below b2, .inr fun g e => by have := hf g e; have := h.s.lt; have := h.m.lt; have := h.h.lt; have := h.l.lt; omega⟩
theorem CtM.begin2 {v : Int} {q : Nat} (h : CtM w W g5 g7 g8 g9 a n c R a5 c5 C H T) (h0 : w.heap.size < g5) (h1 : g5 < g7) (h2 : g7 < g8) (h3 : g8 < g9) (hq : q < 7) (hr : SlR W aa n R) (hf : ∀ g, aa = some g → g.block ≠ g5 ∧ g.block ≠ g7 ∧ g.block ≠ g8 ∧ g.block ≠ g9) :
    CtR w ((W.setCell ⟨g7, q, none⟩ (.int .i64 v)).alloc (.cells (sA aa n ca D J) 38)) g5 g7 g8 g9 W.heap.size a n c R a5 c5 C H aa ca D J (upd C q v) H T := by
  have b2 := below_box0 (W.setCell ⟨g7, q, none⟩ (.int .i64 v)) (.cells (sA aa n ca D J) 38)
  have t := StC.new (a := aa) (n := n) (c := ca) (C := D) (H := J) (W.setCell ⟨g7, q, none⟩ (.int .i64 v))
  have e : (W.setCell ⟨g7, q, none⟩ (.int .i64 v)).heap.size = W.heap.size := by simp
  rw [e] at t
  exact ⟨below_tr (h.b.setCell (p := ⟨g7, q, none⟩) (by dsimp only; omega) _) b2, boxP_below (boxP_other h.p (by omega) _ _) b2, (h.s.other (by omega) _ _).below b2, (h.m.set hq v).below b2, (h.h.other (by omega) _ _).below b2, (h.l.other (by omega) _ _).below b2, t, (hr.set_other (fun g e => (hf g e).2.1) _ _).below b2, .inr hf⟩
theorem CtM.ord (h : CtM w W g5 g7 g8 g9 a n c R a5 c5 C H T) (hb : Below W.heap.size W W') (h0 : w.heap.size < g5) (h1 : g5 < g7) (h2 : g7 < g8) (h3 : g8 < g9) : Ord5 w g5 g7 g8 g9 W'.heap.size :=
  ⟨h0, h1, h2, h3, by have := h.l.lt; have := hb.size; omega⟩
/-- a round ends: the new state is the state -/
theorem CtR.finish (h : CtR w W g5 g7 g8 g9 g12 a n c R a5 c5 C H aa ca D J M K T) (o : Ord5 w g5 g7 g8 g9 g12) (hM : ∀ j, j < 7 → M j = D j) (hK : ∀ j, j < 7 → K j = J j) :
    CtM w (((((((((((((((W.setCell ⟨g5, 0, none⟩ (.slice aa n ca)).setCell ⟨g5, 1, none⟩ (.int .i64 (D 0))).setCell ⟨g5, 2, none⟩ (.int .i64 (D 1))).setCell ⟨g5, 3, none⟩ (.int .i64 (D 2))).setCell ⟨g5, 4, none⟩ (.int .i64 (D 3))).setCell ⟨g5, 5, none⟩ (.int .i64 (D 4))).setCell ⟨g5, 6, none⟩ (.int .i64 (D 5))).setCell ⟨g5, 7, none⟩ (.int .i64 (D 6))).setCell ⟨g5, 8, none⟩ (.int .i64 (J 0))).setCell ⟨g5, 9, none⟩ (.int .i64 (J 1))).setCell ⟨g5, 10, none⟩ (.int .i64 (J 2))).setCell ⟨g5, 11, none⟩ (.int .i64 (J 3))).setCell ⟨g5, 12, none⟩ (.int .i64 (J 4))).setCell ⟨g5, 13, none⟩ (.int .i64 (J 5))).setCell ⟨g5, 14, none⟩ (.int .i64 (J 6))) g5 g7 g8 g9 a n c R aa ca D J T := by
  obtain ⟨h0, h1, h2, h3, h4⟩ := o
  have key : ∀ {B : Nat} {X : Nat → Int}, B ≠ g5 → A7 W B X → A7 (((((((((((((((W.setCell ⟨g5, 0, none⟩ (.slice aa n ca)).setCell ⟨g5, 1, none⟩ (.int .i64 (D 0))).setCell ⟨g5, 2, none⟩ (.int .i64 (D 1))).setCell ⟨g5, 3, none⟩ (.int .i64 (D 2))).setCell ⟨g5, 4, none⟩ (.int .i64 (D 3))).setCell ⟨g5, 5, none⟩ (.int .i64 (D 4))).setCell ⟨g5, 6, none⟩ (.int .i64 (D 5))).setCell ⟨g5, 7, none⟩ (.int .i64 (D 6))).setCell ⟨g5, 8, none⟩ (.int .i64 (J 0))).setCell ⟨g5, 9, none⟩ (.int .i64 (J 1))).setCell ⟨g5, 10, none⟩ (.int .i64 (J 2))).setCell ⟨g5, 11, none⟩ (.int .i64 (J 3))).setCell ⟨g5, 12, none⟩ (.int .i64 (J 4))).setCell ⟨g5, 13, none⟩ (.int .i64 (J 5))).setCell ⟨g5, 14, none⟩ (.int .i64 (J 6))) B X := fun hne h => ((((((((((((((h.other hne _ _).other hne _ _).other hne _ _).other hne _ _).other hne _ _).other hne _ _).other hne _ _).other hne _ _).other hne _ _).other hne _ _).other hne _ _).other hne _ _).other hne _ _).other hne _ _).other hne _ _
  have hne : w.heap.size ≠ g5 := by omega
  have eM : A7 W g7 D := ⟨h.m.b.trans (by rw [hM 0 (by decide), hM 1 (by decide), hM 2 (by decide), hM 3 (by decide), hM 4 (by decide), hM 5 (by decide), hM 6 (by decide)])⟩
  have eK : A7 W g8 J := ⟨h.h.b.trans (by rw [hK 0 (by decide), hK 1 (by decide), hK 2 (by decide), hK 3 (by decide), hK 4 (by decide), hK 5 (by decide), hK 6 (by decide)])⟩
  exact ⟨below15 h.b (by omega) _ _ _ _ _ _ _ _ _ _ _ _ _ _ _, (boxP_other (boxP_other (boxP_other (boxP_other (boxP_other (boxP_other (boxP_other (boxP_other (boxP_other (boxP_other (boxP_other (boxP_other (boxP_other (boxP_other (boxP_other h.p hne _ _) hne _ _) hne _ _) hne _ _) hne _ _) hne _ _) hne _ _) hne _ _) hne _ _) hne _ _) hne _ _) hne _ _) hne _ _) hne _ _) hne _ _),
    h.s.store, key (by omega) eM, key (by omega) eK, key (by omega) h.l, h.f.elim (fun h0 => .inl h0) (fun hf => slr15 h.r (fun g e => (hf g e).1) _ _ _ _ _ _ _ _ _ _ _ _ _ _ _), h.f⟩
theorem CtM.start {w2 : World} (hb : Below w.heap.size w w2) (hp : BoxP w2 w.heap.size a n c) (hr : SlR w2 a5 n R) :
    CtM w ((((w2.alloc (.cells (sA a5 n c5 Z7 Z7) 38)).alloc (.cells #[.int .i64 0, .int .i64 0, .int .i64 0, .int .i64 0, .int .i64 0, .int .i64 0, .int .i64 0] 36)).alloc (.cells #[.int .i64 0, .int .i64 0, .int .i64 0, .int .i64 0, .int .i64 0, .int .i64 0, .int .i64 0] 36)).alloc (.cells #[.int .i64 0, .int .i64 0, .int .i64 0, .int .i64 0, .int .i64 0, .int .i64 0, .int .i64 0] 36)) w2.heap.size (w2.heap.size + 1) (w2.heap.size + 1 + 1) (w2.heap.size + 1 + 1 + 1) a n c R a5 c5 Z7 Z7 Z7 := by
  have z : Obj := .cells #[.int .i64 0, .int .i64 0, .int .i64 0, .int .i64 0, .int .i64 0, .int .i64 0, .int .i64 0] 36
  have b1 := below_box0 w2 (.cells (sA a5 n c5 Z7 Z7) 38)
  obtain ⟨A, hA⟩ : ∃ A, w2.alloc (.cells (sA a5 n c5 Z7 Z7) 38) = A := ⟨_, rfl⟩
  have sA1 : A.heap.size = w2.heap.size + 1 := by rw [← hA]; simp
  have s1 : StC A w2.heap.size a5 n c5 Z7 Z7 := by rw [← hA]; exact StC.new w2
  rw [hA] at b1 ⊢
  have b2 := below_box0 A (.cells #[.int .i64 0, .int .i64 0, .int .i64 0, .int .i64 0, .int .i64 0, .int .i64 0, .int .i64 0] 36)
  have m2 := A7.new A
  obtain ⟨B, hB⟩ : ∃ B, A.alloc (.cells #[.int .i64 0, .int .i64 0, .int .i64 0, .int .i64 0, .int .i64 0, .int .i64 0, .int .i64 0] 36) = B := ⟨_, rfl⟩
  have sB : B.heap.size = w2.heap.size + 1 + 1 := by rw [← hB, World.size_alloc, sA1]
  rw [hB] at b2 m2 ⊢
  rw [sA1] at m2
  have b3 := below_box0 B (.cells #[.int .i64 0, .int .i64 0, .int .i64 0, .int .i64 0, .int .i64 0, .int .i64 0, .int .i64 0] 36)
  have m3 := A7.new B
  obtain ⟨D, hD⟩ : ∃ D, B.alloc (.cells #[.int .i64 0, .int .i64 0, .int .i64 0, .int .i64 0, .int .i64 0, .int .i64 0, .int .i64 0] 36) = D := ⟨_, rfl⟩
  have sD : D.heap.size = w2.heap.size + 1 + 1 + 1 := by rw [← hD, World.size_alloc, sB]
  rw [hD] at b3 m3 ⊢
  rw [sB] at m3
  have b4 := below_box0 D (.cells #[.int .i64 0, .int .i64 0, .int .i64 0, .int .i64 0, .int .i64 0, .int .i64 0, .int .i64 0] 36)
  have m4 := A7.new D
  rw [sD] at m4
  have b14 := below_tr (below_tr (below_tr b1 b2) b3) b4
  refine ⟨below_tr hb b14, boxP_below hp b14, ((s1.below b2).below b3).below b4, (m2.below b3).below b4, m3.below b4, m4, hr.below b14, ?_⟩
  by_cases h0 : n = 0
  · exact .inl h0
  · obtain ⟨b, o, ha, hc, _⟩ := hr.at_ (j := 0) (by omega)
    have := World.block_lt_of_cell? _ _ hc
    dsimp only at this
    exact .inr fun g e => by rw [ha] at e; cases e; dsimp only; omega
theorem boxP_lt {W : World} {B : Nat} {a : Option Addr} {n c : Nat} (h : BoxP W B a n c) : B < W.heap.size := blk_lt h
end
end Go.Proofs.YtpjhedkloljpjaaDoorRR
