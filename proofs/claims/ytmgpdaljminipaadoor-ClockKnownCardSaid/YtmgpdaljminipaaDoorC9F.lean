/- Clocks: how many rings there are at a time; the loop that collects them, in memory. -/
import Derived.Test.YtmgpdaljminipaaDoorC9E
import Derived.Test.YtmgpdaljminipaaDoorMarks
namespace Go.Proofs.YtmgpdaljminipaaDoor
open Go.RowKit Go.Sort Go.Joins Go.Shelf
attribute [local go_sem] cell_grow frozen_grow size_grow Oper.semAt_some

theorem RgAt.le_count {n : Nat} {al : Nat → Int × Int} {u : Int} {c : Nat → Nat} {L : List (Int × Nat)} (h : RgAt n al u c L) (hal : ∀ i, i < n → AlOk (al i)) (hu : u ≤ MT) {i : Nat} (hi : i < n) : (c i : Int) ≤ cntA (al i) u := by
  have ha := hal i hi
  by_cases hc : 0 < c i
  · have h1 : pos (al i) (c i - 1) ≤ u := h.le (pos (al i) (c i - 1), i) ((h.mem _).2 ⟨hi, c i - 1, (show c i - 1 < c i by omega), rfl⟩)
    have h2 := h.good i hi (c i - 1) (by omega)
    obtain ⟨e1, _, e3⟩ := pos_nonneg ha h2
    have hnn := Int.mul_nonneg (show (0 : Int) ≤ ((c i - 1 : Nat) : Int) by omega) ha.e0
    unfold cntA
    rw [if_neg (by omega)]
    by_cases hz : (al i).2 = 0
    · rw [if_pos hz]; have := e3 hz; omega
    · rw [if_neg hz]
      have hE : 0 < (al i).2 := by have := ha.e0; omega
      have := (Int.le_ediv_iff_mul_le hE).2 (show ((c i - 1 : Nat) : Int) * (al i).2 ≤ u - (al i).1 by omega)
      omega
  · have := (cntA_ge ha hu).1
    omega
theorem sumC_le {R : Nat → Alm} {u : Int} {c : Nat → Nat} : ∀ {m : Nat}, (∀ i, i < m → (c i : Int) ≤ cntA (R i).2 u) → (sumC c m : Int) ≤ sumA R u m
  | 0, _ => Int.le_refl _
  | m + 1, h => by
    have := sumC_le (m := m) fun i hi => h i (by omega)
    have := h m (by omega)
    simp only [sumA, sumC]
    omega
/-- the name and time of a ring -/
def rgN (R : Nat → Al) (x : Int × Nat) : Rn := ((R x.2).1, x.1)
/-- what is handed over and is not too late is one more ring -/
theorem GR.more {n : Nat} {R : Nat → Al} {pre : List (Int × Nat)} {x : Int × Nat} {u : Int} (hP : PlOk n R) (hu : u ≤ MT) (h : GR n R pre x) (hp : ∀ y ∈ pre, y.1 ≤ u) (hx : x.1 ≤ u) :
    ((pre.length : Int) + 1 ≤ sumA R u n) ∧ x.2 < n := by
  obtain ⟨c, h1, h2, h3⟩ := h
  have h1' : RgAt n (alP R) u c pre := ⟨h1.sorted, h1.mem, h1.good, hp, h1.last, h1.len⟩
  have hs := h1'.step hP.ok h2 (by rw [← h3]; exact hx)
  have hl := sumC_le (R := R) (u := u) fun i hi => hs.le_count hP.ok hu hi
  rw [← hs.len] at hl
  refine ⟨by simpa using hl, ?_⟩
  rcases bst_spec (fun i => pos (alP R i) (c i)) n with ⟨e, _⟩ | ⟨b, e, hb, _⟩
  · rw [e] at h2; omega
  · rw [e] at h2; omega
theorem GR.stop {n : Nat} {R : Nat → Al} {pre : List (Int × Nat)} {x : Int × Nat} {u : Int} (hP : PlOk n R) (hu : u ≤ MT) (h : GR n R pre x) (hp : ∀ y ∈ pre, y.1 ≤ u) (hx : u < x.1) : RunOk n R u pre := by
  obtain ⟨c, h1, h2, h3⟩ := h
  have h1' : RgAt n (alP R) u c pre := ⟨h1.sorted, h1.mem, h1.good, hp, h1.last, h1.len⟩
  exact h1'.run hP.ok hu (.inr ⟨x.2, h2, by rw [← h3]; exact hx⟩)
theorem SR.done {n : Nat} {R : Nat → Al} {xs : List (Int × Nat)} {u : Int} (hP : PlOk n R) (hu : u ≤ MT) (h : SR n R xs) (hp : ∀ y ∈ xs, y.1 ≤ u) : RunOk n R u xs := by
  obtain ⟨c, h1, h2⟩ := h
  have h1' : RgAt n (alP R) u c xs := ⟨h1.sorted, h1.mem, h1.good, hp, h1.last, h1.len⟩
  exact h1'.run hP.ok hu (.inl h2)
/-- the boxes of Run that lay before the loop -/
structure RB (w : World) (a : Option Addr) (n c : Nat) (R : Nat → Al) (u : Int) (W : World) : Prop where
  k : Below w.heap.size w W
  b2 : BoxA W w.heap.size a n c
  b3 : W.heap[w.heap.size + 1]? = some (.cells #[.int .i64 u] 2 (0, 0))
  b5 : BoxA W (w.heap.size + 1 + 1) none 0 0
section
variable {w : World} {a : Option Addr} {n c : Nat} {R : Nat → Al} {u : Int} {W W' : World}
theorem RB.below (h : RB w a n c R u W) (hb : Below W.heap.size W W') : RB w a n c R u W' :=
  ⟨below_tr h.k hb, (hb.block _ (blk_lt h.b2)).trans h.b2, (hb.block _ (blk_lt h.b3)).trans h.b3, (hb.block _ (blk_lt h.b5)).trans h.b5⟩
theorem RB.from {B : Nat} (h : RB w a n c R u W) (hB : w.heap.size + 3 ≤ B) (hb : Below B W W') : RB w a n c R u W' :=
  ⟨h.k.trans (hb.mono (by omega)), (hb.block _ (by omega)).trans h.b2, (hb.block _ (by omega)).trans h.b3, (hb.block _ (by omega)).trans h.b5⟩
theorem RB.grown {Z : Nat} {row : Option Nat} (h : RB w a n c R u W) (hZ : w.heap.size + 3 ≤ Z) (hg : W.grownBy W' row) (hr : ∀ r, row = some r → Z ≤ r) : RB w a n c R u W' :=
  ⟨h.k.grown hg h.k.size (fun r e => by have := hr r e; omega), (hg.block _ (blk_lt h.b2) (fun e => by have := hr _ e.symm; omega)).trans h.b2, (hg.block _ (blk_lt h.b3) (fun e => by have := hr _ e.symm; omega)).trans h.b3, (hg.block _ (blk_lt h.b5) (fun e => by have := hr _ e.symm; omega)).trans h.b5⟩
theorem RB.set {Z j : Nat} {v : Value} (h : RB w a n c R u W) (hZ : w.heap.size + 3 ≤ Z) : RB w a n c R u (W.setCell ⟨Z, j, none⟩ v) :=
  h.from hZ ((Below.refl Z W).setCell (p := ⟨Z, j, none⟩) (Nat.le_refl _) _)
/-- what the loop that collects keeps: z: the box of what is collected -/
structure RI (w : World) (a : Option Addr) (n c : Nat) (R : Nat → Al) (u : Int) (z : Nat) (pre : List (Int × Nat)) (W : World) : Prop where
  b : RB w a n c R u W
  p : BoxA W (z + 1) a n c
  box : ∃ v, W.heap[z]? = some (.cells #[v] 54 (0, 0)) ∧ W.ownsRow (z + 2) 39 2 v pre.length (rgc (pre.map (rgN R)))
  le : ∀ y ∈ pre, y.1 ≤ u
  z3 : w.heap.size + 3 ≤ z
theorem own_stays {W W' : World} {base : Nat} {e : TypeId} {size : Nat} {v : Value} {n : Nat} {xs : List Value} {row : Option Nat} (h : W.ownsRow base e size v n xs) (hg : W.grownBy W' row) (hr : ∀ r, row = some r → ∃ o : Obj, W.heap[r]? = some o ∧ o.isCells = false) : W'.ownsRow base e size v n xs := by
  refine h.kept hg ?_
  rcases h.2 with ⟨rfl, _⟩ | ⟨g, cap, cur, rfl, _, hgb, _⟩
  · exact .inl rfl
  · refine .inr fun e' => ?_
    obtain ⟨o, ho, hc⟩ := hr g e'.symm
    rw [hgb] at ho; cases ho; cases hc
theorem blk_kept {W W' : World} {row : Option Nat} {k : Nat} {cs : Array Value} {t : TypeId} (h : W.heap[k]? = some (.cells cs t (0, 0))) (hg : W.grownBy W' row) (hr : ∀ r, row = some r → ∃ o : Obj, W.heap[r]? = some o ∧ o.isCells = false) : W'.heap[k]? = some (.cells cs t (0, 0)) :=
  (grownBy_keeps_cells hg hr h rfl).trans h
theorem own_slice' {w : World} {base n size : Nat} {e : TypeId} {v : Value} {xs : List Value} (h : w.ownsRow base e size v n xs) : ∃ a cap, v = .slice a n cap := by
  rcases h.2 with ⟨hv, h0⟩ | ⟨g, cap', cur, hv, _⟩
  · exact ⟨_, _, by rw [hv, h0]⟩
  · exact ⟨_, _, hv⟩
theorem own_cells {W : World} {base : Nat} {e : TypeId} {size : Nat} {v : Value} {n : Nat} {xs : List Value} (h : W.ownsRow base e size v n xs) : ∀ (j : Nat) (o : Obj), v.ownBlock = some j → W.heap[j]? = some o → ∃ cs, o = .cells cs e (0, 0) := by
  intro j o hj ho
  rcases h.2 with ⟨rfl, _⟩ | ⟨g, cap, cur, rfl, _, hgb, _⟩
  · simp [Value.ownBlock] at hj
  · have : g = j := by simpa [Value.ownBlock] using hj
    subst this; rw [hgb] at ho; cases ho; exact ⟨_, rfl⟩
theorem own_same {W W' : World} {base : Nat} {e : TypeId} {size : Nat} {v : Value} {n : Nat} {xs : List Value} (h : W.ownsRow base e size v n xs) (hk : ∀ (g : Nat) (cur : Array Value), W.heap[g]? = some (.cells cur e (0, 0)) → W'.heap[g]? = some (.cells cur e (0, 0))) : W'.ownsRow base e size v n xs := by
  obtain ⟨h1, h2⟩ := h
  refine ⟨h1, ?_⟩
  rcases h2 with h2 | ⟨g, cap, cur, e1, e2, e3, e4⟩
  · exact .inl h2
  · exact .inr ⟨g, cap, cur, e1, e2, hk _ _ e3, e4⟩
theorem ring_not : ¬ ((39 : Nat) = 2 ∨ (39 : Nat) = 37 ∨ (39 : Nat) = 50) := by decide
theorem rings_not : ¬ ((54 : Nat) = 2 ∨ (54 : Nat) = 37 ∨ (54 : Nat) = 50) := by decide
theorem plan_not : ¬ ((44 : Nat) = 2 ∨ (44 : Nat) = 37 ∨ (44 : Nat) = 50) := by decide
theorem not_ty {cs : Array Value} {T : TypeId} {fz : Nat × Nat} (h : ¬ (T = 2 ∨ T = 37 ∨ T = 50)) : ¬ Ty9 (.cells cs T fz) := by
  rintro ⟨cs', T', fz', e, h'⟩
  cases e
  exact h h'
section
variable {z : Nat} {pre : List (Int × Nat)}
theorem RI.ow9 (h : RI w a n c R u z pre W) (ho : Ow9 (z + 2) W W') : RI w a n c R u z pre W' := by
  obtain ⟨v, h1, h2⟩ := h.box
  have := h.z3
  exact ⟨h.b.from (by omega) ho.1, ho.2 _ _ h.p (not_ty plan_not), ⟨v, ho.2 _ _ h1 (not_ty rings_not), own_same h2 fun g cur hg => ho.2 _ _ hg (not_ty ring_not)⟩, h.le, h.z3⟩
theorem RI.own : OwnFrom (z + 2) (RI w a n c R u z) := by
  intro pre W W' row h hg hr
  obtain ⟨v, h1, h2⟩ := h.box
  have := h.z3
  exact ⟨h.b.grown (by omega) hg (fun r e => (hr r e).1), blk_kept h.p hg (fun r e => (hr r e).2), ⟨v, blk_kept h1 hg (fun r e => (hr r e).2), own_stays h2 hg (fun r e => (hr r e).2)⟩, h.le, h.z3⟩
theorem RI.below (h : RI w a n c R u z pre W) (hb : Below W.heap.size W W') : RI w a n c R u z pre W' := by
  obtain ⟨v, h1, h2⟩ := h.box
  exact ⟨h.b.below hb, (hb.block _ (blk_lt h.p)).trans h.p, ⟨v, (hb.block _ (blk_lt h1)).trans h1, own_below h2 hb⟩, h.le, h.z3⟩
end
end
end Go.Proofs.YtmgpdaljminipaaDoor
