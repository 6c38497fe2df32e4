/- Refusals: plans in memory; how a row hands them. -/
import Derived.Test.YtgbdhmdaefbglaaDoorOpenFields
import Derived.Test.YtgbdhmdaefbglaaDoorR5Plain
import Derived.Test.YtgbdhmdaefbglaaDoorGen
namespace Go.Proofs.YtgbdhmdaefbglaaDoor
open Go.ChangeShapes Go.WideShapes Go.ChangeAt Go.RowKit Go.Joins Go.Deep

abbrev rV (x : Rl) : Value := .agg #[.int .i64 x.1, .int .i64 x.2.1, .int .i64 x.2.2.1, .int .i64 x.2.2.2]
/-- a slice that reads as rules -/
def SlR (w : World) (a : Option Addr) (n : Nat) (R : Nat → Rl) : Prop := n = 0 ∨ ∃ b o, a = some ⟨b, o, none⟩ ∧ ∀ j, j < n → w.cell? ⟨b, o + j * 4, none⟩ = some (.int .i64 (R j).1) ∧ w.cell? ⟨b, o + j * 4 + 1, none⟩ = some (.int .i64 (R j).2.1) ∧ w.cell? ⟨b, o + j * 4 + 2, none⟩ = some (.int .i64 (R j).2.2.1) ∧ w.cell? ⟨b, o + j * 4 + 3, none⟩ = some (.int .i64 (R j).2.2.2)
theorem SlR.below {w w' : World} {a : Option Addr} {n : Nat} {R : Nat → Rl} (h : SlR w a n R) (hb : Below w.heap.size w w') : SlR w' a n R := by
  rcases h with h | ⟨b, o, ha, hc⟩
  · exact .inl h
  · refine .inr ⟨b, o, ha, fun j hj => ?_⟩
    obtain ⟨h0, h1, h2, h3⟩ := hc j hj
    have hl := World.block_lt_of_cell? _ _ h0
    dsimp only at hl
    exact ⟨(hb.cell (p := ⟨b, o + j * 4, none⟩) hl).trans h0, (hb.cell (p := ⟨b, o + j * 4 + 1, none⟩) hl).trans h1, (hb.cell (p := ⟨b, o + j * 4 + 2, none⟩) hl).trans h2, (hb.cell (p := ⟨b, o + j * 4 + 3, none⟩) hl).trans h3⟩
theorem SlR.at_ {w : World} {a : Option Addr} {n : Nat} {R : Nat → Rl} (h : SlR w a n R) {j : Nat} (hj : j < n) : ∃ b o, a = some ⟨b, o, none⟩ ∧ w.cell? ⟨b, o + j * 4, none⟩ = some (.int .i64 (R j).1) ∧ w.cell? ⟨b, o + j * 4 + 1, none⟩ = some (.int .i64 (R j).2.1) ∧ w.cell? ⟨b, o + j * 4 + 2, none⟩ = some (.int .i64 (R j).2.2.1) ∧ w.cell? ⟨b, o + j * 4 + 3, none⟩ = some (.int .i64 (R j).2.2.2) := by
  obtain ⟨b, o, ha, hc⟩ := h.resolve_left (by omega)
  exact ⟨b, o, ha, hc j hj⟩
/-- the bounds of an int -/
def I64r (x : Int) : Prop := -9223372036854775808 ≤ x ∧ x ≤ 9223372036854775807
def RlB (x : Rl) : Prop := I64r x.1 ∧ I64r x.2.1 ∧ I64r x.2.2.1 ∧ I64r x.2.2.2
section
variable {H : Type} {enc : TypeId × Value → H} {W : World} {base : Nat}
set_option maxRecDepth 100000 in
theorem open_rules {fuel : Nat} {v : Value} {x : DataW H × List MemPlace} (hf : DataW.trod enc Tryd.prog W base (fun _ => true) true fuel 22 [v] = some x) :
    ∃ (a : Option Addr) (n cap : Nat) (R : Nat → Rl), v = .slice a n cap ∧ SlR W a n R ∧ n ≤ 9223372036854775807 ∧ ∀ j, j < n → RlB (R j) := by
  rcases open_slice_fields Tryd.underlying22 Tryd.underlying45 (by kernel_rfl) (by kernel_rfl) hf with ⟨h, _⟩ | ⟨A, len, cap, mm, D, Pl, h, _, hl, hm, hmm, _, hi⟩
  · cases h
    exact ⟨none, 0, 0, fun _ => rl0, rfl, .inl rfl, by decide, fun j hj => by omega⟩
  · cases h
    have hml : maxLen ≤ 9223372036854775807 := by decide
    simp only [↓reduceIte] at hmm
    have key : ∀ i, i < cap → ∃ x : Rl, W.cell? (A.add (i * 4)) = some (.int .i64 x.1) ∧ W.cell? (A.add (i * 4 + 1)) = some (.int .i64 x.2.1) ∧ W.cell? (A.add (i * 4 + 2)) = some (.int .i64 x.2.2.1) ∧ W.cell? (A.add (i * 4 + 3)) = some (.int .i64 x.2.2.2) ∧ RlB x := by
      intro i hic
      obtain ⟨ys, n', _, _, _, hf⟩ := hi i (by omega)
      obtain ⟨v0, y0, g0, _, t0⟩ := hf 0 _ rfl
      obtain ⟨v1, y1, g1, _, t1⟩ := hf 1 _ rfl
      obtain ⟨v2, y2, g2, _, t2⟩ := hf 2 _ rfl
      obtain ⟨v3, y3, g3, _, t3⟩ := hf 3 _ rfl
      obtain ⟨x0, e0, _, w0⟩ := DataW.trod_int Tryd.underlying3 t0
      obtain ⟨x1, e1, _, w1⟩ := DataW.trod_int Tryd.underlying3 t1
      obtain ⟨x2, e2, _, w2⟩ := DataW.trod_int Tryd.underlying3 t2
      obtain ⟨x3, e3, _, w3⟩ := DataW.trod_int Tryd.underlying3 t3
      cases e0; cases e1; cases e2; cases e3
      exact ⟨(x0, x1, x2, x3), g0, g1, g2, g3, bounds_i64 w0, bounds_i64 w1, bounds_i64 w2, bounds_i64 w3⟩
    obtain ⟨R, hR⟩ := choose4 key
    refine ⟨some A, len, cap, R, rfl, ?_, by omega, fun j hj => (hR j (by omega)).2.2.2.2⟩
    by_cases h0 : len = 0
    · exact .inl h0
    · obtain ⟨b, o, rfl⟩ := plain_addr (hR 0 (by omega)).1
      refine .inr ⟨b, o, rfl, fun j hj => ?_⟩
      obtain ⟨e0, e1, e2, e3, _⟩ := hR j (by omega)
      simp only [Go.WideShapes.add_plain] at e0 e1 e2 e3
      exact ⟨e0, e1, e2, e3⟩
end
end Go.Proofs.YtgbdhmdaefbglaaDoor
