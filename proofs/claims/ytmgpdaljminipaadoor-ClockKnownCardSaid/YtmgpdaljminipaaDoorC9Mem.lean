/- Clocks: alarms and rings in memory; how a row hands them. -/
import Derived.Test.YtmgpdaljminipaaDoorOpenFields
import Derived.Test.YtmgpdaljminipaaDoorGen
namespace Go.Proofs.YtmgpdaljminipaaDoor
open Go.ChangeShapes Go.WideShapes Go.ChangeAt Go.RowKit Go.Joins Go.Deep

abbrev Al := ByteArray × Int × Int
abbrev al0 : Al := (⟨#[]⟩, 0, 0)
abbrev aV (x : Al) : Value := .agg #[.string x.1, .int .i64 x.2.1, .int .i64 x.2.2]
/-- a slice that reads as alarms -/
def SlA (w : World) (a : Option Addr) (n : Nat) (R : Nat → Al) : Prop := n = 0 ∨ ∃ b o, a = some ⟨b, o, none⟩ ∧ ∀ j, j < n → w.cell? ⟨b, o + j * 3, none⟩ = some (.string (R j).1) ∧ w.cell? ⟨b, o + j * 3 + 1, none⟩ = some (.int .i64 (R j).2.1) ∧ w.cell? ⟨b, o + j * 3 + 2, none⟩ = some (.int .i64 (R j).2.2)
theorem SlA.below {w w' : World} {a : Option Addr} {n : Nat} {R : Nat → Al} (h : SlA w a n R) (hb : Below w.heap.size w w') : SlA w' a n R := by
  rcases h with h | ⟨b, o, ha, hc⟩
  · exact .inl h
  · refine .inr ⟨b, o, ha, fun j hj => ?_⟩
    obtain ⟨h0, h1, h2⟩ := hc j hj
    have hl := World.block_lt_of_cell? _ _ h0
    dsimp only at hl
    exact ⟨(hb.cell (p := ⟨b, o + j * 3, none⟩) hl).trans h0, (hb.cell (p := ⟨b, o + j * 3 + 1, none⟩) hl).trans h1, (hb.cell (p := ⟨b, o + j * 3 + 2, none⟩) hl).trans h2⟩
theorem SlA.at_ {w : World} {a : Option Addr} {n : Nat} {R : Nat → Al} (h : SlA w a n R) {j : Nat} (hj : j < n) : ∃ b o, a = some ⟨b, o, none⟩ ∧ w.cell? ⟨b, o + j * 3, none⟩ = some (.string (R j).1) ∧ w.cell? ⟨b, o + j * 3 + 1, none⟩ = some (.int .i64 (R j).2.1) ∧ w.cell? ⟨b, o + j * 3 + 2, none⟩ = some (.int .i64 (R j).2.2) := by
  obtain ⟨b, o, ha, hc⟩ := h.resolve_left (by omega)
  exact ⟨b, o, ha, hc j hj⟩
theorem SlA.congr {w : World} {a : Option Addr} {n : Nat} {R Q : Nat → Al} (h : SlA w a n R) (hr : ∀ j, j < n → R j = Q j) : SlA w a n Q := by
  rcases h with h | ⟨b, o, ha, hc⟩
  · exact .inl h
  · exact .inr ⟨b, o, ha, fun j hj => by rw [← hr j hj]; exact hc j hj⟩
/-- rings -/
abbrev Rn := ByteArray × Int
abbrev gV (x : Rn) : Value := .agg #[.string x.1, .int .i64 x.2]
def rn0 : Rn := (⟨#[]⟩, 0)
/-- a slice that reads as rings -/
def SlG (w : World) (a : Option Addr) (n : Nat) (G : Nat → Rn) : Prop := n = 0 ∨ ∃ b o, a = some ⟨b, o, none⟩ ∧ ∀ j, j < n → w.cell? ⟨b, o + j * 2, none⟩ = some (.string (G j).1) ∧ w.cell? ⟨b, o + j * 2 + 1, none⟩ = some (.int .i64 (G j).2)
theorem SlG.below {w w' : World} {a : Option Addr} {n : Nat} {G : Nat → Rn} (h : SlG w a n G) (hb : Below w.heap.size w w') : SlG w' a n G := by
  rcases h with h | ⟨b, o, ha, hc⟩
  · exact .inl h
  · refine .inr ⟨b, o, ha, fun j hj => ?_⟩
    obtain ⟨h0, h1⟩ := hc j hj
    have hl := World.block_lt_of_cell? _ _ h0
    dsimp only at hl
    exact ⟨(hb.cell (p := ⟨b, o + j * 2, none⟩) hl).trans h0, (hb.cell (p := ⟨b, o + j * 2 + 1, none⟩) hl).trans h1⟩
theorem SlG.at_ {w : World} {a : Option Addr} {n : Nat} {G : Nat → Rn} (h : SlG w a n G) {j : Nat} (hj : j < n) : ∃ b o, a = some ⟨b, o, none⟩ ∧ w.cell? ⟨b, o + j * 2, none⟩ = some (.string (G j).1) ∧ w.cell? ⟨b, o + j * 2 + 1, none⟩ = some (.int .i64 (G j).2) := by
  obtain ⟨b, o, ha, hc⟩ := h.resolve_left (by omega)
  exact ⟨b, o, ha, hc j hj⟩
theorem SlG.congr {w : World} {a : Option Addr} {n : Nat} {R Q : Nat → Rn} (h : SlG w a n R) (hr : ∀ j, j < n → R j = Q j) : SlG w a n Q := by
  rcases h with h | ⟨b, o, ha, hc⟩
  · exact .inl h
  · exact .inr ⟨b, o, ha, fun j hj => by rw [← hr j hj]; exact hc j hj⟩
/-- alarms as cells -/
def alc (L : List Al) : List Value := L.flatMap fun x => [.string x.1, .int .i64 x.2.1, .int .i64 x.2.2]
theorem alc_snoc (L : List Al) (x : Al) : alc (L ++ [x]) = alc L ++ [.string x.1, .int .i64 x.2.1, .int .i64 x.2.2] := by simp [alc]
theorem alc_length (L : List Al) : (alc L).length = L.length * 3 := by
  induction L with
  | nil => rfl
  | cons x L ih =>
    have e : alc (x :: L) = [.string x.1, .int .i64 x.2.1, .int .i64 x.2.2] ++ alc L := rfl
    rw [e, List.length_append, ih]; simp; omega
theorem alc_get (L : List Al) (k : Nat) (h : k < L.length) : (alc L)[k * 3]? = some (.string (L.getD k al0).1) ∧ (alc L)[k * 3 + 1]? = some (.int .i64 (L.getD k al0).2.1) ∧ (alc L)[k * 3 + 2]? = some (.int .i64 (L.getD k al0).2.2) := by
  induction L generalizing k with
  | nil => simp at h
  | cons x L ih =>
    cases k with
    | zero => simp [alc]
    | succ k =>
      have := ih k (by simpa using h)
      simp only [alc, List.flatMap_cons] at this ⊢
      rw [List.getElem?_append_right (by simp; omega), List.getElem?_append_right (by simp; omega), List.getElem?_append_right (by simp; omega)]
      simpa [show (k + 1) * 3 - 3 = k * 3 by omega, show (k + 1) * 3 + 1 - 3 = k * 3 + 1 by omega, show (k + 1) * 3 + 2 - 3 = k * 3 + 2 by omega] using this
theorem alc_one (L : List Al) : ∀ u ∈ alc L, u.oneCell' = true := by
  intro u hu
  obtain ⟨x, _, hx⟩ := List.mem_flatMap.1 hu
  simp at hx
  rcases hx with rfl | rfl | rfl <;> rfl
theorem info_alarm : (Tryd.prog.info? 50).map (fun i => (i.zero, i.size, i.bytes)) = some (some (.agg #[.string ⟨#[]⟩, .int .i64 0, .int .i64 0]), 3, 32) := by kernel_rfl
theorem SlA.of_own {w : World} {base len cap : Nat} {e : TypeId} {a : Option Addr} {L : List Al} (h : w.ownsRow base e 3 (.slice a len cap) L.length (alc L)) : SlA w a L.length (fun j => L.getD j al0) := by
  by_cases h0 : L.length = 0
  · exact .inl h0
  · obtain ⟨g, cap', hv⟩ := ownsRow_form h (by omega)
    cases hv
    refine .inr ⟨g, 0, rfl, fun j hj => ?_⟩
    obtain ⟨e0, e1, e2⟩ := alc_get L j hj
    have c0 := h.cellAt (j * 3) (by omega)
    have c1 := h.cellAt (j * 3 + 1) (by omega)
    have c2 := h.cellAt (j * 3 + 2) (by omega)
    rw [e0] at c0
    rw [e1] at c1
    rw [e2] at c2
    rw [Nat.zero_add]
    exact ⟨c0, c1, c2⟩
/-- rings as cells -/
def rgc (L : List Rn) : List Value := L.flatMap fun x => [.string x.1, .int .i64 x.2]
theorem rgc_snoc (L : List Rn) (x : Rn) : rgc (L ++ [x]) = rgc L ++ [.string x.1, .int .i64 x.2] := by simp [rgc]
theorem rgc_length (L : List Rn) : (rgc L).length = L.length * 2 := by
  induction L with
  | nil => rfl
  | cons x L ih =>
    have e : rgc (x :: L) = [.string x.1, .int .i64 x.2] ++ rgc L := rfl
    rw [e, List.length_append, ih]; simp; omega
theorem rgc_get (L : List Rn) (k : Nat) (h : k < L.length) : (rgc L)[k * 2]? = some (.string (L.getD k rn0).1) ∧ (rgc L)[k * 2 + 1]? = some (.int .i64 (L.getD k rn0).2) := by
  induction L generalizing k with
  | nil => simp at h
  | cons x L ih =>
    cases k with
    | zero => simp [rgc]
    | succ k =>
      have := ih k (by simpa using h)
      simp only [rgc, List.flatMap_cons] at this ⊢
      rw [List.getElem?_append_right (by simp; omega), List.getElem?_append_right (by simp; omega)]
      simpa [show (k + 1) * 2 - 2 = k * 2 by omega, show (k + 1) * 2 + 1 - 2 = k * 2 + 1 by omega] using this
theorem rgc_one (L : List Rn) : ∀ u ∈ rgc L, u.oneCell' = true := by
  intro u hu
  obtain ⟨x, _, hx⟩ := List.mem_flatMap.1 hu
  simp at hx
  rcases hx with rfl | rfl <;> rfl
theorem info_ring : (Tryd.prog.info? 39).map (fun i => (i.zero, i.size, i.bytes)) = some (some (.agg #[.string ⟨#[]⟩, .int .i64 0]), 2, 24) := by kernel_rfl
theorem SlG.of_own {w : World} {base len cap : Nat} {e : TypeId} {a : Option Addr} {L : List Rn} (h : w.ownsRow base e 2 (.slice a len cap) L.length (rgc L)) : SlG w a L.length (fun j => L.getD j rn0) := by
  by_cases h0 : L.length = 0
  · exact .inl h0
  · obtain ⟨g, cap', hv⟩ := ownsRow_form h (by omega)
    cases hv
    refine .inr ⟨g, 0, rfl, fun j hj => ?_⟩
    obtain ⟨e0, e1⟩ := rgc_get L j hj
    have c0 := h.cellAt (j * 2) (by omega)
    have c1 := h.cellAt (j * 2 + 1) (by omega)
    rw [e0] at c0
    rw [e1] at c1
    rw [Nat.zero_add]
    exact ⟨c0, c1⟩
/-- the bounds of an int -/
def I64r (x : Int) : Prop := -9223372036854775808 ≤ x ∧ x ≤ 9223372036854775807
def AlB (x : Al) : Prop := x.1.size ≤ maxLen ∧ I64r x.2.1 ∧ I64r x.2.2
section
variable {H : Type} {enc : TypeId × Value → H} {W : World} {base : Nat}
instance : Inhabited Al := ⟨al0⟩
set_option maxRecDepth 100000 in
theorem open_alarms {fuel : Nat} {v : Value} {x : DataW H × List MemPlace} (hf : DataW.trod enc Tryd.prog W base (fun _ => true) true fuel 42 [v] = some x) :
    ∃ (a : Option Addr) (n cap : Nat) (R : Nat → Al), v = .slice a n cap ∧ SlA W a n R ∧ n ≤ 9223372036854775807 ∧ ∀ j, j < n → AlB (R j) := by
  rcases open_slice_fields Tryd.underlying42 Tryd.underlying50 (by kernel_rfl) (by kernel_rfl) hf with ⟨h, _⟩ | ⟨A, len, cap, mm, D, Pl, h, _, hl, hm, hmm, _, hi⟩
  · cases h
    exact ⟨none, 0, 0, fun _ => al0, rfl, .inl rfl, by decide, fun j hj => by omega⟩
  · cases h
    have hml : maxLen ≤ 9223372036854775807 := by decide
    simp only [↓reduceIte] at hmm
    have key : ∀ i, i < cap → ∃ x : Al, W.cell? (A.add (i * 3)) = some (.string x.1) ∧ W.cell? (A.add (i * 3 + 1)) = some (.int .i64 x.2.1) ∧ W.cell? (A.add (i * 3 + 2)) = some (.int .i64 x.2.2) ∧ AlB x := by
      intro i hic
      obtain ⟨ys, n', _, _, _, hf⟩ := hi i (by omega)
      obtain ⟨v0, y0, g0, _, t0⟩ := hf 0 _ rfl
      obtain ⟨v1, y1, g1, _, t1⟩ := hf 1 _ rfl
      obtain ⟨v2, y2, g2, _, t2⟩ := hf 2 _ rfl
      obtain ⟨x0, e0, _, w0⟩ := DataW.trod_string Tryd.underlying9 t0
      obtain ⟨x1, e1, _, w1⟩ := DataW.trod_int Tryd.underlying2 t1
      obtain ⟨x2, e2, _, w2⟩ := DataW.trod_int Tryd.underlying2 t2
      cases e0; cases e1; cases e2
      exact ⟨(x0, x1, x2), g0, g1, g2, w0, bounds_i64 w1, bounds_i64 w2⟩
    obtain ⟨R, hR⟩ := choose4 key
    refine ⟨some A, len, cap, R, rfl, ?_, by omega, fun j hj => (hR j (by omega)).2.2.2⟩
    by_cases h0 : len = 0
    · exact .inl h0
    · obtain ⟨b, o, rfl⟩ := plain_addr (hR 0 (by omega)).1
      refine .inr ⟨b, o, rfl, fun j hj => ?_⟩
      obtain ⟨e0, e1, e2, _⟩ := hR j (by omega)
      simp only [Go.WideShapes.add_plain] at e0 e1 e2
      exact ⟨e0, e1, e2⟩
end
end Go.Proofs.YtmgpdaljminipaaDoor
