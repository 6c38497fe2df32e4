/- The tables and the error values that the rows of ClockSpans and ClockKnown list. -/
import Derived.Test.YtmgpdaljminipaaDoorFrameC
import Derived.Test.YtmgpdaljminipaaDoorC9L
import Derived.Test.YtmgpdaljminipaaDoorWIntB
import Derived.Stop.LaidErr
namespace Go.Proofs.YtmgpdaljminipaaDoor
open Go.ChangeShapes Go.WideShapes Go.ChangeAt Go.RowKit

theorem gUn : Tryd.prog.globalNamed "polder/clock.units" = some 0 := by kernel_rfl
theorem gUnType : (Tryd.prog.globals[0]?).map (·.type) = some 65 := by kernel_rfl
theorem cellsU8 : Tryd.prog.cellsOf 5 = 1 := by kernel_rfl
theorem cellsI64 : Tryd.prog.cellsOf 2 = 1 := by kernel_rfl
theorem cellsUnit : Tryd.prog.cellsOf 64 = 3 := by kernel_rfl
theorem cellsUnits : Tryd.prog.cellsOf 65 = 12 := by kernel_rfl
theorem var_cell {W : World} {name : String} {g : Nat} {cs : Array Value} (hg : Tryd.prog.globalNamed name = some g) (h : W.var? Tryd.prog name = some cs) (i : Nat) : W.cell? ⟨g, i, none⟩ = cs[i]? := World.var?_cell hg h i
section
variable {H : Type} {enc : TypeId × Value → H} {W : World} {base : Nat} {sp : Nat → Bool} {held : Bool} {fuel : Nat}
theorem unit_cells {v0 v1 v2 : Value} {x y z : Int} {p : List MemPlace} (h : DataW.trod enc Tryd.prog W base sp held fuel 64 [v0, v1, v2] = some (.agg [.lit (.int .u8 x), .lit (.int .i64 y), .lit (.int .i64 z)], p)) :
    v0 = .int .u8 x ∧ v1 = .int .i64 y ∧ v2 = .int .i64 z := by
  obtain ⟨xs, m, _, hx, _, hxl, hf⟩ := DataW.trod_struct Tryd.underlying64 h
  have hxl3 : xs.length = 3 := hxl
  match xs, hxl3 with
  | [y0, y1, y2], _ =>
    simp only [List.map_cons, List.map_nil, Prod.mk.injEq, DataW.agg.injEq, List.cons.injEq, and_true] at hx
    obtain ⟨⟨e0, e1, e2⟩, _⟩ := hx
    have h0 := hf 0 _ rfl
    have h1 := hf 1 _ rfl
    have h2 := hf 2 _ rfl
    have t0 : DataW.trod enc Tryd.prog W base sp held m 5 [v0] = some y0 := by
      have : DataW.trod enc Tryd.prog W base sp held m 5 (([v0, v1, v2].drop 0).take (Tryd.prog.cellsOf 5)) = some y0 := h0
      rwa [cellsU8] at this
    have t1 : DataW.trod enc Tryd.prog W base sp held m 2 [v1] = some y1 := by
      have : DataW.trod enc Tryd.prog W base sp held m 2 (([v0, v1, v2].drop 1).take (Tryd.prog.cellsOf 2)) = some y1 := h1
      rwa [cellsI64] at this
    have t2 : DataW.trod enc Tryd.prog W base sp held m 2 [v2] = some y2 := by
      have : DataW.trod enc Tryd.prog W base sp held m 2 (([v0, v1, v2].drop 2).take (Tryd.prog.cellsOf 2)) = some y2 := h2
      rwa [cellsI64] at this
    obtain ⟨a0, c0, rfl, _⟩ := DataW.trod_int Tryd.underlying5 t0
    obtain ⟨a1, c1, rfl, _⟩ := DataW.trod_int Tryd.underlying2 t1
    obtain ⟨a2, c2, rfl, _⟩ := DataW.trod_int Tryd.underlying2 t2
    simp only [DataW.lit.injEq, Lit.int.injEq, true_and] at e0 e1 e2
    simp only [List.cons.injEq, and_true] at c0 c1 c2
    exact ⟨by rw [c0, e0], by rw [c1, e1], by rw [c2, e2]⟩
theorem units_cells {cs : List Value} {p : List MemPlace} (h : DataW.trod enc Tryd.prog W base sp held fuel 65 cs = some (Rows.laid_polder_clock_units, p)) : cs = unitL := by
  obtain ⟨xs, m, _, hx, hcl, hxl, hf⟩ := DataW.trod_array Tryd.underlying65 h
  rw [cellsUnits] at hcl
  rw [cellsUnit] at hf
  match xs, hxl with
  | [y0, y1, y2, y3], _ =>
    match cs, hcl with
    | [c0, c1, c2, c3, c4, c5, c6, c7, c8, c9, c10, c11], _ =>
      unfold Rows.laid_polder_clock_units at hx
      simp only [List.map_cons, List.map_nil, Prod.mk.injEq, DataW.agg.injEq, List.cons.injEq, and_true] at hx
      obtain ⟨⟨e0, e1, e2, e3⟩, _⟩ := hx
      obtain ⟨d0, p0⟩ := y0
      obtain ⟨d1, p1⟩ := y1
      obtain ⟨d2, p2⟩ := y2
      obtain ⟨d3, p3⟩ := y3
      dsimp only at e0 e1 e2 e3
      subst e0 e1 e2 e3
      obtain ⟨r0, r1, r2⟩ := unit_cells (v0 := c0) (v1 := c1) (v2 := c2) (hf 0 (by decide))
      obtain ⟨r3, r4, r5⟩ := unit_cells (v0 := c3) (v1 := c4) (v2 := c5) (hf 1 (by decide))
      obtain ⟨r6, r7, r8⟩ := unit_cells (v0 := c6) (v1 := c7) (v2 := c8) (hf 2 (by decide))
      obtain ⟨r9, r10, r11⟩ := unit_cells (v0 := c9) (v1 := c10) (v2 := c11) (hf 3 (by decide))
      subst r0 r1 r2 r3 r4 r5 r6 r7 r8 r9 r10 r11
      rfl
end
theorem gPow : Tryd.prog.globalNamed "internal/strconv.uint64pow10" = some 1 := by kernel_rfl
theorem gPowType : (Tryd.prog.globals[1]?).map (·.type) = some 120 := by kernel_rfl
theorem cellsPow : Tryd.prog.cellsOf 120 = 20 := by kernel_rfl
theorem cellsU64 : Tryd.prog.cellsOf 111 = 1 := by kernel_rfl
theorem gRng : Tryd.prog.globalNamed "strconv.ErrRange" = some 4 := by kernel_rfl
theorem gRngType : (Tryd.prog.globals[4]?).map (·.type) = some 67 := by kernel_rfl
theorem cellsErrS : Tryd.prog.cellsOf 142 = 1 := by kernel_rfl
theorem cellsStr9 : Tryd.prog.cellsOf 9 = 1 := by kernel_rfl
theorem starErr : "*" ++ "errors.errorString" = "*errors.errorString" := by decide
theorem rowErr (u : TypeId) (h : Tryd.prog.typeName? 3 u = some "*errors.errorString") : u = 140 :=
  typeName_ptr_named (nm := "errors.errorString") (by rw [starErr]; kernel_rfl) (by kernel_rfl) (by decide) u (by rw [starErr]; exact h)
theorem t9s_of {W : World} (h : laidMetH Tryd.prog [("math/bits.deBruijn32tab", Rows.laid_math_bits_deBruijn32tab), ("math/bits.deBruijn64tab", Rows.laid_math_bits_deBruijn64tab), ("internal/strconv.uint64pow10", Rows.laid_internal_strconv_uint64pow10), ("strconv.ErrRange", Rows.laid_strconv_ErrRange), ("strconv.ErrSyntax", Rows.laid_strconv_ErrSyntax), ("polder/clock.units", Rows.laid_polder_clock_units)] W) : T9 W ∧ TW W := by
  have hh : laidMet Tryd.prog [("math/bits.deBruijn32tab", Rows.laid_math_bits_deBruijn32tab), ("math/bits.deBruijn64tab", Rows.laid_math_bits_deBruijn64tab), ("internal/strconv.uint64pow10", Rows.laid_internal_strconv_uint64pow10), ("strconv.ErrRange", Rows.laid_strconv_ErrRange), ("strconv.ErrSyntax", Rows.laid_strconv_ErrSyntax), ("polder/clock.units", Rows.laid_polder_clock_units)] W := h
  have hR := laid_sentinel (laidMet.tail (laidMet.tail (laidMet.tail hh))) gRng gRngType Tryd.underlying67 rowErr Tryd.underlying140 Tryd.underlying142 rfl rfl Tryd.underlying9 cellsErrS cellsStr9
  obtain ⟨ps, hl, _⟩ := hh
  obtain ⟨g0, t0, cs0, f0, p0, q0, hg0, ht0, hv0, hd0, ⟨g1, t1, cs1, f1, p1, q1, hg1, ht1, hv1, hd1, ⟨g2, t2, cs2, f2, p2, q2, hg2, ht2, hv2, hd2, ⟨g3, t3, cs3, f3, p3, q3, hg3, ht3, hv3, hd3, ⟨g4, t4, cs4, f4, p4, q4, hg4, ht4, hv4, hd4, ⟨g5, t5, cs5, f5, p5, q5, hg5, ht5, hv5, hd5, _, _⟩, _⟩, _⟩, _⟩, _⟩, _⟩ := hl
  obtain rfl := Option.some.inj (gPow.symm.trans hg2)
  obtain rfl := Option.some.inj (gPowType.symm.trans ht2)
  obtain rfl := Option.some.inj (gUn.symm.trans hg5)
  obtain rfl := Option.some.inj (gUnType.symm.trans ht5)
  have e := units_cells hd5
  refine ⟨⟨fun k hk => ?_⟩, ⟨?_, ?_⟩⟩
  · rw [var_cell gUn hv5, ← Array.getElem?_toList, e]
    have hk' : k < unitL.length := hk
    rw [List.getElem?_eq_getElem hk', List.getD_eq_getElem?_getD, List.getElem?_eq_getElem hk']
    rfl
  · unfold Lib.TabIs
    rw [hv2, ← Lib.cells_of_tab (zs := Lib.pow10Tab) (k := .u64) Tryd.underlying120 Tryd.underlying111 cellsU64 cellsPow hd2]
  · obtain ⟨a, _, hv, _⟩ := hR
    exact ⟨_, _, hv⟩
/-- where the error values lie -/
noncomputable def low : Nat := (World.holding Tryd.prog default ⟨#[], #[], []⟩).heap.size
/-- A world for the witness: the settled one, the tables holding what their initialisers lay. -/
noncomputable def laidWorld (os : Os) : World :=
  { World.holding Tryd.prog os ⟨#[.cells #[.string ⟨#[118, 97, 108, 117, 101, 32, 111, 117, 116, 32, 111, 102, 32, 114, 97, 110, 103, 101]⟩] 142, .cells #[.string ⟨#[105, 110, 118, 97, 108, 105, 100, 32, 115, 121, 110, 116, 97, 120]⟩] 142], #[], []⟩ with heap := (((((((World.holding Tryd.prog os ⟨#[.cells #[.string ⟨#[118, 97, 108, 117, 101, 32, 111, 117, 116, 32, 111, 102, 32, 114, 97, 110, 103, 101]⟩] 142, .cells #[.string ⟨#[105, 110, 118, 97, 108, 105, 100, 32, 115, 121, 110, 116, 97, 120]⟩] 142], #[], []⟩).heap.modify 5 fun
      | .cells _ t frozen => .cells #[.int .u8 0, .int .u8 1, .int .u8 28, .int .u8 2, .int .u8 29, .int .u8 14, .int .u8 24, .int .u8 3, .int .u8 30, .int .u8 22, .int .u8 20, .int .u8 15, .int .u8 25, .int .u8 17, .int .u8 4, .int .u8 8, .int .u8 31, .int .u8 27, .int .u8 13, .int .u8 23, .int .u8 21, .int .u8 19, .int .u8 16, .int .u8 7, .int .u8 26, .int .u8 12, .int .u8 18, .int .u8 6, .int .u8 11, .int .u8 5, .int .u8 10, .int .u8 9] t frozen
      | o => o).modify 6 fun
      | .cells _ t frozen => .cells #[.int .u8 0, .int .u8 1, .int .u8 56, .int .u8 2, .int .u8 57, .int .u8 49, .int .u8 28, .int .u8 3, .int .u8 61, .int .u8 58, .int .u8 42, .int .u8 50, .int .u8 38, .int .u8 29, .int .u8 17, .int .u8 4, .int .u8 62, .int .u8 47, .int .u8 59, .int .u8 36, .int .u8 45, .int .u8 43, .int .u8 51, .int .u8 22, .int .u8 53, .int .u8 39, .int .u8 33, .int .u8 30, .int .u8 24, .int .u8 18, .int .u8 12, .int .u8 5, .int .u8 63, .int .u8 55, .int .u8 48, .int .u8 27, .int .u8 60, .int .u8 41, .int .u8 37, .int .u8 16, .int .u8 46, .int .u8 35, .int .u8 44, .int .u8 21, .int .u8 52, .int .u8 32, .int .u8 23, .int .u8 11, .int .u8 54, .int .u8 26, .int .u8 40, .int .u8 15, .int .u8 34, .int .u8 20, .int .u8 31, .int .u8 10, .int .u8 25, .int .u8 14, .int .u8 19, .int .u8 9, .int .u8 13, .int .u8 8, .int .u8 7, .int .u8 6] t frozen
      | o => o).modify 1 fun
      | .cells _ t frozen => .cells #[.int .u64 1, .int .u64 10, .int .u64 100, .int .u64 1000, .int .u64 10000, .int .u64 100000, .int .u64 1000000, .int .u64 10000000, .int .u64 100000000, .int .u64 1000000000, .int .u64 10000000000, .int .u64 100000000000, .int .u64 1000000000000, .int .u64 10000000000000, .int .u64 100000000000000, .int .u64 1000000000000000, .int .u64 10000000000000000, .int .u64 100000000000000000, .int .u64 1000000000000000000, .int .u64 10000000000000000000] t frozen
      | o => o).modify 4 fun
      | .cells _ t frozen => .cells #[.iface 140 (.pointer (some ⟨low, 0, none⟩))] t frozen
      | o => o).modify 3 fun
      | .cells _ t frozen => .cells #[.iface 140 (.pointer (some ⟨low + 1, 0, none⟩))] t frozen
      | o => o).modify 0 fun
      | .cells _ t frozen => .cells #[.int .u8 100, .int .i64 86400, .int .i64 0, .int .u8 104, .int .i64 3600, .int .i64 24, .int .u8 109, .int .i64 60, .int .i64 60, .int .u8 115, .int .i64 1, .int .i64 60] t frozen
      | o => o) }

end Go.Proofs.YtmgpdaljminipaaDoor
