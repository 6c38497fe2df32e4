/- The tables that the rows of chapter 09 list. | ClockPlans returns true for every input, on every schedule; its arguments read afterwards as they read before. No condition beyond the row's own. -/
import Derived.Test.YtjceahbikdncmaaDoorPZ17
import Derived.Test.YtjceahbikdncmaaDoorPZ9
namespace Go.Proofs.YtjceahbikdncmaaDoor
open Go.ChangeShapes Go.WideShapes Go.ChangeAt Go.RowKit

theorem gUn : Tryd.prog.globalNamed "polder/clock.units" = some 0 := by kernel_rfl
theorem gUnType : (Tryd.prog.globals[0]?).map (·.type) = some 82 := by kernel_rfl
theorem cellsU8 : Tryd.prog.cellsOf 5 = 1 := by kernel_rfl
theorem cellsI64 : Tryd.prog.cellsOf 2 = 1 := by kernel_rfl
theorem cellsUnit : Tryd.prog.cellsOf 81 = 3 := by kernel_rfl
theorem cellsUnits : Tryd.prog.cellsOf 82 = 12 := by kernel_rfl
theorem var_cell {W : World} {name : String} {g : Nat} {cs : Array Value} (hg : Tryd.prog.globalNamed name = some g) (h : W.var? Tryd.prog name = some cs) (i : Nat) : W.cell? ⟨g, i, none⟩ = cs[i]? := World.var?_cell hg h i
section
variable {H : Type} {enc : TypeId × Value → H} {W : World} {base : Nat} {sp : Nat → Bool} {held : Bool} {fuel : Nat}
theorem unit_cells {v0 v1 v2 : Value} {x y z : Int} {p : List MemPlace} (h : DataW.trod enc Tryd.prog W base sp held fuel 81 [v0, v1, v2] = some (.agg [.lit (.int .u8 x), .lit (.int .i64 y), .lit (.int .i64 z)], p)) :
    v0 = .int .u8 x ∧ v1 = .int .i64 y ∧ v2 = .int .i64 z := by
  obtain ⟨xs, m, _, hx, _, hxl, hf⟩ := DataW.trod_struct Tryd.underlying81 h
  have hxl3 : xs.length = 3 := hxl
  match xs, hxl3 with
  | [y0, y1, y2], _ =>
    simp only [List.map_cons, List.map_nil, Prod.mk.injEq, DataW.agg.injEq, List.cons.injEq, and_true] at hx
    obtain ⟨⟨e0, e1, e2⟩, _⟩ := hx
    have h0 := hf 0 _ rfl
    have h1 := hf 1 _ rfl
    have h2 := hf 2 _ rfl
    have t0 : DataW.trod enc Tryd.prog W base sp held m 5 [v0] = some y0 := by
      have : DataW.trod enc Tryd.prog W base sp held m 5 (([v0, v1, v2].drop 0).take (Tryd.prog.cellsOf 5)) = some y0 := h0
      rwa [cellsU8] at this
    have t1 : DataW.trod enc Tryd.prog W base sp held m 2 [v1] = some y1 := by
      have : DataW.trod enc Tryd.prog W base sp held m 2 (([v0, v1, v2].drop 1).take (Tryd.prog.cellsOf 2)) = some y1 := h1
      rwa [cellsI64] at this
    have t2 : DataW.trod enc Tryd.prog W base sp held m 2 [v2] = some y2 := by
      have : DataW.trod enc Tryd.prog W base sp held m 2 (([v0, v1, v2].drop 2).take (Tryd.prog.cellsOf 2)) = some y2 := h2
      rwa [cellsI64] at this
    obtain ⟨a0, c0, rfl, _⟩ := DataW.trod_int Tryd.underlying5 t0
    obtain ⟨a1, c1, rfl, _⟩ := DataW.trod_int Tryd.underlying2 t1
    obtain ⟨a2, c2, rfl, _⟩ := DataW.trod_int Tryd.underlying2 t2
    simp only [DataW.lit.injEq, Lit.int.injEq, true_and] at e0 e1 e2
    simp only [List.cons.injEq, and_true] at c0 c1 c2
    exact ⟨by rw [c0, e0], by rw [c1, e1], by rw [c2, e2]⟩
theorem units_cells {cs : List Value} {p : List MemPlace} (h : DataW.trod enc Tryd.prog W base sp held fuel 82 cs = some (Rows.laid_polder_clock_units, p)) : cs = unitL := by
  obtain ⟨xs, m, _, hx, hcl, hxl, hf⟩ := DataW.trod_array Tryd.underlying82 h
  rw [cellsUnits] at hcl
  rw [cellsUnit] at hf
  match xs, hxl with
  | [y0, y1, y2, y3], _ =>
    match cs, hcl with
    | [c0, c1, c2, c3, c4, c5, c6, c7, c8, c9, c10, c11], _ =>
      unfold Rows.laid_polder_clock_units at hx
      simp only [List.map_cons, List.map_nil, Prod.mk.injEq, DataW.agg.injEq, List.cons.injEq, and_true] at hx
      obtain ⟨⟨e0, e1, e2, e3⟩, _⟩ := hx
      obtain ⟨d0, p0⟩ := y0
      obtain ⟨d1, p1⟩ := y1
      obtain ⟨d2, p2⟩ := y2
      obtain ⟨d3, p3⟩ := y3
      dsimp only at e0 e1 e2 e3
      subst e0 e1 e2 e3
      obtain ⟨r0, r1, r2⟩ := unit_cells (v0 := c0) (v1 := c1) (v2 := c2) (hf 0 (by decide))
      obtain ⟨r3, r4, r5⟩ := unit_cells (v0 := c3) (v1 := c4) (v2 := c5) (hf 1 (by decide))
      obtain ⟨r6, r7, r8⟩ := unit_cells (v0 := c6) (v1 := c7) (v2 := c8) (hf 2 (by decide))
      obtain ⟨r9, r10, r11⟩ := unit_cells (v0 := c9) (v1 := c10) (v2 := c11) (hf 3 (by decide))
      subst r0 r1 r2 r3 r4 r5 r6 r7 r8 r9 r10 r11
      rfl
end
theorem t9_of {W : World} (h : laidMetH Tryd.prog [("math/bits.deBruijn32tab", Rows.laid_math_bits_deBruijn32tab), ("math/bits.deBruijn64tab", Rows.laid_math_bits_deBruijn64tab), ("internal/strconv.uint64pow10", Rows.laid_internal_strconv_uint64pow10), ("polder/clock.units", Rows.laid_polder_clock_units)] W) : T9 W := by
  obtain ⟨ps, hl, _⟩ : laidMet Tryd.prog [("math/bits.deBruijn32tab", Rows.laid_math_bits_deBruijn32tab), ("math/bits.deBruijn64tab", Rows.laid_math_bits_deBruijn64tab), ("internal/strconv.uint64pow10", Rows.laid_internal_strconv_uint64pow10), ("polder/clock.units", Rows.laid_polder_clock_units)] W := h
  obtain ⟨g0, t0, cs0, f0, p0, q0, hg0, ht0, hv0, hd0, ⟨g1, t1, cs1, f1, p1, q1, hg1, ht1, hv1, hd1, ⟨g2, t2, cs2, f2, p2, q2, hg2, ht2, hv2, hd2, ⟨g3, t3, cs3, f3, p3, q3, hg3, ht3, hv3, hd3, _, _⟩, _⟩, _⟩, _⟩ := hl
  obtain rfl := Option.some.inj (gUn.symm.trans hg3)
  obtain rfl := Option.some.inj (gUnType.symm.trans ht3)
  have e := units_cells hd3
  refine ⟨fun k hk => ?_⟩
  rw [var_cell gUn hv3, ← Array.getElem?_toList, e]
  have hk' : k < unitL.length := hk
  rw [List.getElem?_eq_getElem hk', List.getD_eq_getElem?_getD, List.getElem?_eq_getElem hk']
  rfl
/-- A world for the witness: the settled one, the tables holding what their initialisers lay. -/
noncomputable def laidWorld (os : Os) : World :=
  { World.holding Tryd.prog os ⟨#[], #[], []⟩ with heap := (((((World.holding Tryd.prog os ⟨#[], #[], []⟩).heap.modify 3 fun
      | .cells _ t frozen => .cells #[.int .u8 0, .int .u8 1, .int .u8 28, .int .u8 2, .int .u8 29, .int .u8 14, .int .u8 24, .int .u8 3, .int .u8 30, .int .u8 22, .int .u8 20, .int .u8 15, .int .u8 25, .int .u8 17, .int .u8 4, .int .u8 8, .int .u8 31, .int .u8 27, .int .u8 13, .int .u8 23, .int .u8 21, .int .u8 19, .int .u8 16, .int .u8 7, .int .u8 26, .int .u8 12, .int .u8 18, .int .u8 6, .int .u8 11, .int .u8 5, .int .u8 10, .int .u8 9] t frozen
      | o => o).modify 4 fun
      | .cells _ t frozen => .cells #[.int .u8 0, .int .u8 1, .int .u8 56, .int .u8 2, .int .u8 57, .int .u8 49, .int .u8 28, .int .u8 3, .int .u8 61, .int .u8 58, .int .u8 42, .int .u8 50, .int .u8 38, .int .u8 29, .int .u8 17, .int .u8 4, .int .u8 62, .int .u8 47, .int .u8 59, .int .u8 36, .int .u8 45, .int .u8 43, .int .u8 51, .int .u8 22, .int .u8 53, .int .u8 39, .int .u8 33, .int .u8 30, .int .u8 24, .int .u8 18, .int .u8 12, .int .u8 5, .int .u8 63, .int .u8 55, .int .u8 48, .int .u8 27, .int .u8 60, .int .u8 41, .int .u8 37, .int .u8 16, .int .u8 46, .int .u8 35, .int .u8 44, .int .u8 21, .int .u8 52, .int .u8 32, .int .u8 23, .int .u8 11, .int .u8 54, .int .u8 26, .int .u8 40, .int .u8 15, .int .u8 34, .int .u8 20, .int .u8 31, .int .u8 10, .int .u8 25, .int .u8 14, .int .u8 19, .int .u8 9, .int .u8 13, .int .u8 8, .int .u8 7, .int .u8 6] t frozen
      | o => o).modify 2 fun
      | .cells _ t frozen => .cells #[.int .u64 1, .int .u64 10, .int .u64 100, .int .u64 1000, .int .u64 10000, .int .u64 100000, .int .u64 1000000, .int .u64 10000000, .int .u64 100000000, .int .u64 1000000000, .int .u64 10000000000, .int .u64 100000000000, .int .u64 1000000000000, .int .u64 10000000000000, .int .u64 100000000000000, .int .u64 1000000000000000, .int .u64 10000000000000000, .int .u64 100000000000000000, .int .u64 1000000000000000000, .int .u64 10000000000000000000] t frozen
      | o => o).modify 0 fun
      | .cells _ t frozen => .cells #[.int .u8 100, .int .i64 86400, .int .i64 0, .int .u8 104, .int .i64 3600, .int .i64 24, .int .u8 109, .int .i64 60, .int .i64 60, .int .u8 115, .int .i64 1, .int .i64 60] t frozen
      | o => o) }

end Go.Proofs.YtjceahbikdncmaaDoor

namespace Go.Proofs.YtjceahbikdncmaaDoor.clockPlans
open Go.ChangeShapes Go.WideShapes Go.ChangeAt Go.RowKit

set_option maxRecDepth 100000 in
theorem contract (H : Type) (enc : TypeId × Value → H) (W : World) (base : Nat) (args : Array Value) (ds gs : List (DataW H)) (before : List MemPlace)
    (hval : ∀ (j : Nat) t v, Tryd.f8.params[j]? = some t → args[j]? = some v → Value.okWide Tryd.prog W .any base t v)
    (hW : DataW.Whole enc Tryd.prog Tryd.f8.params.toList Rows.clockPlansSpec.vars false W args.toList ds gs before) (hL : laidMetH Tryd.prog Rows.clockPlansRow.laid W) :
    Calls Tryd.prog 8 args W fun e W' => ∃ v, e = .returned v ∧ Rows.clockPlansSpec.post enc Tryd.prog Tryd.f8 false true false false W args v W' := by
  have hW' := hW
  obtain ⟨p, q, hA0, hV, rfl, hfz, hnd⟩ := hW
  have hA : DataW.TrodAll enc Tryd.prog W 0 (fun _ => true) true Tryd.f8.params.toList args.toList ds p := hA0
  rw [Tryd.params8] at hA hval
  obtain ⟨v0, vs0, d0, ds0, p0, q0, hargs, rfl, rfl, h0, r0⟩ := trodAll_cons hA
  obtain ⟨v1, vs1, d1, ds1, p1, q1, rfl, rfl, rfl, h1, r1⟩ := trodAll_cons r0
  obtain ⟨v2, vs2, d2, ds2, p2, q2, rfl, rfl, rfl, h2, r2⟩ := trodAll_cons r1
  obtain ⟨rfl, rfl, rfl⟩ := trodAll_nil r2
  obtain rfl : args = #[v0, v1, v2] := by cases args; simp_all
  obtain ⟨rfl, rfl⟩ := trodVars_none hV
  obtain ⟨a0, n0, c0, R0, rfl, hS0, hn0, hR0, hc0⟩ := open_ckplanC (hval 0 24 v0 rfl rfl) h0
  obtain ⟨x1, rfl, hx1⟩ := open_ckalarm (hval 1 47 v1 rfl rfl) h1
  obtain ⟨s2, rfl⟩ := okWide_string Tryd.underlying9 (hval 2 9 v2 rfl rfl)
  refine (law_plans a0 n0 c0 R0 x1 s2 W hS0 hn0 hc0 hR0 (t9_of hL)).mono fun e W' ⟨he, hb⟩ => ?_
  exact ⟨_, he, law_post hW' rfl (by rw [Tryd.params8]; kernel_rfl) rfl rfl rfl rfl hb⟩

theorem laid_met (os : Os) : laidMet Tryd.prog Rows.clockPlansRow.laid ((laidWorld os).forCall (fun _ _ => 0) ⟨#[], #[.agg #[.slice none 0 0], .agg #[.string ⟨#[]⟩, .int .i64 0, .int .i64 0], .string ⟨#[]⟩], []⟩).memory :=
  laidMet_of_run' 8 (by kernel_rfl) (by kernel_rfl)
theorem reads (os : Os) {H : Type} (enc : TypeId × Value → H) : ∃ places, DataW.whole enc Tryd.prog ((laidWorld os).forCall (fun _ _ => 0) ⟨#[], #[.agg #[.slice none 0 0], .agg #[.string ⟨#[]⟩, .int .i64 0, .int .i64 0], .string ⟨#[]⟩], []⟩).memory Tryd.f8.params.toList Rows.clockPlansSpec.vars false #[Value.agg #[.slice none 0 0], Value.agg #[.string ⟨#[]⟩, .int .i64 0, .int .i64 0], Value.string ⟨#[]⟩].toList 8 = some ([.agg [.nil], .agg [.lit (.string []), .lit (.int .i64 0), .lit (.int .i64 0)], .lit (.string [])], [], places) :=
  ⟨[], by kernel_rfl⟩

set_option maxRecDepth 100000 in
theorem lifted (os : Os) (started : os.Started) (H : Type) (enc : TypeId × Value → H) (F : Stop.Interp) :
    ReturnsInHanded {} Tryd.checked os 8 .any ((OpenSpec.ofChange Rows.clockPlansSpec).preRow enc Tryd.prog Tryd.f8 Rows.clockPlansRow.domain false Rows.clockPlansRow.laid) (((OpenSpec.ofChange Rows.clockPlansSpec).at F).post enc Tryd.prog Tryd.f8 false true false false) := by
  obtain ⟨places, hx⟩ := reads os enc
  refine returnsInHanded_of_row (C := Tryd.checked) (s := OpenSpec.ofChange Rows.clockPlansSpec) own started (by kernel_rfl) Tryd.func8
    (witness_row_at (enc := enc) (C := Tryd.checked) false (laidWorld os) #[.agg #[.slice none 0 0], .agg #[.string ⟨#[]⟩, .int .i64 0, .int .i64 0], .string ⟨#[]⟩] rfl (by kernel_rfl) (by kernel_rfl) (by kernel_rfl)
      (OpenSpec.preRow_of_cond 8 hx (by kernel_rfl) (fun k hk => by cases hk) (by kernel_rfl) (laid_met os))) ?_
  intro W base args ds gs before hval hW _ _ _ hL _ _
  exact contract H enc W base args ds gs before hval hW hL

theorem said : Rows.ClockPlansSaid :=
  OpenClaim.holds_of_cond 8 Tryd.f8 rfl rfl rfl rfl rfl rfl rfl ⟨rfl, rfl, rfl, rfl, rfl⟩ rfl rfl rfl rfl rfl (by kernel_rfl) Tryd.func8 (by kernel_rfl)
    (of_decide_eq_true (by kernel_rfl)) (by unfold Func.isWrapper; first | (rw [if_pos (by decide +kernel)]; kernel_rfl) | (rw [if_neg (by decide +kernel)]; exact ⟨rfl, rfl⟩))
    (fun os started H enc _ F => by rw [OpenClaim.pre_eq_preRow]; exact lifted os started H enc F)

theorem plain (f : FuncId) (fn : Func) (hf : Tryd.pinned.checked.prog.funcNamed "polder/polderlaw09.ClockPlans" = some f) (hfn : Tryd.pinned.checked.prog.funcs[f]? = some fn) :
    false = Tryd.pinned.checked.prog.looks [] ∧ ∀ (j : Nat) t, fn.params[j]? = some t → Tryd.pinned.checked.prog.wantsStandIn t = false := by
  obtain rfl : f = 8 := Option.some.inj ((show Tryd.prog.funcNamed "polder/polderlaw09.ClockPlans" = some 8 by kernel_rfl).symm.trans hf) |>.symm
  obtain rfl : fn = Tryd.f8 := (Option.some.inj (Tryd.func8.symm.trans hfn)).symm
  refine ⟨by kernel_rfl, fun j t ht => ?_⟩
  rw [Tryd.params8] at ht
  have hm : t ∈ [24, 47, 9] := by simpa using Array.mem_of_getElem? ht
  have hall : ([24, 47, 9].all fun u => !Tryd.prog.wantsStandIn u) = true := by kernel_rfl
  exact (show Tryd.prog.wantsStandIn t = false by simpa using List.all_eq_true.1 hall t hm)

/-- THE CARD. -/
theorem card : Rows.ClockPlansCardSaid :=
  Claim7.holds_tied_plain_at .later [] _ _ _ _ said (fun _ h => by cases h) (by kernel_rfl) (fun _ h => by cases h) clockPlans_row_tie rfl ⟨rfl, rfl⟩ (by kernel_rfl) rfl plain (by kernel_rfl)
#print axioms card
end Go.Proofs.YtjceahbikdncmaaDoor.clockPlans
