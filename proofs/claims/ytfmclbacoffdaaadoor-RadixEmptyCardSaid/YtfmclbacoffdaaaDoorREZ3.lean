/- An argument of type RmDesc, as a row hands it. | The arguments of types []Call and Call of chapter 07, as a row hands them. | RadixEmpty returns true for every input, on every schedule; its arguments read afterwards as they read before. No condition beyond the row's own. -/
import Derived.Test.YtfmclbacoffdaaaDoorREZ2
import Derived.Lib.SmallJoins
import Derived.Deep.Fields
import Derived.Test.YtfmclbacoffdaaaDoorRZ10
import Derived.Deep.Slices
namespace Go.Proofs.YtfmclbacoffdaaaDoor
open Go.ChangeShapes Go.WideShapes Go.ChangeAt Go.RowKit Go.Joins
set_option maxRecDepth 100000 in
theorem open_desc {H : Type} {enc : TypeId × Value → H} {W : World} {base : Nat} {v : Value} {d : DataW H} {p : List MemPlace} (hv : Value.okWide Tryd.prog W .any base 23 v) (h : DataW.Trod enc Tryd.prog W 0 (fun _ => true) true 23 v d p) :
    ∃ (o s t : Int) (g : Bool), v = .agg #[.int .i64 o, .int .i64 s, .int .i64 t, .bool g] ∧ (-9223372036854775808 ≤ o ∧ o ≤ 9223372036854775807) ∧ (-9223372036854775808 ≤ s ∧ s ≤ 9223372036854775807) ∧ (-9223372036854775808 ≤ t ∧ t ≤ 9223372036854775807) := by
  obtain ⟨cs, rfl, hsz⟩ := okWide_struct Tryd.underlying23 hv
  have hC : Tryd.prog.cellsOf 23 = 4 := by kernel_rfl
  have hk : Tryd.prog.cellsOf 3 = 1 := by kernel_rfl
  have hk6 : Tryd.prog.cellsOf 2 = 1 := by kernel_rfl
  have hkb : Tryd.prog.cellsOf 4 = 1 := by kernel_rfl
  obtain ⟨fuel, hf⟩ := h
  have hl : cs.toList.length = 4 := by simpa using hsz.trans hC
  obtain ⟨ys, n', _, _, _, hyl, hg⟩ := DataW.trod_struct Tryd.underlying23 hf
  have h0 : DataW.trod enc Tryd.prog W 0 (fun _ => true) true n' 3 ((cs.toList.drop 0).take (Tryd.prog.cellsOf 3)) = ys[0]? := hg 0 _ rfl
  have h1 : DataW.trod enc Tryd.prog W 0 (fun _ => true) true n' 3 ((cs.toList.drop 1).take (Tryd.prog.cellsOf 3)) = ys[1]? := hg 1 _ rfl
  have h2 : DataW.trod enc Tryd.prog W 0 (fun _ => true) true n' 2 ((cs.toList.drop 2).take (Tryd.prog.cellsOf 2)) = ys[2]? := hg 2 _ rfl
  have h3 : DataW.trod enc Tryd.prog W 0 (fun _ => true) true n' 4 ((cs.toList.drop 3).take (Tryd.prog.cellsOf 4)) = ys[3]? := hg 3 _ rfl
  rw [hk] at h0 h1
  rw [hk6] at h2
  rw [hkb] at h3
  have e0 : ys[0]? = some (ys[0]'(by rw [hyl]; decide)) := List.getElem?_eq_getElem _
  have e1 : ys[1]? = some (ys[1]'(by rw [hyl]; decide)) := List.getElem?_eq_getElem _
  have e2 : ys[2]? = some (ys[2]'(by rw [hyl]; decide)) := List.getElem?_eq_getElem _
  have e3 : ys[3]? = some (ys[3]'(by rw [hyl]; decide)) := List.getElem?_eq_getElem _
  match hcs : cs.toList, hl with
  | [v0, v1, v2, v3], _ =>
    rw [hcs] at h0 h1 h2 h3
    obtain ⟨x0, f0, _, w0⟩ := DataW.trod_int Tryd.underlying3 (show DataW.trod enc Tryd.prog W 0 (fun _ => true) true n' 3 [v0] = some _ from h0.trans e0)
    obtain ⟨x1, f1, _, w1⟩ := DataW.trod_int Tryd.underlying3 (show DataW.trod enc Tryd.prog W 0 (fun _ => true) true n' 3 [v1] = some _ from h1.trans e1)
    obtain ⟨x2, f2, _, w2⟩ := DataW.trod_int Tryd.underlying2 (show DataW.trod enc Tryd.prog W 0 (fun _ => true) true n' 2 [v2] = some _ from h2.trans e2)
    obtain ⟨x3, f3, _⟩ := DataW.trod_bool Tryd.underlying4 (show DataW.trod enc Tryd.prog W 0 (fun _ => true) true n' 4 [v3] = some _ from h3.trans e3)
    cases f0; cases f1; cases f2; cases f3
    exact ⟨x0, x1, x2, x3, by cases cs; simp_all, bounds_i64 w0, bounds_i64 w1, bounds_i64 w2⟩
end Go.Proofs.YtfmclbacoffdaaaDoor

namespace Go.Proofs.YtfmclbacoffdaaaDoor
open Go.ChangeShapes Go.WideShapes Go.ChangeAt Go.RowKit Go.Joins Go.Deep
/-- the bounds of a call's numbers -/
structure ClOk (x : Cl) : Prop where
  w : x.wh ≤ 255
  f : -9223372036854775808 ≤ x.f ∧ x.f ≤ 9223372036854775807
  t : -9223372036854775808 ≤ x.t ∧ x.t ≤ 9223372036854775807
  o : -9223372036854775808 ≤ x.o ∧ x.o ≤ 9223372036854775807
  s : -9223372036854775808 ≤ x.s ∧ x.s ≤ 9223372036854775807
  c : -9223372036854775808 ≤ x.c ∧ x.c ≤ 9223372036854775807
section
variable {H : Type} {enc : TypeId × Value → H} {W : World} {base : Nat}
set_option maxRecDepth 100000 in
/-- the cells of a call -/
theorem cells_call {fuel : Nat} {cs : List Value} {x : DataW H × List MemPlace} (hl : cs.length = 7) (hf : DataW.trod enc Tryd.prog W base (fun _ => true) true fuel 73 cs = some x) :
    ∃ x : Cl, cs = [.int .u8 (x.wh : Int), .int .i64 x.f, .int .i64 x.t, .int .i64 x.o, .int .i64 x.s, .int .i64 x.c, .bool x.g] ∧ ClOk x := by
  have hk5 : Tryd.prog.cellsOf 5 = 1 := by kernel_rfl
  have hk : Tryd.prog.cellsOf 3 = 1 := by kernel_rfl
  have hk6 : Tryd.prog.cellsOf 2 = 1 := by kernel_rfl
  have hkb : Tryd.prog.cellsOf 4 = 1 := by kernel_rfl
  have hkd : Tryd.prog.cellsOf 23 = 4 := by kernel_rfl
  obtain ⟨ys, n', _, _, _, hyl, hg⟩ := DataW.trod_struct Tryd.underlying73 hf
  have h0 : DataW.trod enc Tryd.prog W base (fun _ => true) true n' 5 ((cs.drop 0).take (Tryd.prog.cellsOf 5)) = ys[0]? := hg 0 _ rfl
  have h1 : DataW.trod enc Tryd.prog W base (fun _ => true) true n' 3 ((cs.drop 1).take (Tryd.prog.cellsOf 3)) = ys[1]? := hg 1 _ rfl
  have h2 : DataW.trod enc Tryd.prog W base (fun _ => true) true n' 3 ((cs.drop 2).take (Tryd.prog.cellsOf 3)) = ys[2]? := hg 2 _ rfl
  have h3 : DataW.trod enc Tryd.prog W base (fun _ => true) true n' 23 ((cs.drop 3).take (Tryd.prog.cellsOf 23)) = ys[3]? := hg 3 _ rfl
  rw [hk5] at h0
  rw [hk] at h1 h2
  rw [hkd] at h3
  have e0 : ys[0]? = some (ys[0]'(by rw [hyl]; decide)) := List.getElem?_eq_getElem _
  have e1 : ys[1]? = some (ys[1]'(by rw [hyl]; decide)) := List.getElem?_eq_getElem _
  have e2 : ys[2]? = some (ys[2]'(by rw [hyl]; decide)) := List.getElem?_eq_getElem _
  have e3 : ys[3]? = some (ys[3]'(by rw [hyl]; decide)) := List.getElem?_eq_getElem _
  match cs, hl with
  | [v0, v1, v2, v3, v4, v5, v6], _ =>
    obtain ⟨x0, f0, _, w0⟩ := DataW.trod_int Tryd.underlying5 (show DataW.trod enc Tryd.prog W base (fun _ => true) true n' 5 [v0] = some _ from h0.trans e0)
    obtain ⟨x1, f1, _, w1⟩ := DataW.trod_int Tryd.underlying3 (show DataW.trod enc Tryd.prog W base (fun _ => true) true n' 3 [v1] = some _ from h1.trans e1)
    obtain ⟨x2, f2, _, w2⟩ := DataW.trod_int Tryd.underlying3 (show DataW.trod enc Tryd.prog W base (fun _ => true) true n' 3 [v2] = some _ from h2.trans e2)
    obtain ⟨zs, n2, _, _, _, hzl, hz⟩ := DataW.trod_struct Tryd.underlying23 (show DataW.trod enc Tryd.prog W base (fun _ => true) true n' 23 [v3, v4, v5, v6] = some _ from h3.trans e3)
    have g0 : DataW.trod enc Tryd.prog W base (fun _ => true) true n2 3 (([v3, v4, v5, v6].drop 0).take (Tryd.prog.cellsOf 3)) = zs[0]? := hz 0 _ rfl
    have g1 : DataW.trod enc Tryd.prog W base (fun _ => true) true n2 3 (([v3, v4, v5, v6].drop 1).take (Tryd.prog.cellsOf 3)) = zs[1]? := hz 1 _ rfl
    have g2 : DataW.trod enc Tryd.prog W base (fun _ => true) true n2 2 (([v3, v4, v5, v6].drop 2).take (Tryd.prog.cellsOf 2)) = zs[2]? := hz 2 _ rfl
    have g3 : DataW.trod enc Tryd.prog W base (fun _ => true) true n2 4 (([v3, v4, v5, v6].drop 3).take (Tryd.prog.cellsOf 4)) = zs[3]? := hz 3 _ rfl
    rw [hk] at g0 g1
    rw [hk6] at g2
    rw [hkb] at g3
    have q0 : zs[0]? = some (zs[0]'(by rw [hzl]; decide)) := List.getElem?_eq_getElem _
    have q1 : zs[1]? = some (zs[1]'(by rw [hzl]; decide)) := List.getElem?_eq_getElem _
    have q2 : zs[2]? = some (zs[2]'(by rw [hzl]; decide)) := List.getElem?_eq_getElem _
    have q3 : zs[3]? = some (zs[3]'(by rw [hzl]; decide)) := List.getElem?_eq_getElem _
    obtain ⟨x3, f3, _, w3⟩ := DataW.trod_int Tryd.underlying3 (show DataW.trod enc Tryd.prog W base (fun _ => true) true n2 3 [v3] = some _ from g0.trans q0)
    obtain ⟨x4, f4, _, w4⟩ := DataW.trod_int Tryd.underlying3 (show DataW.trod enc Tryd.prog W base (fun _ => true) true n2 3 [v4] = some _ from g1.trans q1)
    obtain ⟨x5, f5, _, w5⟩ := DataW.trod_int Tryd.underlying2 (show DataW.trod enc Tryd.prog W base (fun _ => true) true n2 2 [v5] = some _ from g2.trans q2)
    obtain ⟨x6, f6, _⟩ := DataW.trod_bool Tryd.underlying4 (show DataW.trod enc Tryd.prog W base (fun _ => true) true n2 4 [v6] = some _ from g3.trans q3)
    cases f0; cases f1; cases f2; cases f3; cases f4; cases f5; cases f6
    have b0 := bounds_u8 w0
    obtain ⟨z0, rfl⟩ := Int.eq_ofNat_of_zero_le b0.1
    exact ⟨⟨z0, x1, x2, x3, x4, x5, x6⟩, rfl, ⟨by dsimp only; omega, bounds_i64 w1, bounds_i64 w2, bounds_i64 w3, bounds_i64 w4, bounds_i64 w5⟩⟩
set_option maxRecDepth 100000 in
theorem open_call {v : Value} {d : DataW H} {p : List MemPlace} (hv : Value.okWide Tryd.prog W .any base 73 v) (h : DataW.Trod enc Tryd.prog W 0 (fun _ => true) true 73 v d p) :
    ∃ x : Cl, v = .agg #[.int .u8 (x.wh : Int), .int .i64 x.f, .int .i64 x.t, .int .i64 x.o, .int .i64 x.s, .int .i64 x.c, .bool x.g] ∧ ClOk x := by
  obtain ⟨cs, rfl, hsz⟩ := okWide_struct Tryd.underlying73 hv
  have hC : Tryd.prog.cellsOf 73 = 7 := by kernel_rfl
  obtain ⟨fuel, hf⟩ := h
  have hl : cs.toList.length = 7 := by simpa using hsz.trans hC
  obtain ⟨x, hx, hb⟩ := cells_call hl hf
  exact ⟨x, by cases cs; simp_all, hb⟩
set_option maxRecDepth 100000 in
theorem open_calls7 {v : Value} {d : DataW H} {p : List MemPlace} (hv : Value.okWide Tryd.prog W .any base 32 v) (h : DataW.Trod enc Tryd.prog W 0 (fun _ => true) true 32 v d p) :
    ∃ (a : Option Addr) (n cap : Nat) (C : Nat → Cl), v = .slice a n cap ∧ SlC W a n C ∧ n ≤ 9223372036854775807 ∧ ∀ j, j < n → ClOk (C j) := by
  obtain ⟨a, l, c, rfl⟩ := okWide_slice Tryd.underlying32 hv
  have hC : Tryd.prog.cellsOf 73 = 7 := by kernel_rfl
  obtain ⟨fuel, hf⟩ := h
  rcases open_slice Tryd.underlying32 hf with ⟨h, _⟩ | ⟨A, len, cap, mm, n, D, Pl, h, _, hl, hm, hmm, _, hi⟩
  · cases h
    exact ⟨none, 0, 0, fun _ => default, rfl, .inl rfl, by decide, fun j hj => by omega⟩
  · cases h
    have hml : maxLen ≤ 9223372036854775807 := by decide
    simp only [↓reduceIte] at hmm
    have key : ∀ i, i < c → ∃ x : Cl, (∀ k, k < 7 → W.cell? (A.add (i * 7 + k)) = [Value.int .u8 (x.wh : Int), .int .i64 x.f, .int .i64 x.t, .int .i64 x.o, .int .i64 x.s, .int .i64 x.c, .bool x.g][k]?) ∧ ClOk x := by
      intro i hic
      obtain ⟨cs', hc, ht'⟩ := hi i (by omega)
      rw [hC] at hc
      obtain ⟨_, hcl, hat⟩ := World.cells?_some hc
      obtain ⟨x, hx, hb⟩ := cells_call hcl ht'
      refine ⟨x, fun k hk => ?_, hb⟩
      have := hat k hk
      rw [Go.Deep.add_add] at this
      rw [this, hx]
    have key2 : ∃ C : Nat → Cl, ∀ i, i < c → (∀ k, k < 7 → W.cell? (A.add (i * 7 + k)) = [Value.int .u8 ((C i).wh : Int), .int .i64 (C i).f, .int .i64 (C i).t, .int .i64 (C i).o, .int .i64 (C i).s, .int .i64 (C i).c, .bool (C i).g][k]?) ∧ ClOk (C i) := by
      classical
      refine ⟨fun i => if hi : i < c then Classical.choose (key i hi) else default, fun i hi => ?_⟩
      dsimp only
      rw [dif_pos hi]
      exact Classical.choose_spec (key i hi)
    obtain ⟨C, hC'⟩ := key2
    refine ⟨some A, l, c, C, rfl, ?_, by omega, fun j hj => (hC' j (by omega)).2⟩
    by_cases h0 : l = 0
    · exact .inl h0
    · have hp := (hC' 0 (by omega)).1 0 (by decide)
      obtain ⟨b, o, spot⟩ := A
      have hs : spot = none := World.cell?_spot (hp.trans rfl)
      subst hs
      have hlt : b < W.heap.size := World.block_lt_of_cell? _ _ (hp.trans rfl)
      refine .inr ⟨b, o, rfl, hlt, fun j hj => ?_⟩
      have hk := (hC' j (by omega)).1
      simp only [Go.WideShapes.add_plain] at hk
      exact ⟨hk 0 (by decide), hk 1 (by decide), hk 2 (by decide), hk 3 (by decide), hk 4 (by decide), hk 5 (by decide), hk 6 (by decide)⟩
end
end Go.Proofs.YtfmclbacoffdaaaDoor

namespace Go.Proofs.YtfmclbacoffdaaaDoor.radixEmpty
open Go.ChangeShapes Go.WideShapes Go.ChangeAt Go.RowKit

set_option maxRecDepth 100000 in
theorem contract (H : Type) (enc : TypeId × Value → H) (W : World) (base : Nat) (args : Array Value) (ds gs : List (DataW H)) (before : List MemPlace)
    (hval : ∀ (j : Nat) t v, Tryd.f5.params[j]? = some t → args[j]? = some v → Value.okWide Tryd.prog W .any base t v)
    (hW : DataW.Whole enc Tryd.prog Tryd.f5.params.toList Rows.radixEmptySpec.vars false W args.toList ds gs before) (hL : laidMetH Tryd.prog Rows.radixEmptyRow.laid W) :
    Calls Tryd.prog 5 args W fun e W' => ∃ v, e = .returned v ∧ Rows.radixEmptySpec.post enc Tryd.prog Tryd.f5 false true false false W args v W' := by
  have hW' := hW
  obtain ⟨p, q, hA0, hV, rfl, hfz, hnd⟩ := hW
  have hA : DataW.TrodAll enc Tryd.prog W 0 (fun _ => true) true Tryd.f5.params.toList args.toList ds p := hA0
  rw [Tryd.params5] at hA hval
  obtain ⟨v0, vs0, d0, ds0, p0, q0, hargs, rfl, rfl, h0, r0⟩ := trodAll_cons hA
  obtain ⟨v1, vs1, d1, ds1, p1, q1, rfl, rfl, rfl, h1, r1⟩ := trodAll_cons r0
  obtain ⟨rfl, rfl, rfl⟩ := trodAll_nil r1
  obtain rfl : args = #[v0, v1] := by cases args; simp_all
  obtain ⟨rfl, rfl⟩ := trodVars_none hV
  obtain ⟨x0, rfl, rfl, rfl, w0⟩ := open_int Tryd.underlying3 (hval 0 3 v0 rfl rfl) h0
  have b0 := bounds_i64 w0
  obtain ⟨a1, l1, c1, C1, rfl, hC1, ll1, cb1⟩ := open_calls7 (hval 1 32 v1 rfl rfl) h1
  refine (law_empty x0 hC1 (tab_of hL)).mono fun e W' ⟨he, hb⟩ => ?_
  exact ⟨_, he, law_post hW' rfl (by rw [Tryd.params5]; kernel_rfl) rfl rfl rfl rfl hb⟩

theorem laid_met (os : Os) : laidMet Tryd.prog Rows.radixEmptyRow.laid ((laidWorld os).forCall (fun _ _ => 0) ⟨#[], #[.int .i64 0, .slice none 0 0], []⟩).memory :=
  laidMet_of_run' 8 (by kernel_rfl) (by kernel_rfl)
theorem reads (os : Os) {H : Type} (enc : TypeId × Value → H) : ∃ places, DataW.whole enc Tryd.prog ((laidWorld os).forCall (fun _ _ => 0) ⟨#[], #[.int .i64 0, .slice none 0 0], []⟩).memory Tryd.f5.params.toList Rows.radixEmptySpec.vars false #[Value.int .i64 0, Value.slice none 0 0].toList 8 = some ([.lit (.int .i64 0), .nil], [], places) :=
  ⟨[], by kernel_rfl⟩

set_option maxRecDepth 100000 in
theorem lifted (os : Os) (started : os.Started) (H : Type) (enc : TypeId × Value → H) (F : Stop.Interp) :
    ReturnsInHanded {} Tryd.checked os 5 .any ((OpenSpec.ofChange Rows.radixEmptySpec).preRow enc Tryd.prog Tryd.f5 Rows.radixEmptyRow.domain false Rows.radixEmptyRow.laid) (((OpenSpec.ofChange Rows.radixEmptySpec).at F).post enc Tryd.prog Tryd.f5 false true false false) := by
  obtain ⟨places, hx⟩ := reads os enc
  refine returnsInHanded_of_row (C := Tryd.checked) (s := OpenSpec.ofChange Rows.radixEmptySpec) own started (by kernel_rfl) Tryd.func5
    (witness_row_at (enc := enc) (C := Tryd.checked) false (laidWorld os) #[.int .i64 0, .slice none 0 0] rfl (by kernel_rfl) (by kernel_rfl) (by kernel_rfl)
      (OpenSpec.preRow_of_cond 8 hx (by kernel_rfl) (fun k hk => by cases hk) (by kernel_rfl) (laid_met os))) ?_
  intro W base args ds gs before hval hW _ _ _ hL _ _
  exact contract H enc W base args ds gs before hval hW hL

theorem said : Rows.RadixEmptySaid :=
  OpenClaim.holds_of_cond 5 Tryd.f5 rfl rfl rfl rfl rfl rfl rfl ⟨rfl, rfl, rfl, rfl, rfl⟩ rfl rfl rfl rfl rfl (by kernel_rfl) Tryd.func5 (by kernel_rfl)
    (of_decide_eq_true (by kernel_rfl)) (by unfold Func.isWrapper; first | (rw [if_pos (by decide +kernel)]; kernel_rfl) | (rw [if_neg (by decide +kernel)]; exact ⟨rfl, rfl⟩))
    (fun os started H enc _ F => by rw [OpenClaim.pre_eq_preRow]; exact lifted os started H enc F)

theorem plain (f : FuncId) (fn : Func) (hf : Tryd.pinned.checked.prog.funcNamed "polder/polderlaw07.RadixEmpty" = some f) (hfn : Tryd.pinned.checked.prog.funcs[f]? = some fn) :
    false = Tryd.pinned.checked.prog.looks [] ∧ ∀ (j : Nat) t, fn.params[j]? = some t → Tryd.pinned.checked.prog.wantsStandIn t = false := by
  obtain rfl : f = 5 := Option.some.inj ((show Tryd.prog.funcNamed "polder/polderlaw07.RadixEmpty" = some 5 by kernel_rfl).symm.trans hf) |>.symm
  obtain rfl : fn = Tryd.f5 := (Option.some.inj (Tryd.func5.symm.trans hfn)).symm
  refine ⟨by kernel_rfl, fun j t ht => ?_⟩
  rw [Tryd.params5] at ht
  have hm : t ∈ [3, 32] := by simpa using Array.mem_of_getElem? ht
  have hall : ([3, 32].all fun u => !Tryd.prog.wantsStandIn u) = true := by kernel_rfl
  exact (show Tryd.prog.wantsStandIn t = false by simpa using List.all_eq_true.1 hall t hm)

/-- THE CARD. -/
theorem card : Rows.RadixEmptyCardSaid :=
  Claim7.holds_tied_plain_at .later [] _ _ _ _ said (fun _ h => by cases h) (by kernel_rfl) (fun _ h => by cases h) radixEmpty_row_tie rfl ⟨rfl, rfl⟩ (by kernel_rfl) rfl plain (by kernel_rfl)
#print axioms card
end Go.Proofs.YtfmclbacoffdaaaDoor.radixEmpty
