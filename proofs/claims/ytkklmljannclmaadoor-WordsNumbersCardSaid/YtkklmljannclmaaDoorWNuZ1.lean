/- The argument of type Ends, as a row hands it. | Words: the law of Digits and Int. | WordsNumbers returns true for every input, on every schedule; its arguments read afterwards as they read before. No condition beyond the row's own. -/
import Derived.Test.YtkklmljannclmaaDoorWZ9
import Derived.OpenShut
namespace Go.Proofs.YtkklmljannclmaaDoor
open Go.ChangeShapes Go.WideShapes Go.ChangeAt Go.RowKit Go.Joins
section
variable {H : Type} {enc : TypeId × Value → H} {W : World} {base : Nat}
set_option maxRecDepth 100000 in
theorem open_ends {v : Value} {d : DataW H} {p : List MemPlace} (hv : Value.okWide Tryd.prog W .any base 47 v) (h : DataW.Trod enc Tryd.prog W 0 (fun _ => true) true 47 v d p) :
    ∃ (S : ByteArray) (lo hi : Int), v = .agg #[.string S, .int .i64 lo, .int .i64 hi] ∧ (-9223372036854775808 ≤ lo ∧ lo ≤ 9223372036854775807) ∧ (-9223372036854775808 ≤ hi ∧ hi ≤ 9223372036854775807) := by
  obtain ⟨cs, rfl, hsz⟩ := okWide_struct Tryd.underlying47 hv
  have hC : Tryd.prog.cellsOf 47 = 3 := by kernel_rfl
  have hk : Tryd.prog.cellsOf 2 = 1 := by kernel_rfl
  have hk9 : Tryd.prog.cellsOf 9 = 1 := by kernel_rfl
  obtain ⟨fuel, hf⟩ := h
  have hl : cs.toList.length = 3 := by simpa using hsz.trans hC
  obtain ⟨ys, n', _, _, _, hyl, hg⟩ := DataW.trod_struct Tryd.underlying47 hf
  have h0 : DataW.trod enc Tryd.prog W 0 (fun _ => true) true n' 9 ((cs.toList.drop 0).take (Tryd.prog.cellsOf 9)) = ys[0]? := hg 0 _ rfl
  have h1 : DataW.trod enc Tryd.prog W 0 (fun _ => true) true n' 2 ((cs.toList.drop 1).take (Tryd.prog.cellsOf 2)) = ys[1]? := hg 1 _ rfl
  have h2 : DataW.trod enc Tryd.prog W 0 (fun _ => true) true n' 2 ((cs.toList.drop 2).take (Tryd.prog.cellsOf 2)) = ys[2]? := hg 2 _ rfl
  rw [hk9] at h0
  rw [hk] at h1 h2
  have hys0 : ys[0]? = some (ys[0]'(by rw [hyl]; decide)) := List.getElem?_eq_getElem _
  have hys1 : ys[1]? = some (ys[1]'(by rw [hyl]; decide)) := List.getElem?_eq_getElem _
  have hys2 : ys[2]? = some (ys[2]'(by rw [hyl]; decide)) := List.getElem?_eq_getElem _
  match hcs : cs.toList, hl with
  | [v0, v1, v2], _ =>
    rw [hcs] at h0 h1 h2
    obtain ⟨x0, e0, _, _⟩ := DataW.trod_string Tryd.underlying9 (show DataW.trod enc Tryd.prog W 0 (fun _ => true) true n' 9 [v0] = some _ from h0.trans hys0)
    obtain ⟨x1, e1, _, w1⟩ := DataW.trod_int Tryd.underlying2 (show DataW.trod enc Tryd.prog W 0 (fun _ => true) true n' 2 [v1] = some _ from h1.trans hys1)
    obtain ⟨x2, e2, _, w2⟩ := DataW.trod_int Tryd.underlying2 (show DataW.trod enc Tryd.prog W 0 (fun _ => true) true n' 2 [v2] = some _ from h2.trans hys2)
    cases e0; cases e1; cases e2
    exact ⟨x0, x1, x2, by cases cs; simp_all, bounds_i64 w1, bounds_i64 w2⟩
end
end Go.Proofs.YtkklmljannclmaaDoor

namespace Go.Proofs.YtkklmljannclmaaDoor
open Go.RowKit Go.Sort Go.Joins Go.Shelf
attribute [local go_sem] cell_grow frozen_grow size_grow

set_option maxRecDepth 100000 in
theorem wdigits_ok (n : Int) (h0 : -9223372036854775808 ≤ n) (h1 : n ≤ 9223372036854775807) (w : World) (hT : TW w) :
    Calls Tryd.prog 29 #[.int .i64 n] w fun e w' => e = .returned (.string ⟨(Lib.itoa n).toArray⟩) ∧ Below w.heap.size w w' := by
  have HF := Lib.hid (Tryd.strconv_FormatInt_10 n h0 h1 w hT.pow)
  clear hT
  go_enter Tryd.func29, Tryd.ntmps29
  go_wp2_with fail
  refine HF.out.mono ?_
  rintro e w1 ⟨rfl, k, os, hw⟩
  have hb : Below w.heap.size w w1 := by rw [hw]; exact below_regrown w _ os
  have HB := Lib.hid hb
  clear hw hb
  go_wp2
  go_ret
  exact ⟨rfl, HB.out⟩
theorem itoa_arr (n : Int) : (⟨(Lib.itoa n).toArray⟩ : ByteArray).data.toList = Lib.itoa n := rfl
theorem itoa_int (n : Int) (h0 : -9223372036854775808 ≤ n) (h1 : n ≤ 9223372036854775807) : intV (Lib.itoa n) (-9223372036854775808) 9223372036854775807 = n ∧ intE (Lib.itoa n) (-9223372036854775808) 9223372036854775807 = 0 := by
  have hE : intE (Lib.itoa n) (-9223372036854775808) 9223372036854775807 = 0 := by
    rw [intE_whole (by decide) (itoa_whole n), valZ_itoa, if_pos ⟨h0, h1⟩]
  exact ⟨by rw [intV_ok hE, valZ_itoa], hE⟩
theorem itoa_sz (n : Int) (h0 : -9223372036854775808 ≤ n) (h1 : n ≤ 9223372036854775807) : (⟨(Lib.itoa n).toArray⟩ : ByteArray).size ≤ 20 := by
  have e : (⟨(Lib.itoa n).toArray⟩ : ByteArray).size = (Lib.itoa n).length := by simp [ByteArray.size]
  rw [e]
  rcases Nat.lt_or_ge 20 (Lib.itoa n).length with h | h
  · have := val_long (itoa_whole n) h
    rw [valZ_itoa] at this
    exact absurd ⟨h0, h1⟩ this
  · exact h
set_option maxRecDepth 100000 in
set_option maxHeartbeats 3200000 in
theorem law_numbers (n : Int) (b0 : -9223372036854775808 ≤ n) (b1 : n ≤ 9223372036854775807) (S : ByteArray) (lo hi : Int) (hlo0 : -9223372036854775808 ≤ lo) (hlo1 : lo ≤ 9223372036854775807) (hhi0 : -9223372036854775808 ≤ hi) (hhi1 : hi ≤ 9223372036854775807) (w : World) (hT : T1 w) :
    Calls Tryd.prog 8 #[.int .i64 n, .agg #[.string S, .int .i64 lo, .int .i64 hi]] w fun e w' => e = .returned (.bool true) ∧ Below w.heap.size w w' := by
  have hb0 := below_box0 w (.cells #[.string S, .int .i64 lo, .int .i64 hi] 47)
  have hbk0 := heap_alloc_new w (.cells #[.string S, .int .i64 lo, .int .i64 hi] 47)
  have HB0 := Lib.hid hb0
  have HK0 := Lib.hid hbk0
  have HT := Lib.hid hT
  clear hT hb0 hbk0
  by_cases hs : 20000 < S.size
  · have d1 : decide ((20000 : Int) < (S.size : Int)) = true := decide_eq_true (by omega)
    go_enter Tryd.func8, Tryd.ntmps8
    go_wp2_with fail
    refine (shown_ok _ (HT.out.below HB0.out)).mono ?_
    rintro e w1 ⟨rfl, c1⟩
    have HB := Lib.hid (HB0.out.trans (c1.mono HB0.out.size))
    clear c1
    go_wp2
    go_ret
    exact ⟨rfl, HB.out⟩
  · have d1 : decide ((20000 : Int) < (S.size : Int)) = false := decide_eq_false (by omega)
    have HSZ : Hid (S.size ≤ 20000) := Lib.hid (by omega)
    have HI := Lib.hid (itoa_int n b0 b1)
    have HZ := Lib.hid (itoa_sz n b0 b1)
    clear hs
    go_enter Tryd.func8, Tryd.ntmps8
    go_wp2_with fail
    refine (wint_ok S _ rfl (by have := HSZ.out; omega) lo hi hlo0 hhi1 _ (HT.out.below HB0.out).tw).mono ?_
    rintro e w1 ⟨rfl, c1⟩
    have HB1 := Lib.hid (HB0.out.trans (c1.mono HB0.out.size))
    have HK1 := Lib.hid ((c1.block _ (blk_lt HK0.out)).trans HK0.out)
    have k0 : w1.cell? ⟨w.heap.size, 0, none⟩ = some (.string S) := by rw [cell_of_block HK1.out]; rfl
    have k1 : w1.cell? ⟨w.heap.size, 1, none⟩ = some (.int .i64 lo) := by rw [cell_of_block HK1.out]; rfl
    have k2 : w1.cell? ⟨w.heap.size, 2, none⟩ = some (.int .i64 hi) := by rw [cell_of_block HK1.out]; rfl
    clear c1
    go_wp2_with fail
    refine (rint_ok S _ rfl (by have := HSZ.out; omega) lo hi hlo0 hhi1 _).mono ?_
    rintro e w2 ⟨rfl, c2⟩
    have HB2 := Lib.hid (HB1.out.trans (c2.mono HB1.out.size))
    clear c2 k0 k1 k2
    go_wp2_with fail
    refine (wdigits_ok n b0 b1 _ (HT.out.below HB2.out).tw).mono ?_
    rintro e w3 ⟨rfl, c3⟩
    have HB3 := Lib.hid (HB2.out.trans (c3.mono HB2.out.size))
    clear c3
    go_wp2_with fail
    refine (wint_ok ⟨(Lib.itoa n).toArray⟩ (Lib.itoa n) rfl (by have := HZ.out; omega) (-9223372036854775808) 9223372036854775807 (by omega) (by omega) _ (HT.out.below HB3.out).tw).mono ?_
    rintro e w4 ⟨rfl, c4⟩
    rw [HI.out.1, HI.out.2]
    have HB4 := Lib.hid (HB3.out.trans (c4.mono HB3.out.size))
    obtain ⟨V, hV⟩ : ∃ V, intV S.data.toList lo hi = V := ⟨_, rfl⟩
    obtain ⟨E, hE⟩ : ∃ E, intE S.data.toList lo hi = E := ⟨_, rfl⟩
    obtain ⟨D, hD⟩ : ∃ D : ByteArray, (⟨(Lib.itoa n).toArray⟩ : ByteArray) = D := ⟨_, rfl⟩
    have HW := Lib.hid (fun w' (h : Below w.heap.size w w') => wdigits_ok n b0 b1 w' (HT.out.below h).tw)
    have HR := Lib.hid (fun w' => rdig_ok n w' b0 b1)
    rw [hD] at HW HR
    rw [hV, hE, hD]
    clear hV hE hD c4
    go_wp2_with fail
    refine (HW.out _ HB4.out).mono ?_
    rintro e w5 ⟨rfl, c5⟩
    have HB5 := Lib.hid (HB4.out.trans (c5.mono HB4.out.size))
    clear c5
    go_wp2_with fail
    refine (HR.out _).mono ?_
    rintro e w6 ⟨rfl, c6⟩
    have HB6 := Lib.hid (HB5.out.trans (c6.mono HB5.out.size))
    clear c6
    go_wp2_with fail
    refine (shown_ok _ (HT.out.below HB6.out)).mono ?_
    rintro e w7 ⟨rfl, c7⟩
    have HB7 := Lib.hid (HB6.out.trans (c7.mono HB6.out.size))
    clear c7
    go_wp2
    go_ret
    exact ⟨rfl, HB7.out⟩
end Go.Proofs.YtkklmljannclmaaDoor

namespace Go.Proofs.YtkklmljannclmaaDoor.wordsNumbers
open Go.ChangeShapes Go.WideShapes Go.ChangeAt Go.RowKit

set_option maxRecDepth 100000 in
theorem contract (H : Type) (enc : TypeId × Value → H) (W : World) (base : Nat) (args : Array Value) (ds gs : List (DataW H)) (before : List MemPlace)
    (hval : ∀ (j : Nat) t v, Tryd.f8.params[j]? = some t → args[j]? = some v → Value.okWide Tryd.prog W .any base t v)
    (hW : DataW.Whole enc Tryd.prog Tryd.f8.params.toList Rows.wordsNumbersSpec.vars false W args.toList ds gs before) (hL : laidMetH Tryd.prog Rows.wordsNumbersRow.laid W) (hsh : W.ShapedOpen Tryd.prog) :
    Calls Tryd.prog 8 args W fun e W' => ∃ v, e = .returned v ∧ Rows.wordsNumbersSpec.post enc Tryd.prog Tryd.f8 false true false false W args v W' := by
  have hW' := hW
  obtain ⟨p, q, hA0, hV, rfl, hfz, hnd⟩ := hW
  have hA : DataW.TrodAll enc Tryd.prog W 0 (fun _ => true) true Tryd.f8.params.toList args.toList ds p := hA0
  rw [Tryd.params8] at hA hval
  obtain ⟨v0, vs0, d0, ds0, p0, q0, hargs, rfl, rfl, h0, r0⟩ := trodAll_cons hA
  obtain ⟨v1, vs1, d1, ds1, p1, q1, rfl, rfl, rfl, h1, r1⟩ := trodAll_cons r0
  obtain ⟨rfl, rfl, rfl⟩ := trodAll_nil r1
  obtain rfl : args = #[v0, v1] := by cases args; simp_all
  obtain ⟨rfl, rfl⟩ := trodVars_none hV
  obtain ⟨x0, rfl, rfl, rfl, w0⟩ := open_int Tryd.underlying2 (hval 0 2 v0 rfl rfl) h0
  have b0 := bounds_i64 w0
  obtain ⟨S1, lo1, hi1, rfl, bl1, bh1⟩ := open_ends (hval 1 47 v1 rfl rfl) h1
  refine (law_numbers x0 b0.1 b0.2 S1 lo1 hi1 bl1.1 bl1.2 bh1.1 bh1.2 W (t1_of hL hsh)).mono fun e W' ⟨he, hb⟩ => ?_
  exact ⟨_, he, law_post hW' rfl (by rw [Tryd.params8]; kernel_rfl) rfl rfl rfl rfl hb⟩

theorem laid_met (os : Os) : laidMet Tryd.prog Rows.wordsNumbersRow.laid ((laidWorld os).forCall (fun _ _ => 0) ⟨#[], #[.int .i64 0, .agg #[.string ⟨#[]⟩, .int .i64 0, .int .i64 0]], []⟩).memory :=
  laidMet_of_run' 8 (by kernel_rfl) (by kernel_rfl)
theorem reads (os : Os) {H : Type} (enc : TypeId × Value → H) : ∃ places, DataW.whole enc Tryd.prog ((laidWorld os).forCall (fun _ _ => 0) ⟨#[], #[.int .i64 0, .agg #[.string ⟨#[]⟩, .int .i64 0, .int .i64 0]], []⟩).memory Tryd.f8.params.toList Rows.wordsNumbersSpec.vars false #[Value.int .i64 0, Value.agg #[.string ⟨#[]⟩, .int .i64 0, .int .i64 0]].toList 8 = some ([.lit (.int .i64 0), .agg [.lit (.string []), .lit (.int .i64 0), .lit (.int .i64 0)]], [], places) :=
  ⟨[], by kernel_rfl⟩

set_option maxRecDepth 100000 in
theorem lifted (os : Os) (started : os.Started) (H : Type) (enc : TypeId × Value → H) (F : Stop.Interp) :
    ReturnsInHanded {} Tryd.checked os 8 .any ((OpenSpec.ofChange Rows.wordsNumbersSpec).preRow enc Tryd.prog Tryd.f8 Rows.wordsNumbersRow.domain false Rows.wordsNumbersRow.laid) (((OpenSpec.ofChange Rows.wordsNumbersSpec).at F).post enc Tryd.prog Tryd.f8 false true false false) := by
  obtain ⟨places, hx⟩ := reads os enc
  refine returnsInHanded_of_row (C := Tryd.checked) (s := OpenSpec.ofChange Rows.wordsNumbersSpec) own started (by kernel_rfl) Tryd.func8
    (witness_row_at (enc := enc) (C := Tryd.checked) false (laidWorld os) #[.int .i64 0, .agg #[.string ⟨#[]⟩, .int .i64 0, .int .i64 0]] rfl (by kernel_rfl) (by kernel_rfl) (by kernel_rfl)
      (OpenSpec.preRow_of_cond 8 hx (by kernel_rfl) (fun k hk => by cases hk) (by kernel_rfl) (laid_met os))) ?_
  intro W base args ds gs before hval hW _ _ _ hL hsh _
  exact contract H enc W base args ds gs before hval hW hL hsh

theorem said : Rows.WordsNumbersSaid :=
  OpenClaim.holds_of_cond 8 Tryd.f8 rfl rfl rfl rfl rfl rfl rfl ⟨rfl, rfl, rfl, rfl, rfl⟩ rfl rfl rfl rfl rfl (by kernel_rfl) Tryd.func8 (by kernel_rfl)
    (of_decide_eq_true (by kernel_rfl)) (by unfold Func.isWrapper; first | (rw [if_pos (by decide +kernel)]; kernel_rfl) | (rw [if_neg (by decide +kernel)]; exact ⟨rfl, rfl⟩))
    (fun os started H enc _ F => by rw [OpenClaim.pre_eq_preRow]; exact lifted os started H enc F)

theorem plain (f : FuncId) (fn : Func) (hf : Tryd.pinned.checked.prog.funcNamed "polder/polderlaw01.WordsNumbers" = some f) (hfn : Tryd.pinned.checked.prog.funcs[f]? = some fn) :
    true = Tryd.pinned.checked.prog.looks [] ∧ ∀ (j : Nat) t, fn.params[j]? = some t → Tryd.pinned.checked.prog.wantsStandIn t = false := by
  obtain rfl : f = 8 := Option.some.inj ((show Tryd.prog.funcNamed "polder/polderlaw01.WordsNumbers" = some 8 by kernel_rfl).symm.trans hf) |>.symm
  obtain rfl : fn = Tryd.f8 := (Option.some.inj (Tryd.func8.symm.trans hfn)).symm
  refine ⟨by kernel_rfl, fun j t ht => ?_⟩
  rw [Tryd.params8] at ht
  have hm : t ∈ [2, 47] := by simpa using Array.mem_of_getElem? ht
  have hall : ([2, 47].all fun u => !Tryd.prog.wantsStandIn u) = true := by kernel_rfl
  exact (show Tryd.prog.wantsStandIn t = false by simpa using List.all_eq_true.1 hall t hm)

/-- THE CARD. -/
theorem card : Rows.WordsNumbersCardSaid :=
  Claim7.holds_tied_plain_at .later [] _ _ _ _ said (fun _ h => by cases h) (by kernel_rfl) (fun _ h => by cases h) wordsNumbers_row_tie rfl ⟨rfl, rfl⟩ (by kernel_rfl) rfl plain (by kernel_rfl)
#print axioms card
end Go.Proofs.YtkklmljannclmaaDoor.wordsNumbers
