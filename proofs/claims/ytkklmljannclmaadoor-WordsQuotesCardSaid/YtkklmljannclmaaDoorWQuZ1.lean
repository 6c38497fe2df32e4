/- Words: the law of Quote and Unquote. | WordsQuotes returns true for every input, on every schedule; its arguments read afterwards as they read before. No condition beyond the row's own. -/
import Derived.Test.YtkklmljannclmaaDoorWZ9
namespace Go.Proofs.YtkklmljannclmaaDoor
open Go.RowKit Go.Sort Go.Joins Go.Shelf
attribute [local go_sem] cell_grow frozen_grow size_grow

theorem dbl_one (c : UInt8) : dbl [c] = if c = 34 then [34, 34] else [c] := by
  by_cases h : c = 34
  · subst h; rw [dbl_q, dbl_nil, if_pos rfl]
  · rw [dbl_c _ h, dbl_nil, if_neg h]
set_option maxRecDepth 100000 in
set_option maxHeartbeats 1600000 in
theorem rquote_ok (s : ByteArray) (L : List UInt8) (hL : s.data.toList = L) (hs : s.size ≤ 4611686018427387904) (w : World) :
    Calls Tryd.prog 24 #[.string s] w fun e w' => ∃ S : ByteArray, e = .returned (.tuple #[.string S, .int .i64 (qtE L)]) ∧ S.data.toList = qtV L ∧ w = w' := by
  have hlen := len_of hL
  have HL := Lib.hid hL
  have HT := Lib.hid (rtext_ok s L hL (by omega))
  cases htx : txB L with
  | false =>
    have HX : Hid (qtE L = 2 ∧ qtV L = []) := Lib.hid (by unfold qtE qtV; rw [htx]; exact ⟨rfl, rfl⟩)
    rw [htx] at HT
    clear hL htx
    go_enter Tryd.func24, Tryd.ntmps24
    go_wp2_with fail
    refine (HT.out _).mono ?_
    rintro e w1 ⟨rfl, rfl⟩
    go_wp2
    go_ret2
    exact ⟨⟨#[]⟩, by rw [HX.out.1]; rfl, HX.out.2.symm, rfl⟩
  | true =>
    have HX : Hid (qtE L = 0 ∧ qtV L = 34 :: (dbl L ++ [34])) := Lib.hid (by unfold qtE qtV; rw [if_pos htx, if_pos htx]; exact ⟨rfl, rfl⟩)
    have h200 : s.size ≤ 200 := by have := (txB_yes.1 htx).2; omega
    rw [htx] at HT
    clear hL htx hs
    go_enter Tryd.func24, Tryd.ntmps24
    go_wp2_with fail
    refine (HT.out _).mono ?_
    rintro e w1 ⟨rfl, rfl⟩
    go_wp2
    go_loop [4, 5] (fun o i => ∃ (k : Nat) (O : ByteArray), i = .int .i64 (k : Int) ∧ o = .string O ∧ k ≤ s.size ∧ O.size ≤ 1 + 2 * k ∧ Hid (O.data.toList = 34 :: dbl (L.take k))) (fun _ i => s.size - (intOf i).toNat)
    case atStart => exact ⟨0, ⟨#[34]⟩, rfl, rfl, Nat.zero_le _, by decide, Lib.hid (by rw [List.take_zero, dbl_nil])⟩
    case round =>
      obtain ⟨k, O, rfl, rfl, hk, hO, HQ⟩ := hrel
      by_cases hlt : k < s.size
      · have hb := bt_get HL.out hlt
        have hx := take_ext HL.out (k := k) (by rw [len_of HL.out]; omega)
        have hz := (bt L k).toNat_lt
        have hk1 : k + 1 ≤ s.size := by omega
        have hsz : (s.extract k (k + 1)).size = 1 := by rw [ByteArray.size_extract]; omega
        have hC : (9223372036854775807 < O.size + 1) = False := by simp; omega
        have hC2 : (9223372036854775807 < O.size + 1 + 1) = False := by simp; omega
        have HXX := Lib.hid (app_list O (s.extract k (k + 1)))
        rw [hx] at HXX
        have HTK : Hid (L.take (k + 1) = L.take k ++ [bt L k]) := Lib.hid (take_snoc (bt_at (by rw [len_of HL.out]; exact hlt)))
        by_cases h1 : (bt L k).toNat = 34
        · rw [h1] at hb
          rw [u8_of h1 (by decide)] at HTK HXX
          have d1 : (((34 : Nat) : Int) == 34) = true := rfl
          clear hx h1 hz
          go_wp2
          go_round
          case rel => exact ⟨k + 1, O ++ s.extract k (k + 1) ++ ⟨#[34]⟩, by go_num, rfl, hk1, by simp only [ByteArray.size_append, hsz]; have : (⟨#[34]⟩ : ByteArray).size = 1 := rfl; omega, Lib.hid (by
            have e34 : (UInt8.ofNat 34) = 34 := rfl
            rw [app_list, HXX.out, HTK.out, dbl_append, HQ.out, e34, show dbl [34] = [34, 34] by rw [dbl_q, dbl_nil]]; simp)⟩
          case measure => simp [intOf]; omega
        · have d1 : (((bt L k).toNat : Int) == 34) = false := beq_eq_false_iff_ne.2 (by omega)
          have hne : bt L k ≠ 34 := fun e => h1 (by rw [e]; rfl)
          have HNE : Hid (dbl [bt L k] = [bt L k]) := Lib.hid (by rw [dbl_one, if_neg hne])
          obtain ⟨c, hc⟩ : ∃ c, (bt L k).toNat = c := ⟨_, rfl⟩
          rw [hc] at hb d1 hz
          clear hx h1 hne hc
          go_wp2
          go_round
          case rel => exact ⟨k + 1, O ++ s.extract k (k + 1), by go_num, rfl, hk1, by simp only [ByteArray.size_append, hsz]; omega, Lib.hid (by rw [HXX.out, HTK.out, dbl_append, HQ.out, HNE.out]; simp)⟩
          case measure => simp [intOf]; omega
      · obtain rfl : k = s.size := by omega
        have hC : (9223372036854775807 < O.size + 1) = False := by simp; omega
        have HF : Hid ((O ++ ⟨#[34]⟩).data.toList = 34 :: (dbl L ++ [34])) := Lib.hid (by
          have h := HQ.out
          rw [List.take_of_length_le (by rw [len_of HL.out]; exact Nat.le_refl _)] at h
          rw [app_list, h]; rfl)
        go_wp2
        go_ret2
        exact ⟨O ++ ⟨#[34]⟩, by rw [HX.out.1]; rfl, by rw [HX.out.2]; exact HF.out, rfl⟩
theorem qt_ways (L : List UInt8) : (qtE L = 0 ∧ unqE (qtV L) = 0 ∧ unqR (qtV L) = L ∧ (qtV L).length ≤ 402) ∨ qtE L = 2 := by
  unfold qtE qtV
  by_cases h : txB L = true
  · left
    rw [if_pos h, if_pos h]
    have h2 := unq_0 (unq_qt h)
    refine ⟨rfl, h2.1, h2.2, ?_⟩
    have h3 := (dbl_len L).2
    have h4 := (txB_yes.1 h).2
    unfold qtL
    simp only [List.length_cons, List.length_append, List.length_nil]
    omega
  · right; rw [if_neg h]
theorem unq_ways (L : List UInt8) : (unqE L = 0 ∧ qtE (unqR L) = 0 ∧ qtV (unqR L) = L ∧ (unqR L).length ≤ 200) ∨ unqE L = 6 := by
  cases h : unq L with
  | none => exact .inr (unq_6 h).1
  | some u =>
    left
    obtain ⟨h1, h2⟩ := unq_0 h
    obtain ⟨h3, h4⟩ := unq_some h
    rw [h1, h2]
    unfold qtE qtV
    rw [if_pos h3, if_pos h3]
    exact ⟨rfl, rfl, h4, (txB_yes.1 h3).2⟩
set_option maxRecDepth 100000 in
set_option maxHeartbeats 3200000 in
theorem law_quotes (s : ByteArray) (w : World) (hT : T1 w) : Calls Tryd.prog 7 #[.string s] w fun e w' => e = .returned (.bool true) ∧ Below w.heap.size w w' := by
  have HT := Lib.hid hT
  clear hT
  by_cases hs : 20000 < s.size
  · have d1 : decide ((20000 : Int) < (s.size : Int)) = true := decide_eq_true (by omega)
    go_enter Tryd.func7, Tryd.ntmps7
    go_wp2_with fail
    refine (shown_ok _ HT.out).mono ?_
    rintro e w1 ⟨rfl, b1⟩
    have HB := Lib.hid b1
    clear b1
    go_wp2
    go_ret
    exact ⟨rfl, HB.out⟩
  · have d1 : decide ((20000 : Int) < (s.size : Int)) = false := decide_eq_false (by omega)
    have HSZ : Hid (s.size ≤ 20000) := Lib.hid (by omega)
    have hq := qt_ways s.data.toList
    have hu := unq_ways s.data.toList
    clear hs
    go_enter Tryd.func7, Tryd.ntmps7
    go_wp2_with fail
    refine (wquote_ok s _ rfl (by have := HSZ.out; omega) _ HT.out.ml).mono ?_
    rintro e w1 ⟨S1, rfl, h1, b1⟩
    have HB1 := Lib.hid b1
    clear b1
    go_wp2_with fail
    refine (rquote_ok s _ rfl (by have := HSZ.out; omega) _).mono ?_
    rintro e w2 ⟨S2, rfl, h2, rfl⟩
    obtain rfl : S1 = S2 := by rw [ba_lit h1, ba_lit h2]
    go_wp2_with fail
    refine (wunq_ok s _ rfl (by have := HSZ.out; omega) _ (HT.out.below HB1.out).ml).mono ?_
    rintro e w3 ⟨S3, rfl, h3, b3⟩
    have HB3 := Lib.hid (HB1.out.trans (b3.mono HB1.out.size))
    clear b3 h2
    go_wp2_with fail
    refine (runq_ok s _ rfl (by have := HSZ.out; omega) _).mono ?_
    rintro e w4 ⟨S4, rfl, h4, rfl⟩
    obtain rfl : S3 = S4 := by rw [ba_lit h3, ba_lit h4]
    obtain ⟨L, hL⟩ : ∃ L, s.data.toList = L := ⟨_, rfl⟩
    rw [hL] at hq hu h1 h3 ⊢
    have HL := Lib.hid hL
    have H1 := Lib.hid h1
    have H3 := Lib.hid h3
    obtain ⟨E, hE⟩ : ∃ E, qtE L = E := ⟨_, rfl⟩
    obtain ⟨G, hG⟩ : ∃ G, unqE L = G := ⟨_, rfl⟩
    rw [hE] at hq
    rw [hG] at hu
    rw [hE, hG]
    clear hL h1 h3 h4 hE hG HB1
    rcases hq with ⟨rfl, q1, q2, q3⟩ | rfl <;> rcases hu with ⟨rfl, u1, u2, u3⟩ | rfl
    · go_wp2_with fail
      refine (wunq_ok S1 _ H1.out (by have h := len_of H1.out; omega) _ (HT.out.below HB3.out).ml).mono ?_
      rintro e w5 ⟨S5, rfl, h5, b5⟩
      rw [q1]
      obtain rfl : s = S5 := by rw [ba_lit HL.out, ba_lit (h5.trans q2)]
      have HB3 := Lib.hid (HB3.out.trans (b5.mono HB3.out.size))
      clear b5 h5 q1 q2 q3
      go_wp2_with fail
      refine (wquote_ok S3 _ H3.out (by have h := len_of H3.out; omega) _ (HT.out.below HB3.out).ml).mono ?_
      rintro e w6 ⟨S6, rfl, h6, b6⟩
      rw [u1]
      obtain rfl : s = S6 := by rw [ba_lit HL.out, ba_lit (h6.trans u2)]
      have HB3 := Lib.hid (HB3.out.trans (b6.mono HB3.out.size))
      clear b6 h6 u1 u2 u3
      go_wp2_with fail
      refine (shown_ok _ (HT.out.below HB3.out)).mono ?_
      rintro e w7 ⟨rfl, b7⟩
      have HB7 := Lib.hid (HB3.out.trans (b7.mono HB3.out.size))
      clear b7
      go_wp2
      go_ret
      exact ⟨rfl, HB7.out⟩
    · go_wp2_with fail
      refine (wunq_ok S1 _ H1.out (by have h := len_of H1.out; omega) _ (HT.out.below HB3.out).ml).mono ?_
      rintro e w5 ⟨S5, rfl, h5, b5⟩
      rw [q1]
      obtain rfl : s = S5 := by rw [ba_lit HL.out, ba_lit (h5.trans q2)]
      have HB3 := Lib.hid (HB3.out.trans (b5.mono HB3.out.size))
      clear b5 h5 q1 q2 q3
      go_wp2_with fail
      refine (shown_ok _ (HT.out.below HB3.out)).mono ?_
      rintro e w7 ⟨rfl, b7⟩
      have HB7 := Lib.hid (HB3.out.trans (b7.mono HB3.out.size))
      clear b7
      go_wp2
      go_ret
      exact ⟨rfl, HB7.out⟩
    · go_wp2_with fail
      refine (wquote_ok S3 _ H3.out (by have h := len_of H3.out; omega) _ (HT.out.below HB3.out).ml).mono ?_
      rintro e w6 ⟨S6, rfl, h6, b6⟩
      rw [u1]
      obtain rfl : s = S6 := by rw [ba_lit HL.out, ba_lit (h6.trans u2)]
      have HB3 := Lib.hid (HB3.out.trans (b6.mono HB3.out.size))
      clear b6 h6 u1 u2 u3
      go_wp2_with fail
      refine (shown_ok _ (HT.out.below HB3.out)).mono ?_
      rintro e w7 ⟨rfl, b7⟩
      have HB7 := Lib.hid (HB3.out.trans (b7.mono HB3.out.size))
      clear b7
      go_wp2
      go_ret
      exact ⟨rfl, HB7.out⟩
    · go_wp2_with fail
      refine (shown_ok _ (HT.out.below HB3.out)).mono ?_
      rintro e w7 ⟨rfl, b7⟩
      have HB7 := Lib.hid (HB3.out.trans (b7.mono HB3.out.size))
      clear b7
      go_wp2
      go_ret
      exact ⟨rfl, HB7.out⟩
end Go.Proofs.YtkklmljannclmaaDoor

namespace Go.Proofs.YtkklmljannclmaaDoor.wordsQuotes
open Go.ChangeShapes Go.WideShapes Go.ChangeAt Go.RowKit

set_option maxRecDepth 100000 in
theorem contract (H : Type) (enc : TypeId × Value → H) (W : World) (base : Nat) (args : Array Value) (ds gs : List (DataW H)) (before : List MemPlace)
    (hval : ∀ (j : Nat) t v, Tryd.f7.params[j]? = some t → args[j]? = some v → Value.okWide Tryd.prog W .any base t v)
    (hW : DataW.Whole enc Tryd.prog Tryd.f7.params.toList Rows.wordsQuotesSpec.vars false W args.toList ds gs before) (hL : laidMetH Tryd.prog Rows.wordsQuotesRow.laid W) (hsh : W.ShapedOpen Tryd.prog) :
    Calls Tryd.prog 7 args W fun e W' => ∃ v, e = .returned v ∧ Rows.wordsQuotesSpec.post enc Tryd.prog Tryd.f7 false true false false W args v W' := by
  have hW' := hW
  obtain ⟨p, q, hA0, hV, rfl, hfz, hnd⟩ := hW
  have hA : DataW.TrodAll enc Tryd.prog W 0 (fun _ => true) true Tryd.f7.params.toList args.toList ds p := hA0
  rw [Tryd.params7] at hA hval
  obtain ⟨v0, vs0, d0, ds0, p0, q0, hargs, rfl, rfl, h0, r0⟩ := trodAll_cons hA
  obtain ⟨rfl, rfl, rfl⟩ := trodAll_nil r0
  obtain rfl : args = #[v0] := by cases args; simp_all
  obtain ⟨rfl, rfl⟩ := trodVars_none hV
  obtain ⟨s0, rfl⟩ := okWide_string Tryd.underlying9 (hval 0 9 v0 rfl rfl)
  refine (law_quotes s0 W (t1_of hL hsh)).mono fun e W' ⟨he, hb⟩ => ?_
  exact ⟨_, he, law_post hW' rfl (by rw [Tryd.params7]; kernel_rfl) rfl rfl rfl rfl hb⟩

theorem laid_met (os : Os) : laidMet Tryd.prog Rows.wordsQuotesRow.laid ((laidWorld os).forCall (fun _ _ => 0) ⟨#[], #[.string ⟨#[]⟩], []⟩).memory :=
  laidMet_of_run' 8 (by kernel_rfl) (by kernel_rfl)
theorem reads (os : Os) {H : Type} (enc : TypeId × Value → H) : ∃ places, DataW.whole enc Tryd.prog ((laidWorld os).forCall (fun _ _ => 0) ⟨#[], #[.string ⟨#[]⟩], []⟩).memory Tryd.f7.params.toList Rows.wordsQuotesSpec.vars false #[Value.string ⟨#[]⟩].toList 8 = some ([.lit (.string [])], [], places) :=
  ⟨[], by kernel_rfl⟩

set_option maxRecDepth 100000 in
theorem lifted (os : Os) (started : os.Started) (H : Type) (enc : TypeId × Value → H) (F : Stop.Interp) :
    ReturnsInHanded {} Tryd.checked os 7 .any ((OpenSpec.ofChange Rows.wordsQuotesSpec).preRow enc Tryd.prog Tryd.f7 Rows.wordsQuotesRow.domain false Rows.wordsQuotesRow.laid) (((OpenSpec.ofChange Rows.wordsQuotesSpec).at F).post enc Tryd.prog Tryd.f7 false true false false) := by
  obtain ⟨places, hx⟩ := reads os enc
  refine returnsInHanded_of_row (C := Tryd.checked) (s := OpenSpec.ofChange Rows.wordsQuotesSpec) own started (by kernel_rfl) Tryd.func7
    (witness_row_at (enc := enc) (C := Tryd.checked) false (laidWorld os) #[.string ⟨#[]⟩] rfl (by kernel_rfl) (by kernel_rfl) (by kernel_rfl)
      (OpenSpec.preRow_of_cond 8 hx (by kernel_rfl) (fun k hk => by cases hk) (by kernel_rfl) (laid_met os))) ?_
  intro W base args ds gs before hval hW _ _ _ hL hsh _
  exact contract H enc W base args ds gs before hval hW hL hsh

theorem said : Rows.WordsQuotesSaid :=
  OpenClaim.holds_of_cond 7 Tryd.f7 rfl rfl rfl rfl rfl rfl rfl ⟨rfl, rfl, rfl, rfl, rfl⟩ rfl rfl rfl rfl rfl (by kernel_rfl) Tryd.func7 (by kernel_rfl)
    (of_decide_eq_true (by kernel_rfl)) (by unfold Func.isWrapper; first | (rw [if_pos (by decide +kernel)]; kernel_rfl) | (rw [if_neg (by decide +kernel)]; exact ⟨rfl, rfl⟩))
    (fun os started H enc _ F => by rw [OpenClaim.pre_eq_preRow]; exact lifted os started H enc F)

theorem plain (f : FuncId) (fn : Func) (hf : Tryd.pinned.checked.prog.funcNamed "polder/polderlaw01.WordsQuotes" = some f) (hfn : Tryd.pinned.checked.prog.funcs[f]? = some fn) :
    true = Tryd.pinned.checked.prog.looks [] ∧ ∀ (j : Nat) t, fn.params[j]? = some t → Tryd.pinned.checked.prog.wantsStandIn t = false := by
  obtain rfl : f = 7 := Option.some.inj ((show Tryd.prog.funcNamed "polder/polderlaw01.WordsQuotes" = some 7 by kernel_rfl).symm.trans hf) |>.symm
  obtain rfl : fn = Tryd.f7 := (Option.some.inj (Tryd.func7.symm.trans hfn)).symm
  refine ⟨by kernel_rfl, fun j t ht => ?_⟩
  rw [Tryd.params7] at ht
  have hm : t ∈ [9] := by simpa using Array.mem_of_getElem? ht
  have hall : ([9].all fun u => !Tryd.prog.wantsStandIn u) = true := by kernel_rfl
  exact (show Tryd.prog.wantsStandIn t = false by simpa using List.all_eq_true.1 hall t hm)

/-- THE CARD. -/
theorem card : Rows.WordsQuotesCardSaid :=
  Claim7.holds_tied_plain_at .later [] _ _ _ _ said (fun _ h => by cases h) (by kernel_rfl) (fun _ h => by cases h) wordsQuotes_row_tie rfl ⟨rfl, rfl⟩ (by kernel_rfl) rfl plain (by kernel_rfl)
#print axioms card
end Go.Proofs.YtkklmljannclmaaDoor.wordsQuotes
