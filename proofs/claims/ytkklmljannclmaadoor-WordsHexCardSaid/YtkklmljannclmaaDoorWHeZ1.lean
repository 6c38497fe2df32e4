/- Words: the law of Hex and ParseHex. | WordsHex returns true for every input, on every schedule; its arguments read afterwards as they read before. No condition beyond the row's own. -/
import Derived.Test.YtkklmljannclmaaDoorWHZ1
import Derived.Test.YtkklmljannclmaaDoorWZ9
namespace Go.Proofs.YtkklmljannclmaaDoor
open Go.RowKit Go.Sort Go.Joins Go.Shelf
attribute [local go_sem] cell_grow frozen_grow size_grow

set_option maxRecDepth 100000 in
set_option maxHeartbeats 3200000 in
theorem law_hex (a : Option Addr) (c : Nat) (N : List UInt8) (s : ByteArray) (w : World) (hN : SlB w a N) (hT : T1 w) : Calls Tryd.prog 11 #[.slice a N.length c, .string s] w fun e w' => e = .returned (.bool true) ∧ Below w.heap.size w w' := by
  have HT := Lib.hid hT
  have HS := Lib.hid hN
  clear hT hN
  have hways : 300 < N.length ∨ (¬ 300 < N.length ∧ 600 < s.size) ∨ (¬ 300 < N.length ∧ ¬ 600 < s.size) := by omega
  rcases hways with k1 | ⟨k1, k2⟩ | ⟨k1, k2⟩
  · have d1 : decide ((300 : Int) < (N.length : Int)) = true := decide_eq_true (by omega)
    clear k1
    go_enter Tryd.func11, Tryd.ntmps11
    go_wp2_with fail
    refine (shown_ok _ (HT.out)).mono ?_
    rintro e w7 ⟨rfl, b7⟩
    have HB7 := Lib.hid b7
    clear b7
    go_wp2
    go_ret
    exact ⟨rfl, HB7.out⟩
  · have d1 : decide ((300 : Int) < (N.length : Int)) = false := decide_eq_false (by omega)
    have d2 : decide ((600 : Int) < (s.size : Int)) = true := decide_eq_true (by omega)
    clear k1 k2
    go_enter Tryd.func11, Tryd.ntmps11
    go_wp2_with fail
    refine (shown_ok _ (HT.out)).mono ?_
    rintro e w7 ⟨rfl, b7⟩
    have HB7 := Lib.hid b7
    clear b7
    go_wp2
    go_ret
    exact ⟨rfl, HB7.out⟩
  · have d1 : decide ((300 : Int) < (N.length : Int)) = false := decide_eq_false (by omega)
    have d2 : decide ((600 : Int) < (s.size : Int)) = false := decide_eq_false (by omega)
    have HSZ : Hid (N.length ≤ 300 ∧ s.size ≤ 600) := Lib.hid (by omega)
    obtain ⟨L, hL⟩ : ∃ L, s.data.toList = L := ⟨_, rfl⟩
    have HL := Lib.hid hL
    have hb := hx_back (N := N)
    have pb := px_back (L := L)
    have lx := hxL_len N
    have lp := pxL_len L
    clear k1 k2 hL
    go_enter Tryd.func11, Tryd.ntmps11
    go_wp2_with fail
    refine (whex_ok a c N _ HS.out (by have := HSZ.out; omega)).mono ?_
    rintro e w1 ⟨rfl, b1⟩
    have HB1 := Lib.hid b1
    have HS1 := Lib.hid (HS.out.below b1)
    clear b1
    go_wp2_with fail
    refine (rhex_ok a c N _ HS1.out (by have := HSZ.out; omega)).mono ?_
    rintro e w2 ⟨rfl, b2⟩
    have HB2 := Lib.hid (HB1.out.trans (b2.mono HB1.out.size))
    clear b2 HS1
    go_wp2_with fail
    refine (wphex_ok s L HL.out (by have := HSZ.out; omega) _).mono ?_
    rintro e w3 ⟨a3, c3, rfl, s3, b3⟩
    have HB3 := Lib.hid (HB2.out.trans (b3.mono HB2.out.size))
    have HS3 := Lib.hid s3
    clear b3 s3
    go_wp2_with fail
    refine (rphex_ok s L HL.out (by have := HSZ.out; omega) _).mono ?_
    rintro e w4 ⟨a4, c4, rfl, s4, b4⟩
    have HB4 := Lib.hid (HB3.out.trans (b4.mono HB3.out.size))
    have HS34 := Lib.hid (HS3.out.below b4)
    have HS0 := Lib.hid (HS.out.below HB4.out)
    have hv3 := conv_b HS34.out c3
    have hv4 := conv_b s4 c4
    obtain ⟨X, hX⟩ : ∃ X, hxL N = X := ⟨_, rfl⟩
    obtain ⟨M, hM⟩ : ∃ X, pxL L = X := ⟨_, rfl⟩
    obtain ⟨E, hE⟩ : ∃ X, hxE N = X := ⟨_, rfl⟩
    obtain ⟨G, hG⟩ : ∃ X, pxE L = X := ⟨_, rfl⟩
    rw [hM] at hv3 hv4 HS34
    rw [hX, hE] at hb
    rw [hM, hG] at pb
    rw [hX] at lx
    rw [hM] at lp
    rw [hX, hM, hE, hG]
    have HH := Lib.hid hb
    have HP := Lib.hid pb
    obtain ⟨B, hB⟩ : ∃ B : ByteArray, (⟨X.toArray⟩ : ByteArray) = B := ⟨_, rfl⟩
    obtain ⟨C, hC⟩ : ∃ C : ByteArray, (⟨M.toArray⟩ : ByteArray) = C := ⟨_, rfl⟩
    have HBX : Hid (B.data.toList = X ∧ B.size ≤ 200) := Lib.hid (by rw [← hB]; exact ⟨rfl, by simpa [ByteArray.size] using lx⟩)
    have HCM : Hid (C = ⟨M.toArray⟩) := Lib.hid hC.symm
    rw [hC] at hv3 hv4
    rw [hB]
    have HLP := Lib.hid lp
    clear b4 s4 hX hM hE hG hB hC hb pb HB1 HB2 HB3 HS3 lx lp
    rcases Classical.em (E = 0) with e0 | e0 <;> rcases Classical.em (G = 0) with g0 | g0
    · subst e0
      go_wp2_with fail
      clear hv3 hv4
      refine (wphex_ok B X HBX.out.1 (by have := HBX.out.2; omega) _).mono ?_
      rintro e w5 ⟨a5, c5, rfl, s5, b5⟩
      rw [(HH.out (by trivial)).1] at s5 ⊢
      rw [(HH.out (by trivial)).2]
      have hv5 := conv_b s5 c5
      have hv6 := conv_b (HS0.out.below b5) c
      have HS35 := Lib.hid (HS34.out.below b5)
      have HB5 := Lib.hid (HB4.out.trans (b5.mono HB4.out.size))
      clear b5 s5 HB4 HS34
      subst g0
      go_wp2_with fail
      refine (whex_ok a3 c3 M _ HS35.out (by have := HLP.out; omega)).mono ?_
      rintro e w6 ⟨rfl, b6⟩
      rw [(HP.out (by trivial)).1, (HP.out (by trivial)).2, ← ba_lit HL.out]
      have HB6 := Lib.hid (HB5.out.trans (b6.mono HB5.out.size))
      clear b6 HB5
      go_wp2_with fail
      refine (shown_ok _ (HT.out.below HB6.out)).mono ?_
      rintro e w7 ⟨rfl, b7⟩
      have HB7 := Lib.hid (HB6.out.trans (b7.mono HB6.out.size))
      clear b7
      go_wp2
      go_ret
      exact ⟨rfl, HB7.out⟩
    · subst e0
      go_wp2_with fail
      clear hv3 hv4
      refine (wphex_ok B X HBX.out.1 (by have := HBX.out.2; omega) _).mono ?_
      rintro e w5 ⟨a5, c5, rfl, s5, b5⟩
      rw [(HH.out (by trivial)).1] at s5 ⊢
      rw [(HH.out (by trivial)).2]
      have hv5 := conv_b s5 c5
      have hv6 := conv_b (HS0.out.below b5) c
      have HS35 := Lib.hid (HS34.out.below b5)
      have HB5 := Lib.hid (HB4.out.trans (b5.mono HB4.out.size))
      clear b5 s5 HB4 HS34
      have d6 : (G == 0) = false := by simpa using g0
      have HB6 := HB5
      clear g0 HB5
      go_wp2_with fail
      refine (shown_ok _ (HT.out.below HB6.out)).mono ?_
      rintro e w7 ⟨rfl, b7⟩
      have HB7 := Lib.hid (HB6.out.trans (b7.mono HB6.out.size))
      clear b7
      go_wp2
      go_ret
      exact ⟨rfl, HB7.out⟩
    · have d5 : (E == 0) = false := by simpa using e0
      have HB5 := HB4
      have HS35 := HS34
      clear e0 HB4 HS34
      subst g0
      go_wp2_with fail
      refine (whex_ok a3 c3 M _ HS35.out (by have := HLP.out; omega)).mono ?_
      rintro e w6 ⟨rfl, b6⟩
      rw [(HP.out (by trivial)).1, (HP.out (by trivial)).2, ← ba_lit HL.out]
      have HB6 := Lib.hid (HB5.out.trans (b6.mono HB5.out.size))
      clear b6 HB5
      go_wp2_with fail
      refine (shown_ok _ (HT.out.below HB6.out)).mono ?_
      rintro e w7 ⟨rfl, b7⟩
      have HB7 := Lib.hid (HB6.out.trans (b7.mono HB6.out.size))
      clear b7
      go_wp2
      go_ret
      exact ⟨rfl, HB7.out⟩
    · have d5 : (E == 0) = false := by simpa using e0
      have HB5 := HB4
      have HS35 := HS34
      clear e0 HB4 HS34
      have d6 : (G == 0) = false := by simpa using g0
      have HB6 := HB5
      clear g0 HB5
      go_wp2_with fail
      refine (shown_ok _ (HT.out.below HB6.out)).mono ?_
      rintro e w7 ⟨rfl, b7⟩
      have HB7 := Lib.hid (HB6.out.trans (b7.mono HB6.out.size))
      clear b7
      go_wp2
      go_ret
      exact ⟨rfl, HB7.out⟩
end Go.Proofs.YtkklmljannclmaaDoor

namespace Go.Proofs.YtkklmljannclmaaDoor.wordsHex
open Go.ChangeShapes Go.WideShapes Go.ChangeAt Go.RowKit

set_option maxRecDepth 100000 in
theorem contract (H : Type) (enc : TypeId × Value → H) (W : World) (base : Nat) (args : Array Value) (ds gs : List (DataW H)) (before : List MemPlace)
    (hval : ∀ (j : Nat) t v, Tryd.f11.params[j]? = some t → args[j]? = some v → Value.okWide Tryd.prog W .any base t v)
    (hW : DataW.Whole enc Tryd.prog Tryd.f11.params.toList Rows.wordsHexSpec.vars false W args.toList ds gs before) (hL : laidMetH Tryd.prog Rows.wordsHexRow.laid W) (hsh : W.ShapedOpen Tryd.prog) :
    Calls Tryd.prog 11 args W fun e W' => ∃ v, e = .returned v ∧ Rows.wordsHexSpec.post enc Tryd.prog Tryd.f11 false true false false W args v W' := by
  have hW' := hW
  obtain ⟨p, q, hA0, hV, rfl, hfz, hnd⟩ := hW
  have hA : DataW.TrodAll enc Tryd.prog W 0 (fun _ => true) true Tryd.f11.params.toList args.toList ds p := hA0
  rw [Tryd.params11] at hA hval
  obtain ⟨v0, vs0, d0, ds0, p0, q0, hargs, rfl, rfl, h0, r0⟩ := trodAll_cons hA
  obtain ⟨v1, vs1, d1, ds1, p1, q1, rfl, rfl, rfl, h1, r1⟩ := trodAll_cons r0
  obtain ⟨rfl, rfl, rfl⟩ := trodAll_nil r1
  obtain rfl : args = #[v0, v1] := by cases args; simp_all
  obtain ⟨rfl, rfl⟩ := trodVars_none hV
  obtain ⟨a0, n0, c0, U0, rfl, hU0, nU0, wU0⟩ := open_zs (k := .u8) Tryd.underlying55 Tryd.underlying5 (by kernel_rfl) (hval 0 55 v0 rfl rfl) h0
  obtain ⟨M0, rfl, hM0⟩ := SlB.of_z hU0 (fun j hj => by have := bounds_u8 (wU0 j hj); omega)
  obtain ⟨s1, rfl⟩ := okWide_string Tryd.underlying9 (hval 1 9 v1 rfl rfl)
  refine (law_hex a0 c0 M0 s1 W hM0 (t1_of hL hsh)).mono fun e W' ⟨he, hb⟩ => ?_
  exact ⟨_, he, law_post hW' rfl (by rw [Tryd.params11]; kernel_rfl) rfl rfl rfl rfl hb⟩

theorem laid_met (os : Os) : laidMet Tryd.prog Rows.wordsHexRow.laid ((laidWorld os).forCall (fun _ _ => 0) ⟨#[], #[.slice none 0 0, .string ⟨#[]⟩], []⟩).memory :=
  laidMet_of_run' 8 (by kernel_rfl) (by kernel_rfl)
theorem reads (os : Os) {H : Type} (enc : TypeId × Value → H) : ∃ places, DataW.whole enc Tryd.prog ((laidWorld os).forCall (fun _ _ => 0) ⟨#[], #[.slice none 0 0, .string ⟨#[]⟩], []⟩).memory Tryd.f11.params.toList Rows.wordsHexSpec.vars false #[Value.slice none 0 0, Value.string ⟨#[]⟩].toList 8 = some ([.nil, .lit (.string [])], [], places) :=
  ⟨[], by kernel_rfl⟩

set_option maxRecDepth 100000 in
theorem lifted (os : Os) (started : os.Started) (H : Type) (enc : TypeId × Value → H) (F : Stop.Interp) :
    ReturnsInHanded {} Tryd.checked os 11 .any ((OpenSpec.ofChange Rows.wordsHexSpec).preRow enc Tryd.prog Tryd.f11 Rows.wordsHexRow.domain false Rows.wordsHexRow.laid) (((OpenSpec.ofChange Rows.wordsHexSpec).at F).post enc Tryd.prog Tryd.f11 false true false false) := by
  obtain ⟨places, hx⟩ := reads os enc
  refine returnsInHanded_of_row (C := Tryd.checked) (s := OpenSpec.ofChange Rows.wordsHexSpec) own started (by kernel_rfl) Tryd.func11
    (witness_row_at (enc := enc) (C := Tryd.checked) false (laidWorld os) #[.slice none 0 0, .string ⟨#[]⟩] rfl (by kernel_rfl) (by kernel_rfl) (by kernel_rfl)
      (OpenSpec.preRow_of_cond 8 hx (by kernel_rfl) (fun k hk => by cases hk) (by kernel_rfl) (laid_met os))) ?_
  intro W base args ds gs before hval hW _ _ _ hL hsh _
  exact contract H enc W base args ds gs before hval hW hL hsh

theorem said : Rows.WordsHexSaid :=
  OpenClaim.holds_of_cond 11 Tryd.f11 rfl rfl rfl rfl rfl rfl rfl ⟨rfl, rfl, rfl, rfl, rfl⟩ rfl rfl rfl rfl rfl (by kernel_rfl) Tryd.func11 (by kernel_rfl)
    (of_decide_eq_true (by kernel_rfl)) (by unfold Func.isWrapper; first | (rw [if_pos (by decide +kernel)]; kernel_rfl) | (rw [if_neg (by decide +kernel)]; exact ⟨rfl, rfl⟩))
    (fun os started H enc _ F => by rw [OpenClaim.pre_eq_preRow]; exact lifted os started H enc F)

theorem plain (f : FuncId) (fn : Func) (hf : Tryd.pinned.checked.prog.funcNamed "polder/polderlaw01.WordsHex" = some f) (hfn : Tryd.pinned.checked.prog.funcs[f]? = some fn) :
    true = Tryd.pinned.checked.prog.looks [] ∧ ∀ (j : Nat) t, fn.params[j]? = some t → Tryd.pinned.checked.prog.wantsStandIn t = false := by
  obtain rfl : f = 11 := Option.some.inj ((show Tryd.prog.funcNamed "polder/polderlaw01.WordsHex" = some 11 by kernel_rfl).symm.trans hf) |>.symm
  obtain rfl : fn = Tryd.f11 := (Option.some.inj (Tryd.func11.symm.trans hfn)).symm
  refine ⟨by kernel_rfl, fun j t ht => ?_⟩
  rw [Tryd.params11] at ht
  have hm : t ∈ [55, 9] := by simpa using Array.mem_of_getElem? ht
  have hall : ([55, 9].all fun u => !Tryd.prog.wantsStandIn u) = true := by kernel_rfl
  exact (show Tryd.prog.wantsStandIn t = false by simpa using List.all_eq_true.1 hall t hm)

/-- THE CARD. -/
theorem card : Rows.WordsHexCardSaid :=
  Claim7.holds_tied_plain_at .later [] _ _ _ _ said (fun _ h => by cases h) (by kernel_rfl) (fun _ h => by cases h) wordsHex_row_tie rfl ⟨rfl, rfl⟩ (by kernel_rfl) rfl plain (by kernel_rfl)
#print axioms card
end Go.Proofs.YtkklmljannclmaaDoor.wordsHex
