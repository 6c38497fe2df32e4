/- BitsKnown returns true for every input, on every schedule; its arguments read afterwards as they read before. No condition beyond the row's own. -/
import Derived.Test.YtikdgnfcckenmaaDoorBAwake
import Derived.Test.YtikdgnfcckenmaaDoorBitsO
import Derived.Test.YtikdgnfcckenmaaDoorBitsW
import Derived.Test.YtikdgnfcckenmaaDoorBitsZl
import Derived.Test.YtikdgnfcckenmaaDoorRefS
import Derived.Test.YtikdgnfcckenmaaDoorFrame
namespace Go.Proofs.YtikdgnfcckenmaaDoor
open Go.RowKit Go.Sort Go.Joins
attribute [local go_sem] cell_grow frozen_grow size_grow

section
variable {a : Option Addr} {w : World}
theorem ksel (hT : Tab w) (hs : SlK .u64 w a 1 [531]) : Calls Tryd.prog 27 #[.agg #[.int .i64 10, .slice a 1 1], .int .i64 2, .bool true] w fun e w' => e = .returned (.tuple #[.int .i64 4, .int .i64 0]) ∧ Below w.heap.size w w' :=
  (bSelect_all 10 2 true a 1 1 [531] w hT hs ten_w (by decide) (by decide)).mono fun _ _ h => ⟨h.1.trans (ret_two (by decide +kernel) (by decide +kernel)), h.2⟩
theorem knext (hT : Tab w) (hs : SlK .u64 w a 1 [531]) : Calls Tryd.prog 23 #[.agg #[.int .i64 10, .slice a 1 1], .int .i64 2, .bool true] w fun e w' => e = .returned (.tuple #[.int .i64 4, .int .i64 0]) ∧ Below w.heap.size w w' :=
  (bNext_ok 10 2 true a 1 1 [531] w hT hs ten_w (by decide)).mono fun _ _ h => ⟨h.1.trans (ret_two (by decide +kernel) (by decide +kernel)), h.2⟩
theorem knext2 (hT : Tab w) (hs : SlK .u64 w a 1 [531]) : Calls Tryd.prog 23 #[.agg #[.int .i64 10, .slice a 1 1], .int .i64 10, .bool true] w fun e w' => e = .returned (.tuple #[.int .i64 (nextV 10 [531] 10 true), .int .i64 4]) ∧ Below w.heap.size w w' :=
  (bNext_ok 10 10 true a 1 1 [531] w hT hs ten_w (by decide)).mono fun _ _ h => ⟨h.1.trans (ret_two rfl (by decide +kernel)), h.2⟩
theorem klast (hs : SlK .u64 w a 1 [531]) : Calls Tryd.prog 30 #[.agg #[.int .i64 10, .slice a 1 1], .int .i64 4, .bool true] w fun e w' => e = .returned (.tuple #[.int .i64 1, .int .i64 0]) ∧ Below w.heap.size w w' :=
  (bLast_ok 10 4 true a 1 1 [531] w hs ten_w (by decide)).mono fun _ _ h => ⟨h.1.trans (ret_two (by decide +kernel) (by decide +kernel)), h.2⟩
theorem kruns (hT : Tab w) (hs : SlK .u64 w a 1 [531]) : Calls Tryd.prog 24 #[.agg #[.int .i64 10, .slice a 1 1], .bool false] w fun e w' => ∃ v, e = .returned (.tuple #[v, .int .i64 0]) ∧ RunsR w' v [(2, 4), (5, 9)] ∧ Below w.heap.size w w' :=
  (bRuns_ok 10 false a 1 1 [531] w hT hT.lt hs ten_w (by decide)).mono fun _ _ ⟨v, h1, h2, h3⟩ => ⟨v, h1.trans (by rw [show chk 10 [531] = 0 by decide +kernel]), by rw [show runsV 10 [531] false = [(2, 4), (5, 9)] by decide +kernel] at h2; exact h2, h3⟩
theorem kfit1 (hT : Tab w) (hs : SlK .u64 w a 1 [531]) : Calls Tryd.prog 15 #[.agg #[.int .i64 10, .slice a 1 1], .int .i64 2, .int .i64 0] w fun e w' => e = .returned (.tuple #[.int .i64 2, .int .i64 0]) ∧ Below w.heap.size w w' :=
  (bFit_all 10 2 0 a 1 1 [531] w hT hs ten_w (by decide) (by decide)).mono fun _ _ h => ⟨h.1.trans (ret_two (by decide +kernel) (by decide +kernel)), h.2⟩
theorem kfit2 (hT : Tab w) (hs : SlK .u64 w a 1 [531]) : Calls Tryd.prog 15 #[.agg #[.int .i64 10, .slice a 1 1], .int .i64 2, .int .i64 3] w fun e w' => e = .returned (.tuple #[.int .i64 5, .int .i64 0]) ∧ Below w.heap.size w w' :=
  (bFit_all 10 2 3 a 1 1 [531] w hT hs ten_w (by decide) (by decide)).mono fun _ _ h => ⟨h.1.trans (ret_two (by decide +kernel) (by decide +kernel)), h.2⟩
theorem kfit3 (hT : Tab w) (hs : SlK .u64 w a 1 [531]) : Calls Tryd.prog 15 #[.agg #[.int .i64 10, .slice a 1 1], .int .i64 5, .int .i64 0] w fun e w' => e = .returned (.tuple #[.int .i64 0, .int .i64 4]) ∧ Below w.heap.size w w' :=
  (bFit_all 10 5 0 a 1 1 [531] w hT hs ten_w (by decide) (by decide)).mono fun _ _ h => ⟨h.1.trans (ret_two (by decide +kernel) (by decide +kernel)), h.2⟩
theorem kblock (hT : Tab w) (hs : SlK .u64 w a 1 [531]) : Calls Tryd.prog 19 #[.agg #[.int .i64 10, .slice a 1 1], .int .i64 1] w fun e w' => e = .returned (.tuple #[.int .i64 2, .int .i64 0]) ∧ Below w.heap.size w w' :=
  (bBlock_all 10 1 a 1 1 [531] w hT hs ten_w (by decide)).mono fun _ _ h => ⟨h.1.trans (ret_two (by decide +kernel) (by decide +kernel)), h.2⟩
theorem kless {b : Option Addr} (hs : SlK .u64 w a 1 [531]) (ht : SlK .u64 w b 1 [31]) : Calls Tryd.prog 45 #[.agg #[.int .i64 10, .slice a 1 1], .agg #[.int .i64 10, .slice b 1 1]] w fun e w' => ∃ c cc, e = .returned (.tuple #[.agg #[.int .i64 10, .slice c 1 cc], .int .i64 0]) ∧ SlK .u64 w' c 1 [512] ∧ Below w.heap.size w w' :=
  (bLess_ok 10 a 1 1 [531] 10 b 1 1 [31] w hs ht ten_w (by decide) (by decide) (by decide)).mono fun _ _ ⟨v, h1, ⟨c, cc, hv, h2⟩, h3⟩ => by
    rw [show joinN 10 [531] 10 [31] = 10 by decide +kernel, show joinW (fun x y => x && !y) 10 [531] 10 [31] = [512] by decide +kernel] at hv
    rw [show joinW (fun x y => x && !y) 10 [531] 10 [31] = [512] by decide +kernel] at h2
    rw [hv, show bothE 10 [531] 10 [31] = 0 by decide +kernel] at h1
    exact ⟨c, cc, h1, h2, h3⟩
theorem SlK.lit1 (w : World) (x : Nat) (T : TypeId) : SlK .u64 (w.alloc (.cells #[.int .u64 x] T)) (some ⟨w.heap.size, 0, none⟩) 1 [x] :=
  ⟨rfl, .inr ⟨_, _, rfl, fun j hj => by obtain rfl : j = 0 := by omega
                                        simp [go_sem]⟩⟩
theorem SlK.lit1' (w : World) (O : Obj) (x : Nat) (T : TypeId) : SlK .u64 ((w.alloc O).alloc (.cells #[.int .u64 x] T)) (some ⟨w.heap.size + 1, 0, none⟩) 1 [x] :=
  ⟨rfl, .inr ⟨_, _, rfl, fun j hj => by obtain rfl : j = 0 := by omega
                                        simp [go_sem]⟩⟩
theorem RunsR.lit2 (w : World) (a b c d : Nat) (T : TypeId) : RunsR (w.alloc (.cells #[.int .i64 a, .int .i64 b, .int .i64 c, .int .i64 d] T)) (.slice (some ⟨w.heap.size, 0, none⟩) 2 2) [(a, b), (c, d)] :=
  ⟨_, _, rfl, rfl, .inr ⟨_, _, rfl, fun j hj => by
    have hj2 : j < 2 := hj
    rcases (by omega : j = 0 ∨ j = 1) with rfl | rfl
    · simp [go_sem]
    · simp [go_sem]⟩⟩
end

set_option maxRecDepth 100000 in
set_option maxHeartbeats 3200000 in
theorem law_known (w : World) (hT : Tab w) :
    Calls Tryd.prog 12 #[] w fun e w' => e = .returned (.bool true) ∧ Below w.heap.size w w' := by
  have HT := Lib.hid hT
  clear hT
  have HB0 := Lib.hid (Below.refl w.heap.size w)
  go_enter Tryd.func12, Tryd.ntmps12
  go_wp2_with (go_at_call 49; refine (ten_ok _).mono ?_; rintro e w1 ⟨a1, rfl, s1, l1, b1⟩)
  refine (ksel ((HT.out.below HB0.out).below b1) s1).mono ?_
  rintro e v1 ⟨rfl, b2⟩
  have HB1 := Lib.hid (HB0.out.trans ((b1.trans (b2.mono b1.size)).mono HB0.out.size))
  clear b1 b2 s1 l1
  go_wp2_with (go_at_call 49; refine (ten_ok _).mono ?_; rintro e w1 ⟨a1, rfl, s1, l1, b1⟩)
  refine (knext ((HT.out.below HB1.out).below b1) s1).mono ?_
  rintro e v2 ⟨rfl, b2⟩
  have HB2 := Lib.hid (HB1.out.trans ((b1.trans (b2.mono b1.size)).mono HB1.out.size))
  clear b1 b2 s1 l1
  go_wp2_with (go_at_call 49; refine (ten_ok _).mono ?_; rintro e w1 ⟨a1, rfl, s1, l1, b1⟩)
  refine (klast s1).mono ?_
  rintro e v3 ⟨rfl, b2⟩
  have HB3 := Lib.hid (HB2.out.trans ((b1.trans (b2.mono b1.size)).mono HB2.out.size))
  clear b1 b2 s1 l1
  go_wp2_with (go_at_call 49; refine (ten_ok _).mono ?_; rintro e w1 ⟨a1, rfl, s1, l1, b1⟩)
  refine (knext2 ((HT.out.below HB3.out).below b1) s1).mono ?_
  rintro e v4 ⟨rfl, b2⟩
  have HB4 := Lib.hid (HB3.out.trans ((b1.trans (b2.mono b1.size)).mono HB3.out.size))
  clear b1 b2 s1 l1
  go_wp2_with (go_at_call 49; refine (ten_ok _).mono ?_; rintro e w1 ⟨a1, rfl, s1, l1, b1⟩)
  refine (kruns ((HT.out.below HB4.out).below b1) s1).mono ?_
  rintro e v5 ⟨u, rfl, q1, b2⟩
  obtain ⟨ua, uc, rfl, qq⟩ := q1
  have Q5 := Lib.hid qq
  have HB5 := Lib.hid (HB4.out.trans ((b1.trans (b2.mono b1.size)).mono HB4.out.size))
  clear b1 b2 s1 l1 qq
  go_wp2_with fail
  refine (rSameRuns_ok _ ⟨ua, uc, rfl, Q5.out.below ((Below.refl _ _).alloc (Nat.le_refl _) _)⟩ (RunsR.lit2 v5 2 4 5 9 _) (by decide)).mono ?_
  rintro e v6 ⟨rfl, b2⟩
  have HB6 := Lib.hid (HB5.out.trans ((((Below.refl _ _).alloc (Nat.le_refl _) _).trans (b2.mono (by simp))).mono HB5.out.size))
  clear b2
  go_wp2_with (go_at_call 49; refine (ten_ok _).mono ?_; rintro e w1 ⟨a1, rfl, s1, l1, b1⟩)
  refine (kfit1 ((HT.out.below HB6.out).below b1) s1).mono ?_
  rintro e v7 ⟨rfl, b2⟩
  have HB7 := Lib.hid (HB6.out.trans ((b1.trans (b2.mono b1.size)).mono HB6.out.size))
  clear b1 b2 s1 l1
  go_wp2_with (go_at_call 49; refine (ten_ok _).mono ?_; rintro e w1 ⟨a1, rfl, s1, l1, b1⟩)
  refine (kfit2 ((HT.out.below HB7.out).below b1) s1).mono ?_
  rintro e v8 ⟨rfl, b2⟩
  have HB8 := Lib.hid (HB7.out.trans ((b1.trans (b2.mono b1.size)).mono HB7.out.size))
  clear b1 b2 s1 l1
  go_wp2_with (go_at_call 49; refine (ten_ok _).mono ?_; rintro e w1 ⟨a1, rfl, s1, l1, b1⟩)
  refine (kfit3 ((HT.out.below HB8.out).below b1) s1).mono ?_
  rintro e v9 ⟨rfl, b2⟩
  have HB9 := Lib.hid (HB8.out.trans ((b1.trans (b2.mono b1.size)).mono HB8.out.size))
  clear b1 b2 s1 l1
  go_wp2_with (go_at_call 49; refine (ten_ok _).mono ?_; rintro e w1 ⟨a1, rfl, s1, l1, b1⟩)
  refine (kblock ((HT.out.below HB9.out).below b1) s1).mono ?_
  rintro e v10 ⟨rfl, b2⟩
  have HB10 := Lib.hid (HB9.out.trans ((b1.trans (b2.mono b1.size)).mono HB9.out.size))
  clear b1 b2 s1 l1
  go_wp2_with (go_at_call 49; refine (ten_ok _).mono ?_; rintro e w1 ⟨a1, rfl, s1, l1, b1⟩)
  refine (kless (s1.alloc _) (SlK.lit1 w1 31 _)).mono ?_
  rintro e v11 ⟨c, cc, rfl, sc, b2⟩
  have SC := Lib.hid sc
  have HB11 := Lib.hid (HB10.out.trans ((b1.trans ((((Below.refl _ _).alloc (Nat.le_refl _) _).trans (b2.mono (by simp))).mono b1.size)).mono HB10.out.size))
  clear b1 b2 s1 l1 sc
  go_wp2_with fail
  refine (rSame_ok 10 c (some ⟨v11.heap.size + 1, 0, none⟩) 1 cc 1 [512] _ ((SC.out.alloc _).alloc _) (SlK.lit1' _ _ 512 _) (by decide)).mono ?_
  rintro e v12 ⟨rfl, b2⟩
  have HB12 := Lib.hid (HB11.out.trans (((((Below.refl _ _).alloc (Nat.le_refl _) _).alloc (by simp) _).trans (b2.mono (by simp; try omega))).mono HB11.out.size))
  clear b2
  go_wp2_with fail
  refine (awake_ok _ (HT.out.below HB12.out)).mono ?_
  rintro e v13 ⟨rfl, b2⟩
  have HB13 := Lib.hid (HB12.out.trans (b2.mono HB12.out.size))
  clear b2
  go_wp2
  go_ret
  exact ⟨rfl, HB13.out⟩
end Go.Proofs.YtikdgnfcckenmaaDoor

namespace Go.Proofs.YtikdgnfcckenmaaDoor.bitsKnown
open Go.ChangeShapes Go.WideShapes Go.ChangeAt Go.RowKit

set_option maxRecDepth 100000 in
theorem contract (H : Type) (enc : TypeId × Value → H) (W : World) (base : Nat) (args : Array Value) (ds gs : List (DataW H)) (before : List MemPlace)
    (hval : ∀ (j : Nat) t v, Tryd.f12.params[j]? = some t → args[j]? = some v → Value.okWide Tryd.prog W .any base t v)
    (hW : DataW.Whole enc Tryd.prog Tryd.f12.params.toList Rows.bitsKnownSpec.vars false W args.toList ds gs before) (hL : laidMetH Tryd.prog Rows.bitsKnownRow.laid W) :
    Calls Tryd.prog 12 args W fun e W' => ∃ v, e = .returned v ∧ Rows.bitsKnownSpec.post enc Tryd.prog Tryd.f12 false true false false W args v W' := by
  have hW' := hW
  obtain ⟨p, q, hA0, hV, rfl, hfz, hnd⟩ := hW
  have hA : DataW.TrodAll enc Tryd.prog W 0 (fun _ => true) true Tryd.f12.params.toList args.toList ds p := hA0
  rw [Tryd.params12] at hA hval
  obtain ⟨hargs, rfl, rfl⟩ := trodAll_nil hA
  obtain rfl : args = #[] := by cases args; simp_all
  obtain ⟨rfl, rfl⟩ := trodVars_none hV
  refine (law_known W (tab_of hL)).mono fun e W' ⟨he, hb⟩ => ?_
  exact ⟨_, he, law_post hW' rfl (by rw [Tryd.params12]; kernel_rfl) rfl rfl rfl rfl hb⟩

theorem laid_met (os : Os) : laidMet Tryd.prog Rows.bitsKnownRow.laid ((laidWorld os).forCall (fun _ _ => 0) ⟨#[], #[], []⟩).memory :=
  laidMet_of_run' 8 (by kernel_rfl) (by kernel_rfl)
theorem reads (os : Os) {H : Type} (enc : TypeId × Value → H) : ∃ places, DataW.whole enc Tryd.prog ((laidWorld os).forCall (fun _ _ => 0) ⟨#[], #[], []⟩).memory Tryd.f12.params.toList Rows.bitsKnownSpec.vars false #[].toList 8 = some ([], [], places) :=
  ⟨[], by kernel_rfl⟩

set_option maxRecDepth 100000 in
theorem lifted (os : Os) (started : os.Started) (H : Type) (enc : TypeId × Value → H) (F : Stop.Interp) :
    ReturnsInHanded {} Tryd.checked os 12 .any ((OpenSpec.ofChange Rows.bitsKnownSpec).preRow enc Tryd.prog Tryd.f12 Rows.bitsKnownRow.domain false Rows.bitsKnownRow.laid) (((OpenSpec.ofChange Rows.bitsKnownSpec).at F).post enc Tryd.prog Tryd.f12 false true false false) := by
  obtain ⟨places, hx⟩ := reads os enc
  refine returnsInHanded_of_row (C := Tryd.checked) (s := OpenSpec.ofChange Rows.bitsKnownSpec) own started (by kernel_rfl) Tryd.func12
    (witness_row_at (enc := enc) (C := Tryd.checked) false (laidWorld os) #[] rfl (by kernel_rfl) (by kernel_rfl) (by kernel_rfl)
      (OpenSpec.preRow_of_cond 8 hx (by kernel_rfl) (fun k hk => by cases hk) (by kernel_rfl) (laid_met os))) ?_
  intro W base args ds gs before hval hW _ _ _ hL _ _
  exact contract H enc W base args ds gs before hval hW hL

theorem said : Rows.BitsKnownSaid :=
  OpenClaim.holds_of_cond 12 Tryd.f12 rfl rfl rfl rfl rfl rfl rfl ⟨rfl, rfl, rfl, rfl, rfl⟩ rfl rfl rfl rfl rfl (by kernel_rfl) Tryd.func12 (by kernel_rfl)
    (of_decide_eq_true (by kernel_rfl)) (by unfold Func.isWrapper; first | (rw [if_pos (by decide +kernel)]; kernel_rfl) | (rw [if_neg (by decide +kernel)]; exact ⟨rfl, rfl⟩))
    (fun os started H enc _ F => by rw [OpenClaim.pre_eq_preRow]; exact lifted os started H enc F)

theorem plain (f : FuncId) (fn : Func) (hf : Tryd.pinned.checked.prog.funcNamed "polder/polderlaw02.BitsKnown" = some f) (hfn : Tryd.pinned.checked.prog.funcs[f]? = some fn) :
    false = Tryd.pinned.checked.prog.looks [] ∧ ∀ (j : Nat) t, fn.params[j]? = some t → Tryd.pinned.checked.prog.wantsStandIn t = false := by
  obtain rfl : f = 12 := Option.some.inj ((show Tryd.prog.funcNamed "polder/polderlaw02.BitsKnown" = some 12 by kernel_rfl).symm.trans hf) |>.symm
  obtain rfl : fn = Tryd.f12 := (Option.some.inj (Tryd.func12.symm.trans hfn)).symm
  refine ⟨by kernel_rfl, fun j t ht => ?_⟩
  rw [Tryd.params12] at ht
  simp at ht

/-- THE CARD. -/
theorem card : Rows.BitsKnownCardSaid :=
  Claim7.holds_tied_plain_at .later [] _ _ _ _ said (fun _ h => by cases h) (by kernel_rfl) (fun _ h => by cases h) bitsKnown_row_tie rfl ⟨rfl, rfl⟩ (by kernel_rfl) rfl plain (by kernel_rfl)
#print axioms card
end Go.Proofs.YtikdgnfcckenmaaDoor.bitsKnown
