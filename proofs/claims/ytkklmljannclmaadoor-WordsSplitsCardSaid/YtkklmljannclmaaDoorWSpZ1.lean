/- Words: the law of Split. | WordsSplits returns true for every input, on every schedule; its arguments read afterwards as they read before. No condition beyond the row's own. -/
import Derived.Test.YtkklmljannclmaaDoorWJZ1
import Derived.Test.YtkklmljannclmaaDoorWZ9
namespace Go.Proofs.YtkklmljannclmaaDoor
open Go.RowKit Go.Sort Go.Joins Go.Shelf
attribute [local go_sem] cell_grow frozen_grow size_grow

theorem spl_facts (l : List UInt8) : (splR l).length ≤ 64 ∧ (∀ x, x ∈ splR l → x.2.length ≤ 200) := by
  by_cases h : splE l = 0
  · have hE := h
    rw [splE_eq] at h
    by_cases h1 : 4096 < l.length
    · rw [if_pos h1] at h; cases h
    rw [if_neg h1] at h
    cases hs : splT l with
    | none => rw [hs] at h; cases h
    | some fs =>
      rw [hs] at h
      by_cases h2 : 64 < fs.length
      · exact absurd h (by simp [h2])
      obtain ⟨_, hR⟩ := splE_ok h1 hs h2
      rw [hR]
      obtain ⟨_, j2⟩ := jnP_spl hs
      refine ⟨by omega, fun x hx => ?_⟩
      have hb := j2 x hx
      obtain ⟨b, u⟩ := x
      cases b
      · exact (txB_yes.1 (rtB_yes.1 (show rtB u = true from hb)).2.2).2
      · exact (txB_yes.1 (show txB u = true from hb)).2
  · have e : splR l = [] := by unfold splR; rw [if_neg h]
    rw [e]
    exact ⟨by simp, by simp⟩
theorem spl_ways (l : List UInt8) : (splE l = 0 ∧ jnE (splR l) = 0 ∧ jnS (splR l) = l) ∨ splE l = 3 ∨ splE l = 6 := by
  by_cases h : splE l = 0
  · obtain ⟨h1, h2⟩ := join_split h
    exact .inl ⟨h, h1, h2⟩
  · right
    rw [splE_eq] at h ⊢
    by_cases h1 : 4096 < l.length
    · rw [if_pos h1]; exact .inl rfl
    · rw [if_neg h1] at h ⊢
      cases hs : splT l with
      | none => exact .inr rfl
      | some fs =>
        rw [hs] at h
        by_cases h2 : 64 < fs.length
        · left; simp [h2]
        · exact absurd (by simp [h2]) h
set_option maxRecDepth 100000 in
set_option maxHeartbeats 1600000 in
theorem law_splits (s : ByteArray) (w : World) (hT : T1 w) : Calls Tryd.prog 3 #[.string s] w fun e w' => e = .returned (.bool true) ∧ Below w.heap.size w w' := by
  have HT := Lib.hid hT
  clear hT
  by_cases hs : 6000 < s.size
  · have d1 : decide ((6000 : Int) < (s.size : Int)) = true := decide_eq_true (by omega)
    go_enter Tryd.func3, Tryd.ntmps3
    go_wp2_with fail
    refine (shown_ok _ HT.out).mono ?_
    rintro e w1 ⟨rfl, b1⟩
    have HB := Lib.hid b1
    clear b1
    go_wp2
    go_ret
    exact ⟨rfl, HB.out⟩
  · have d1 : decide ((6000 : Int) < (s.size : Int)) = false := decide_eq_false (by omega)
    have HSZ : Hid (s.size ≤ 6000) := Lib.hid (by omega)
    have HF := Lib.hid (spl_facts s.data.toList)
    have hways := spl_ways s.data.toList
    clear hs
    go_enter Tryd.func3, Tryd.ntmps3
    go_wp2_with fail
    refine (wsplit_ok s _ rfl (by have := HSZ.out; omega) _ HT.out.ml).mono ?_
    rintro e w1 ⟨a1, c1, rfl, s1, b1⟩
    have HB1 := Lib.hid b1
    have HS1 := Lib.hid s1
    clear b1 s1
    go_wp2_with fail
    refine (rsplit_ok s _ rfl (by have := HSZ.out; omega) _).mono ?_
    rintro e w2 ⟨a2, c2, rfl, s2, b2⟩
    have HB2 := Lib.hid (HB1.out.trans (b2.mono HB1.out.size))
    have HS1b := Lib.hid (HS1.out.below b2)
    have HS2 := Lib.hid s2
    clear b2 s2 HB1 HS1
    obtain ⟨L, hL⟩ : ∃ L, s.data.toList = L := ⟨_, rfl⟩
    rw [hL] at hways HS1b HS2 HF ⊢
    have HL := Lib.hid hL
    obtain ⟨F, hFd⟩ : ∃ F, splR L = F := ⟨_, rfl⟩
    rw [hFd] at hways HS1b HS2 HF ⊢
    obtain ⟨n, hn⟩ : ∃ n, F.length = n := ⟨_, rfl⟩
    have hn64 : n ≤ 64 := by have := HF.out.1; omega
    obtain ⟨E, hE⟩ : ∃ E, splE L = E := ⟨_, rfl⟩
    rw [hE] at hways ⊢
    have HFI := Lib.hid (fun W (h : SlF W a1 F) => fields_ok a1 c1 F W h (by omega))
    have HAI := Lib.hid (fun W a c (h : SlF W a F) (h2 : SlF W a2 F) => alike_ok a a2 c c2 F F W h h2 (by omega))
    have HJI := Lib.hid (fun W (h : SlF W a1 F) hm => wjoin_ok a1 c1 F W h (fun x hx => by have := HF.out.2 x hx; omega) (by omega) hm)
    rw [decide_eq_true rfl] at HAI
    rw [hn] at HFI HAI HJI ⊢
    clear hL hFd hE
    go_wp2_with fail
    refine (HFI.out _ HS1b.out).mono ?_
    rintro e w3 ⟨a3, c3, rfl, s3, b3⟩
    have HB3 := Lib.hid (HB2.out.trans (b3.mono HB2.out.size))
    have HS1c := Lib.hid (HS1b.out.below b3)
    have HS2c := Lib.hid (HS2.out.below b3)
    have HS3 := Lib.hid s3
    clear b3 s3 HB2 HS1b HS2
    go_wp2_with fail
    refine (HAI.out _ _ _ HS3.out HS2c.out).mono ?_
    rintro e w4 ⟨rfl, b4⟩
    have HB4 := Lib.hid (HB3.out.trans (b4.mono HB3.out.size))
    have HS1d := Lib.hid (HS1c.out.below b4)
    clear b4 HB3 HS1c HS2c HS3 hn
    have q2 : (E != E) = false := by simp
    rcases hways with ⟨rfl, j1, j2⟩ | rfl | rfl
    · rw [j1, j2] at HJI
      clear q2 j1 j2
      go_wp2_with fail
      refine (HJI.out _ HS1d.out (HT.out.below HB4.out).ml).mono ?_
      rintro e w5 ⟨S, rfl, h5, b5⟩
      obtain rfl : s = S := by rw [ba_lit HL.out, ba_lit h5]
      have HB5 := Lib.hid (HB4.out.trans (b5.mono HB4.out.size))
      clear b5 h5
      go_wp2_with fail
      refine (shown_ok _ (HT.out.below HB5.out)).mono ?_
      rintro e w7 ⟨rfl, b7⟩
      have HB7 := Lib.hid (HB5.out.trans (b7.mono HB5.out.size))
      clear b7
      go_wp2
      go_ret
      exact ⟨rfl, HB7.out⟩
    all_goals
      clear q2
      go_wp2_with fail
      refine (shown_ok _ (HT.out.below HB4.out)).mono ?_
      rintro e w7 ⟨rfl, b7⟩
      have HB7 := Lib.hid (HB4.out.trans (b7.mono HB4.out.size))
      clear b7
      go_wp2
      go_ret
      exact ⟨rfl, HB7.out⟩
end Go.Proofs.YtkklmljannclmaaDoor

namespace Go.Proofs.YtkklmljannclmaaDoor.wordsSplits
open Go.ChangeShapes Go.WideShapes Go.ChangeAt Go.RowKit

set_option maxRecDepth 100000 in
theorem contract (H : Type) (enc : TypeId × Value → H) (W : World) (base : Nat) (args : Array Value) (ds gs : List (DataW H)) (before : List MemPlace)
    (hval : ∀ (j : Nat) t v, Tryd.f3.params[j]? = some t → args[j]? = some v → Value.okWide Tryd.prog W .any base t v)
    (hW : DataW.Whole enc Tryd.prog Tryd.f3.params.toList Rows.wordsSplitsSpec.vars false W args.toList ds gs before) (hL : laidMetH Tryd.prog Rows.wordsSplitsRow.laid W) (hsh : W.ShapedOpen Tryd.prog) :
    Calls Tryd.prog 3 args W fun e W' => ∃ v, e = .returned v ∧ Rows.wordsSplitsSpec.post enc Tryd.prog Tryd.f3 false true false false W args v W' := by
  have hW' := hW
  obtain ⟨p, q, hA0, hV, rfl, hfz, hnd⟩ := hW
  have hA : DataW.TrodAll enc Tryd.prog W 0 (fun _ => true) true Tryd.f3.params.toList args.toList ds p := hA0
  rw [Tryd.params3] at hA hval
  obtain ⟨v0, vs0, d0, ds0, p0, q0, hargs, rfl, rfl, h0, r0⟩ := trodAll_cons hA
  obtain ⟨rfl, rfl, rfl⟩ := trodAll_nil r0
  obtain rfl : args = #[v0] := by cases args; simp_all
  obtain ⟨rfl, rfl⟩ := trodVars_none hV
  obtain ⟨s0, rfl⟩ := okWide_string Tryd.underlying9 (hval 0 9 v0 rfl rfl)
  refine (law_splits s0 W (t1_of hL hsh)).mono fun e W' ⟨he, hb⟩ => ?_
  exact ⟨_, he, law_post hW' rfl (by rw [Tryd.params3]; kernel_rfl) rfl rfl rfl rfl hb⟩

theorem laid_met (os : Os) : laidMet Tryd.prog Rows.wordsSplitsRow.laid ((laidWorld os).forCall (fun _ _ => 0) ⟨#[], #[.string ⟨#[]⟩], []⟩).memory :=
  laidMet_of_run' 8 (by kernel_rfl) (by kernel_rfl)
theorem reads (os : Os) {H : Type} (enc : TypeId × Value → H) : ∃ places, DataW.whole enc Tryd.prog ((laidWorld os).forCall (fun _ _ => 0) ⟨#[], #[.string ⟨#[]⟩], []⟩).memory Tryd.f3.params.toList Rows.wordsSplitsSpec.vars false #[Value.string ⟨#[]⟩].toList 8 = some ([.lit (.string [])], [], places) :=
  ⟨[], by kernel_rfl⟩

set_option maxRecDepth 100000 in
theorem lifted (os : Os) (started : os.Started) (H : Type) (enc : TypeId × Value → H) (F : Stop.Interp) :
    ReturnsInHanded {} Tryd.checked os 3 .any ((OpenSpec.ofChange Rows.wordsSplitsSpec).preRow enc Tryd.prog Tryd.f3 Rows.wordsSplitsRow.domain false Rows.wordsSplitsRow.laid) (((OpenSpec.ofChange Rows.wordsSplitsSpec).at F).post enc Tryd.prog Tryd.f3 false true false false) := by
  obtain ⟨places, hx⟩ := reads os enc
  refine returnsInHanded_of_row (C := Tryd.checked) (s := OpenSpec.ofChange Rows.wordsSplitsSpec) own started (by kernel_rfl) Tryd.func3
    (witness_row_at (enc := enc) (C := Tryd.checked) false (laidWorld os) #[.string ⟨#[]⟩] rfl (by kernel_rfl) (by kernel_rfl) (by kernel_rfl)
      (OpenSpec.preRow_of_cond 8 hx (by kernel_rfl) (fun k hk => by cases hk) (by kernel_rfl) (laid_met os))) ?_
  intro W base args ds gs before hval hW _ _ _ hL hsh _
  exact contract H enc W base args ds gs before hval hW hL hsh

theorem said : Rows.WordsSplitsSaid :=
  OpenClaim.holds_of_cond 3 Tryd.f3 rfl rfl rfl rfl rfl rfl rfl ⟨rfl, rfl, rfl, rfl, rfl⟩ rfl rfl rfl rfl rfl (by kernel_rfl) Tryd.func3 (by kernel_rfl)
    (of_decide_eq_true (by kernel_rfl)) (by unfold Func.isWrapper; first | (rw [if_pos (by decide +kernel)]; kernel_rfl) | (rw [if_neg (by decide +kernel)]; exact ⟨rfl, rfl⟩))
    (fun os started H enc _ F => by rw [OpenClaim.pre_eq_preRow]; exact lifted os started H enc F)

theorem plain (f : FuncId) (fn : Func) (hf : Tryd.pinned.checked.prog.funcNamed "polder/polderlaw01.WordsSplits" = some f) (hfn : Tryd.pinned.checked.prog.funcs[f]? = some fn) :
    true = Tryd.pinned.checked.prog.looks [] ∧ ∀ (j : Nat) t, fn.params[j]? = some t → Tryd.pinned.checked.prog.wantsStandIn t = false := by
  obtain rfl : f = 3 := Option.some.inj ((show Tryd.prog.funcNamed "polder/polderlaw01.WordsSplits" = some 3 by kernel_rfl).symm.trans hf) |>.symm
  obtain rfl : fn = Tryd.f3 := (Option.some.inj (Tryd.func3.symm.trans hfn)).symm
  refine ⟨by kernel_rfl, fun j t ht => ?_⟩
  rw [Tryd.params3] at ht
  have hm : t ∈ [9] := by simpa using Array.mem_of_getElem? ht
  have hall : ([9].all fun u => !Tryd.prog.wantsStandIn u) = true := by kernel_rfl
  exact (show Tryd.prog.wantsStandIn t = false by simpa using List.all_eq_true.1 hall t hm)

/-- THE CARD. -/
theorem card : Rows.WordsSplitsCardSaid :=
  Claim7.holds_tied_plain_at .later [] _ _ _ _ said (fun _ h => by cases h) (by kernel_rfl) (fun _ h => by cases h) wordsSplits_row_tie rfl ⟨rfl, rfl⟩ (by kernel_rfl) rfl plain (by kernel_rfl)
#print axioms card
end Go.Proofs.YtkklmljannclmaaDoor.wordsSplits
