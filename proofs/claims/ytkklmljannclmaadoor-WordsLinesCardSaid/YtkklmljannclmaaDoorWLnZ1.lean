/- Words: the law of Lines. | WordsLines returns true for every input, on every schedule; its arguments read afterwards as they read before. No condition beyond the row's own. -/
import Derived.Test.YtkklmljannclmaaDoorWZ9
namespace Go.Proofs.YtkklmljannclmaaDoor
open Go.RowKit Go.Sort Go.Joins Go.Shelf
attribute [local go_sem] cell_grow frozen_grow size_grow

theorem SlT.atS {w : World} {a : Option Addr} {ls : List (List UInt8)} (h : SlT w a ls) {j : Nat} (hj : j < ls.length) : ∃ (b o : Nat) (S : ByteArray), a = some ⟨b, o, none⟩ ∧ w.cell? ⟨b, o + j, none⟩ = some (.string S) ∧ S.data.toList = ls.getD j [] := by
  rcases h with rfl | ⟨b, o, ha, hc⟩
  · simp at hj
  · obtain ⟨S, h1, h2⟩ := hc j hj
    exact ⟨b, o, S, ha, h1, h2⟩
theorem SlT.below' {w w' : World} {a : Option Addr} {ls : List (List UInt8)} (h : SlT w a ls) (hb : Below w.heap.size w w') : SlT w' a ls := by
  rcases h with h | ⟨b, o, ha, hc⟩
  · exact .inl h
  · exact .inr ⟨b, o, ha, fun j hj => by
      obtain ⟨S, h1, h2⟩ := hc j hj
      exact ⟨S, cell_later hb h1, h2⟩⟩
theorem lns_len {l : List UInt8} (h : l.length ≤ 1048676) : (lnsL l).length ≤ 1048677 := by
  unfold lnsL
  split
  · simp
  · rw [spl_len]
    have h1 := List.count_le_length (a := (10 : UInt8)) (l := l.dropLast)
    have h2 : l.dropLast.length ≤ l.length := by rw [List.length_dropLast]; omega
    omega
set_option maxRecDepth 100000 in
set_option maxHeartbeats 1600000 in
theorem law_lines (s : ByteArray) (w : World) (hT : T1 w) : Calls Tryd.prog 10 #[.string s] w fun e w' => e = .returned (.bool true) ∧ Below w.heap.size w w' := by
  have HT := Lib.hid hT
  clear hT
  by_cases hs : 1048676 < s.size
  · have d1 : decide ((1048676 : Int) < (s.size : Int)) = true := decide_eq_true (by omega)
    go_enter Tryd.func10, Tryd.ntmps10
    go_wp2_with fail
    refine (shown_ok _ HT.out).mono ?_
    rintro e w1 ⟨rfl, b1⟩
    have HB := Lib.hid b1
    clear b1
    go_wp2
    go_ret
    exact ⟨rfl, HB.out⟩
  · have d1 : decide ((1048676 : Int) < (s.size : Int)) = false := decide_eq_false (by omega)
    have hll := lns_len (l := s.data.toList) (by rw [len_of rfl]; omega)
    have HSZ : Hid (s.size ≤ 1048676) := Lib.hid (by omega)
    clear hs
    go_enter Tryd.func10, Tryd.ntmps10
    go_wp2_with fail
    refine (lines_ok s _ rfl _ HT.out.ml).mono ?_
    rintro e w1 ⟨a1, c1, rfl, s1, b1⟩
    have HS1 := Lib.hid s1
    have HB1 := Lib.hid b1
    clear s1 b1
    go_wp2_with fail
    refine (rlines_ok s _ rfl (by have := HSZ.out; omega) _).mono ?_
    rintro e w2 ⟨a2, c2, rfl, s2, b2⟩
    have HS1 := Lib.hid (HS1.out.below' b2)
    have HS2 := Lib.hid s2
    have HB2 := Lib.hid (HB1.out.trans (b2.mono HB1.out.size))
    obtain ⟨E, hE⟩ : ∃ E, lnsE s.data.toList = E := ⟨_, rfl⟩
    obtain ⟨ls, hls⟩ : ∃ ls, lnsL s.data.toList = ls := ⟨_, rfl⟩
    rw [hls] at hll HS1 HS2
    rw [hE, hls]
    obtain ⟨n, hn⟩ : ∃ n, ls.length = n := ⟨_, rfl⟩
    have HN := Lib.hid hn
    rw [hn] at hll ⊢
    have q1 : ((n : Int) != (n : Int)) = false := by simp
    have q2 : (E != E) = false := by simp
    clear hE hls hn s2 b2 HB1
    go_wp2
    clear q1 q2
    go_loopw [7] (fun i wr => ∃ k : Nat, i = .int .i64 k ∧ k ≤ n ∧ Hid (Below w2.heap.size w2 wr)) (fun i _ => n - (intOf i).toNat)
    case atStart => exact ⟨0, rfl, Nat.zero_le _, Lib.hid (Below.refl _ _)⟩
    case round =>
      obtain ⟨k, rfl, hk, HB⟩ := hrel
      by_cases hlt : k < n
      · obtain ⟨b1, o1, S1, rfl, g1, e1⟩ := (HS1.out.below' HB.out).atS (j := k) (by rw [HN.out]; exact hlt)
        obtain ⟨b2, o2, S2, rfl, g2, e2⟩ := (HS2.out.below' HB.out).atS (j := k) (by rw [HN.out]; exact hlt)
        obtain rfl : S1 = S2 := by rw [ba_lit e1, ba_lit e2]
        have hli : (k : Int) < (n : Int) := by omega
        have hk0 : (0 : Int) ≤ (k : Int) := by omega
        clear e1 e2
        go_wp2_with fail
        go_quiet (fail)
        go_wp2
        go_roundw
        case rel => exact ⟨k + 1, by go_num, by omega, Lib.hid (HB.out.trans ((below_draw _ _).mono HB.out.size))⟩
        case measure => simp [intOf]; omega
      · obtain rfl : k = n := by omega
        have HBw := Lib.hid (HB2.out.trans (HB.out.mono HB2.out.size))
        go_wp2_with fail
        refine (shown_ok _ (HT.out.below HBw.out)).mono ?_
        rintro e w3 ⟨rfl, b3⟩
        have HB3 := Lib.hid (HBw.out.trans (b3.mono HBw.out.size))
        clear b3
        go_wp2
        go_ret
        exact ⟨rfl, HB3.out⟩
end Go.Proofs.YtkklmljannclmaaDoor

namespace Go.Proofs.YtkklmljannclmaaDoor.wordsLines
open Go.ChangeShapes Go.WideShapes Go.ChangeAt Go.RowKit

set_option maxRecDepth 100000 in
theorem contract (H : Type) (enc : TypeId × Value → H) (W : World) (base : Nat) (args : Array Value) (ds gs : List (DataW H)) (before : List MemPlace)
    (hval : ∀ (j : Nat) t v, Tryd.f10.params[j]? = some t → args[j]? = some v → Value.okWide Tryd.prog W .any base t v)
    (hW : DataW.Whole enc Tryd.prog Tryd.f10.params.toList Rows.wordsLinesSpec.vars false W args.toList ds gs before) (hL : laidMetH Tryd.prog Rows.wordsLinesRow.laid W) (hsh : W.ShapedOpen Tryd.prog) :
    Calls Tryd.prog 10 args W fun e W' => ∃ v, e = .returned v ∧ Rows.wordsLinesSpec.post enc Tryd.prog Tryd.f10 false true false false W args v W' := by
  have hW' := hW
  obtain ⟨p, q, hA0, hV, rfl, hfz, hnd⟩ := hW
  have hA : DataW.TrodAll enc Tryd.prog W 0 (fun _ => true) true Tryd.f10.params.toList args.toList ds p := hA0
  rw [Tryd.params10] at hA hval
  obtain ⟨v0, vs0, d0, ds0, p0, q0, hargs, rfl, rfl, h0, r0⟩ := trodAll_cons hA
  obtain ⟨rfl, rfl, rfl⟩ := trodAll_nil r0
  obtain rfl : args = #[v0] := by cases args; simp_all
  obtain ⟨rfl, rfl⟩ := trodVars_none hV
  obtain ⟨s0, rfl⟩ := okWide_string Tryd.underlying9 (hval 0 9 v0 rfl rfl)
  refine (law_lines s0 W (t1_of hL hsh)).mono fun e W' ⟨he, hb⟩ => ?_
  exact ⟨_, he, law_post hW' rfl (by rw [Tryd.params10]; kernel_rfl) rfl rfl rfl rfl hb⟩

theorem laid_met (os : Os) : laidMet Tryd.prog Rows.wordsLinesRow.laid ((laidWorld os).forCall (fun _ _ => 0) ⟨#[], #[.string ⟨#[]⟩], []⟩).memory :=
  laidMet_of_run' 8 (by kernel_rfl) (by kernel_rfl)
theorem reads (os : Os) {H : Type} (enc : TypeId × Value → H) : ∃ places, DataW.whole enc Tryd.prog ((laidWorld os).forCall (fun _ _ => 0) ⟨#[], #[.string ⟨#[]⟩], []⟩).memory Tryd.f10.params.toList Rows.wordsLinesSpec.vars false #[Value.string ⟨#[]⟩].toList 8 = some ([.lit (.string [])], [], places) :=
  ⟨[], by kernel_rfl⟩

set_option maxRecDepth 100000 in
theorem lifted (os : Os) (started : os.Started) (H : Type) (enc : TypeId × Value → H) (F : Stop.Interp) :
    ReturnsInHanded {} Tryd.checked os 10 .any ((OpenSpec.ofChange Rows.wordsLinesSpec).preRow enc Tryd.prog Tryd.f10 Rows.wordsLinesRow.domain false Rows.wordsLinesRow.laid) (((OpenSpec.ofChange Rows.wordsLinesSpec).at F).post enc Tryd.prog Tryd.f10 false true false false) := by
  obtain ⟨places, hx⟩ := reads os enc
  refine returnsInHanded_of_row (C := Tryd.checked) (s := OpenSpec.ofChange Rows.wordsLinesSpec) own started (by kernel_rfl) Tryd.func10
    (witness_row_at (enc := enc) (C := Tryd.checked) false (laidWorld os) #[.string ⟨#[]⟩] rfl (by kernel_rfl) (by kernel_rfl) (by kernel_rfl)
      (OpenSpec.preRow_of_cond 8 hx (by kernel_rfl) (fun k hk => by cases hk) (by kernel_rfl) (laid_met os))) ?_
  intro W base args ds gs before hval hW _ _ _ hL hsh _
  exact contract H enc W base args ds gs before hval hW hL hsh

theorem said : Rows.WordsLinesSaid :=
  OpenClaim.holds_of_cond 10 Tryd.f10 rfl rfl rfl rfl rfl rfl rfl ⟨rfl, rfl, rfl, rfl, rfl⟩ rfl rfl rfl rfl rfl (by kernel_rfl) Tryd.func10 (by kernel_rfl)
    (of_decide_eq_true (by kernel_rfl)) (by unfold Func.isWrapper; first | (rw [if_pos (by decide +kernel)]; kernel_rfl) | (rw [if_neg (by decide +kernel)]; exact ⟨rfl, rfl⟩))
    (fun os started H enc _ F => by rw [OpenClaim.pre_eq_preRow]; exact lifted os started H enc F)

theorem plain (f : FuncId) (fn : Func) (hf : Tryd.pinned.checked.prog.funcNamed "polder/polderlaw01.WordsLines" = some f) (hfn : Tryd.pinned.checked.prog.funcs[f]? = some fn) :
    true = Tryd.pinned.checked.prog.looks [] ∧ ∀ (j : Nat) t, fn.params[j]? = some t → Tryd.pinned.checked.prog.wantsStandIn t = false := by
  obtain rfl : f = 10 := Option.some.inj ((show Tryd.prog.funcNamed "polder/polderlaw01.WordsLines" = some 10 by kernel_rfl).symm.trans hf) |>.symm
  obtain rfl : fn = Tryd.f10 := (Option.some.inj (Tryd.func10.symm.trans hfn)).symm
  refine ⟨by kernel_rfl, fun j t ht => ?_⟩
  rw [Tryd.params10] at ht
  have hm : t ∈ [9] := by simpa using Array.mem_of_getElem? ht
  have hall : ([9].all fun u => !Tryd.prog.wantsStandIn u) = true := by kernel_rfl
  exact (show Tryd.prog.wantsStandIn t = false by simpa using List.all_eq_true.1 hall t hm)

/-- THE CARD. -/
theorem card : Rows.WordsLinesCardSaid :=
  Claim7.holds_tied_plain_at .later [] _ _ _ _ said (fun _ h => by cases h) (by kernel_rfl) (fun _ h => by cases h) wordsLines_row_tie rfl ⟨rfl, rfl⟩ (by kernel_rfl) rfl plain (by kernel_rfl)
#print axioms card
end Go.Proofs.YtkklmljannclmaaDoor.wordsLines
