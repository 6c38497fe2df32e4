/- Refusals: SamePlan. | Refusals: RefusalsParses returns true. | The frame of a statement: what a law's walk gives its row. | The tables and the error values that the rows of RefusalsPrints and RefusalsParses list. | RefusalsParses returns true for every input, on every schedule; its arguments read afterwards as they read before. No condition beyond the row's own. -/
import Derived.Test.YtgbdhmdaefbglaaDoorPPZ3
import Derived.Laws.StructEq
import Derived.ChangeKeysEq
import Derived.Test.YtgbdhmdaefbglaaDoorPPZ4
import Derived.Test.YtgbdhmdaefbglaaDoorPPZ11
import Derived.Test.YtgbdhmdaefbglaaDoorCards
import Derived.Test.YtgbdhmdaefbglaaDoorTie
import Derived.ProofKit
import Derived.OpenShut
import Derived.Deep.DeepHandedRow
import Derived.Lib.LaidTab
import Derived.Test.YtgbdhmdaefbglaaDoorPPZ7
import Derived.Test.YtgbdhmdaefbglaaDoorPPZ6
import Derived.Stop.LaidErr
namespace Go.Proofs.YtgbdhmdaefbglaaDoor
open Go.RowKit Go.Sort Go.Joins Go.Shelf
attribute [local go_sem] cell_grow frozen_grow size_grow
attribute [local go_sem ↓] Go.wp_at_zero Go.wp_at_succ
theorem neq_rule (x y : Rl) (w : World) : Sem.run Tryd.prog (binOp .neq 45 (rV x) (rV y)) w = .ok (.bool (!decide (x = y))) w := by
  have u3 := Tryd.underlying3
  have hS : Tryd.prog.underlying 45 = some (.struct (Tryd.prog.fieldsOf 45)) := by kernel_rfl
  have hp : Tryd.prog.stoodInHeld 45 = false := by kernel_rfl
  rw [run_neq_struct, show (10000 : Nat) = 9999 + 1 from rfl, run_equalIn_agg w 9999 45 _ _ hS hp]
  simp only [Program.fieldsOf, Tryd.underlying45]
  obtain ⟨a, b, c, d⟩ := x
  obtain ⟨a', b', c', d'⟩ := y
  go_simp
  by_cases h1 : a = a' <;> by_cases h2 : b = b' <;> by_cases h3 : c = c' <;> by_cases h4 : d = d' <;> simp [h1, h2, h3, h4]
/-- are two plans the same, rule by rule? -/
def spB (n : Nat) (R : Nat → Rl) (m : Nat) (Q : Nat → Rl) : Bool := decide (n = m) && (List.range n).all fun j => decide (R j = Q j)
theorem spB_len {n m : Nat} {R Q : Nat → Rl} (h : n ≠ m) : spB n R m Q = false := by unfold spB; rw [decide_eq_false h, Bool.false_and]
theorem spB_yes {n : Nat} {R Q : Nat → Rl} (h : ∀ j, j < n → R j = Q j) : spB n R n Q = true := by
  unfold spB
  rw [decide_eq_true rfl, Bool.true_and, List.all_eq_true]
  exact fun j hj => decide_eq_true (h j (List.mem_range.1 hj))
theorem spB_no {n j : Nat} {R Q : Nat → Rl} (hj : j < n) (h : R j ≠ Q j) : spB n R n Q = false := by
  unfold spB
  rw [decide_eq_true rfl, Bool.true_and, List.all_eq_false]
  exact ⟨j, List.mem_range.2 hj, by simpa using h⟩
theorem guard57 : Tryd.prog.eqGuardType Tryd.prog.depth 45 = false := by kernel_rfl
section
variable {w : World} {a b : Option Addr} {n c m d : Nat} {R Q : Nat → Rl}
set_option maxRecDepth 100000 in
set_option maxHeartbeats 1600000 in
theorem samePlan_ok (hS : SlR w a n R) (hn : n ≤ 9223372036854775807) (hQ : SlR w b m Q) (hm : m ≤ 9223372036854775807) :
    Calls Tryd.prog 10 #[pV a n c, pV b m d] w fun e w' => e = .returned (.bool (spB n R m Q)) ∧ Below w.heap.size w w' := by
  have b2 : Below w.heap.size w ((w.alloc (.cells #[.slice a n c] 24)).alloc (.cells #[.slice b m d] 24)) := ((Below.refl _ w).alloc (Nat.le_refl _) _).alloc (by simp) _
  have HB := Lib.hid b2
  by_cases hnm : n = m
  · subst hnm
    have hne : ((n : Int) != (n : Int)) = false := by simp
    have HS := Lib.hid hS
    have HQ := Lib.hid hQ
    clear b2 hS hQ
    go_enter Tryd.func10, Tryd.ntmps10
    go_wp2
    obtain ⟨W, hW⟩ : ∃ W, (w.alloc (.cells #[.slice a n c] 24)).alloc (.cells #[.slice b n d] 24) = W := ⟨_, rfl⟩
    have k0 : W.cell? ⟨w.heap.size, 0, none⟩ = some (.slice a n c) := by rw [← hW]; simp [go_sem]
    have k1 : W.cell? ⟨w.heap.size + 1, 0, none⟩ = some (.slice b n d) := by rw [← hW]; simp [go_sem]
    rw [hW] at HB ⊢
    clear hW
    go_loopw [5] (fun i wr => ∃ k : Nat, i = .int .i64 k ∧ k ≤ n ∧ Hid (∀ j, j < k → R j = Q j) ∧ Hid (Below W.heap.size W wr)) (fun i _ => n - (intOf i).toNat)
    case atStart => exact ⟨0, rfl, Nat.zero_le _, Lib.hid (fun j hj => by omega), Lib.hid (Below.refl _ _)⟩
    case round =>
      obtain ⟨k, rfl, hk, HA, HBr⟩ := hrel
      clear hne
      have e0 := cell_later HBr.out k0
      have e1 := cell_later HBr.out k1
      clear k0 k1
      have HBw := Lib.hid (HB.out.trans (HBr.out.mono HB.out.size))
      by_cases hlt : k < n
      · obtain ⟨ba, oa, rfl, g0, g1, g2, g3⟩ := (HS.out.below HBw.out).at_ hlt
        obtain ⟨bb, ob, rfl, h0, h1, h2, h3⟩ := (HQ.out.below HBw.out).at_ hlt
        have hli : (k : Int) < (n : Int) := by omega
        have hk0 : (0 : Int) ≤ (k : Int) := by omega
        have hneq := neq_rule (R k) (Q k)
        have hgd := guard57
        obtain ⟨r, hr⟩ : ∃ r, decide (R k = Q k) = r := ⟨_, rfl⟩
        rw [hr] at hneq
        have HR := Lib.hid hr
        clear hr
        cases r
        · go_wp2_with fail
          go_quiet (fail)
          go_wp2
          go_ret
          exact ⟨ret_bool (spB_no hlt (of_decide_eq_false HR.out)).symm, HBw.out.trans ((below_draw _ _).mono HBw.out.size)⟩
        · go_wp2_with fail
          go_quiet (fail)
          go_wp2
          go_roundw
          case rel => exact ⟨k + 1, by go_num, by omega, Lib.hid (fun j hj => by
            by_cases ej : j = k
            · rw [ej]; exact of_decide_eq_true HR.out
            · exact HA.out j (by omega)), Lib.hid (HBr.out.trans ((below_draw _ _).mono HBr.out.size))⟩
          case measure => simp [intOf]; omega
      · obtain rfl : k = n := by omega
        go_wp2
        go_ret
        exact ⟨ret_bool (spB_yes HA.out).symm, HBw.out⟩
  · have hne : ((n : Int) != (m : Int)) = true := by simp; omega
    have HE := Lib.hid (spB_len (R := R) (Q := Q) hnm)
    clear b2 hS hQ hnm
    go_enter Tryd.func10, Tryd.ntmps10
    go_wp2
    go_ret
    exact ⟨ret_bool HE.out.symm, HB.out⟩
end
end Go.Proofs.YtgbdhmdaefbglaaDoor

namespace Go.Proofs.YtgbdhmdaefbglaaDoor
open Go.RowKit Go.Sort Go.Joins Go.Shelf
attribute [local go_sem] cell_grow frozen_grow size_grow

/-- what is read is printed -/
theorem ps5_back {t : List UInt8} (h : (ps5 t).2.2 = 0) : (ps5 t).2.1 = 0 ∧ (ps5 t).1.length ≤ 50 ∧ pE (ps5 t).1.length (fun j => (ps5 t).1.getD j rl0) = 0 ∧ textB (fun j => (ps5 t).1.getD j rl0) (ps5 t).1.length = t := by
  by_cases hE : lnsE t = 0
  · by_cases hb : ∃ k, k < (lnsL t).length ∧ (∀ j, j < k → lnP ((lnsL t).getD j []) ≠ none) ∧ lnP ((lnsL t).getD k []) = none
    · obtain ⟨k, hk, hp, hb⟩ := hb
      rw [ps5_bad hE hk hp hb] at h
      cases h
    · have hall : ∀ j, j < (lnsL t).length → lnP ((lnsL t).getD j []) ≠ none := by
        intro j
        induction j using Nat.strongRecOn with
        | ind j ih => intro hj hn; exact hb ⟨j, hj, fun i hi => ih i hi (by omega), hn⟩
      obtain ⟨Q, hQ⟩ : ∃ Q, Q = rlsL (lnsL t) (lnsL t).length := ⟨_, rfl⟩
      have hps := ps5_good hE hall hQ
      have hlq : ∀ k, k ≤ (lnsL t).length → (rlsL (lnsL t) k).length = k ∧ ∀ j, j < k → line0 ((rlsL (lnsL t) k).getD j rl0) = (lnsL t).getD j [] := by
        intro k
        induction k with
        | zero => intro _; exact ⟨rfl, fun j hj => by omega⟩
        | succ k ih =>
          intro hk
          obtain ⟨i1, i2⟩ := ih (by omega)
          cases hx : lnP ((lnsL t).getD k []) with
          | none => exact absurd hx (hall k (by omega))
          | some x =>
            rw [rls_step (by omega) hx]
            refine ⟨by rw [List.length_append, i1]; rfl, fun j hj => ?_⟩
            rw [List.getD_eq_getElem?_getD]
            by_cases ej : j = k
            · subst ej
              rw [List.getElem?_append_right (by omega), i1, Nat.sub_self]
              exact line_ln hx
            · rw [List.getElem?_append_left (by omega), ← List.getD_eq_getElem?_getD]
              exact i2 j (by omega)
      obtain ⟨q1, q2⟩ := hlq _ (Nat.le_refl _)
      rw [← hQ] at q1 q2
      rw [hps] at h ⊢
      split at h
      · cases h
      · rename_i h50
        rw [if_neg h50]
        by_cases hp : pE Q.length (fun j => Q.getD j rl0) = 0
        · rw [if_neg (fun k => k hp)]
          refine ⟨rfl, (by show Q.length ≤ 50; omega), hp, ?_⟩
          show textB (fun j => Q.getD j rl0) Q.length = t
          have hm : ((List.range Q.length).map fun i => line0 (Q.getD i rl0)) = lnsL t := by
            apply List.ext_getElem?
            intro i
            rcases Nat.lt_or_ge i Q.length with hi | hi
            · rw [List.getElem?_map, List.getElem?_range hi]
              show some (line0 (Q.getD i rl0)) = _
              rw [q2 i (by omega), List.getD_eq_getElem?_getD, List.getElem?_eq_getElem (by omega)]; rfl
            · rw [List.getElem?_eq_none (by simpa using hi), List.getElem?_eq_none (by omega)]
          rw [text_flat, hm]
          by_cases ht : t = []
          · subst ht; rfl
          · have hl : lnsL t = spl 10 t.dropLast := by unfold lnsL; rw [if_neg (by simp [hE, ht])]
            rw [hl, jn_end (spl_ne _ _), jn_spl]
            have hlast : t.getLast? = some 10 := by
              by_cases h10 : t.getLast? = some 10
              · exact h10
              · exfalso
                unfold lnsE at hE
                by_cases hl : 1048576 < t.length
                · rw [if_pos hl] at hE; cases hE
                · rw [if_neg hl, if_neg ht, if_pos h10] at hE; cases hE
            rw [List.getLast?_eq_some_getLast ht] at hlast
            rw [← Option.some.inj hlast, List.dropLast_concat_getLast]
        · rw [if_pos hp] at h
          exact absurd h hp
  · rw [ps5_lines hE] at h
    exact absurd h hE
theorem str_same {A B : ByteArray} (h : A.data.toList = B.data.toList) : (A.toList != B.toList) = false := by rw [ba_of h]; simp
theorem spB_self {Q : List Rl} : spB Q.length (fun j => Q.getD j rl0) Q.length (fun j => Q.getD j rl0) = true := spB_yes fun _ _ => rfl
theorem ps_len {t : List UInt8} : (ps5 t).1.length ≤ 50 := by
  unfold ps5
  split
  · exact Nat.zero_le _
  · split
    · exact Nat.zero_le _
    · split
      · exact Nat.zero_le _
      · split
        · exact Nat.zero_le _
        · dsimp only; omega
set_option maxRecDepth 100000 in
set_option maxHeartbeats 3200000 in
theorem law_parses {w : World} {s : ByteArray} (hT : T5 w) (hTW : TW w) (hM : ML w) :
    Calls Tryd.prog 4 #[.string s] w fun e w' => e = .returned (.bool true) ∧ Below w.heap.size w w' := by
  have HT := Lib.hid hT
  by_cases hfar : 6000 < s.size
  · have d0 : decide ((6000 : Int) < (s.size : Int)) = true := decide_eq_true (by omega)
    clear hT hTW hM
    go_enter Tryd.func4, Tryd.ntmps4
    go_wp2_with fail
    refine (shown_ok _ HT.out).mono ?_
    rintro e w6 ⟨rfl, b6⟩
    go_wp2_with fail
    go_ret
    exact ⟨rfl, b6⟩
  · have d0 : decide ((6000 : Int) < (s.size : Int)) = false := decide_eq_false (by omega)
    obtain ⟨L, hL⟩ : ∃ L, s.data.toList = L := ⟨_, rfl⟩
    have hlen := len_of hL
    have HPA := Lib.hid (parse_ok s L hL w hT hTW hM)
    have HRP := Lib.hid (fun W => rparse_ok s L hL (by omega) W)
    have hbk := @ps5_back L
    have hpl := @ps_len L
    obtain ⟨PS, hPS⟩ : ∃ x, ps5 L = x := ⟨_, rfl⟩
    rw [hPS] at HPA HRP hbk hpl
    obtain ⟨Q, n, E⟩ := PS
    dsimp only at HPA HRP hbk hpl
    have HBK := Lib.hid hbk
    have HL := Lib.hid hL
    clear hT hTW hM hbk hPS hL
    obtain ⟨N, hN⟩ : ∃ N, Q.length = N := ⟨_, rfl⟩
    rw [hN] at HBK hpl
    go_enter Tryd.func4, Tryd.ntmps4
    go_wp2_with fail
    refine HPA.out.mono ?_
    rintro e w1 ⟨a1, c1, rfl, hS1, b1⟩
    have HB1 := Lib.hid b1
    have HS1 := Lib.hid hS1
    have bx := below_box0 w1 (.cells #[.slice a1 N c1] 24)
    have HX1 := Lib.hid (heap_alloc_new w1 (.cells #[.slice a1 N c1] 24))
    have HBX := Lib.hid bx
    rw [hN]
    clear hS1 b1 HPA bx
    go_wp2_with fail
    refine (HRP.out _).mono ?_
    rintro e w2 ⟨a2, c2, rfl, hS2, b2⟩
    have HX2 := Lib.hid ((b2.block _ (blk_lt HX1.out)).trans HX1.out)
    have HB2 := Lib.hid (below_tr (below_tr HB1.out HBX.out) b2)
    have hS12 := (HS1.out.below HBX.out).below b2
    have bx := below_box0 w2 (.cells #[.slice a2 N c2] 24)
    rw [hN] at hS2 hS12 ⊢
    have HSP := Lib.hid (samePlan_ok (c := c1) (d := c2) (hS12.below bx) (by omega) (hS2.below bx) (by omega))
    have hsf : spB N (fun j => Q.getD j rl0) N (fun j => Q.getD j rl0) = true := spB_yes fun _ _ => rfl
    rw [hsf] at HSP
    have HBX2 := Lib.hid bx
    have k0 : (w2.alloc (.cells #[.slice a2 N c2] 24)).cell? ⟨w1.heap.size, 0, none⟩ = some (.slice a1 N c1) := by rw [cell_of_block ((bx.block _ (blk_lt HX2.out)).trans HX2.out)]; rfl
    have HS12 := Lib.hid hS12
    have l1 : w1.heap.size < w2.heap.size := blk_lt HX2.out
    clear bx b2 hS2 hS12 hsf HRP HS1 HX1
    go_wp2_with fail
    refine HSP.out.mono ?_
    rintro e w3 ⟨rfl, b3⟩
    have HX3 := Lib.hid ((b3.block _ (Nat.lt_of_lt_of_le (blk_lt HX2.out) HBX2.out.size)).trans ((HBX2.out.block _ (blk_lt HX2.out)).trans HX2.out))
    have HB3 := Lib.hid (below_tr (below_tr HB2.out HBX2.out) b3)
    have HS3 := Lib.hid ((HS12.out.below HBX2.out).below b3)
    have k3 : w3.cell? ⟨w1.heap.size, 0, none⟩ = some (.slice a1 N c1) := by rw [cell_of_block HX3.out]; rfl
    have hnn : (n != n) = false := by simp
    have hee : (E != E) = false := by simp
    clear b3 k0 HSP HX2 HB2 HS12 HBX2 HBX
    by_cases hE : E = 0
    · have d1 : (E == 0) = true := by rw [hE]; rfl
      obtain ⟨g1, g2, g3, g4⟩ := HBK.out hE
      have hpr := print_ok (c := c1) HS3.out g2 g3 (HT.out.below HB3.out)
      rw [g4] at hpr
      have HPR := Lib.hid hpr
      have hst : ((⟨L.toArray⟩ : ByteArray).toList != s.toList) = false := str_same (by rw [HL.out])
      have hst2 : (⟨L.toArray⟩ : ByteArray).toList = s.toList := by rw [Lib.toList_data, Lib.toList_data, HL.out]
      obtain ⟨TX, hTX⟩ : ∃ t : ByteArray, ⟨L.toArray⟩ = t := ⟨_, rfl⟩
      rw [hTX] at HPR hst hst2
      clear hpr hTX g1 g2 g3 g4 hE
      go_wp2_with fail
      refine HPR.out.mono ?_
      rintro e w4 ⟨rfl, b4⟩
      have HB4 := Lib.hid (below_tr HB3.out b4)
      clear b4 k3 HPR HB3
      go_wp2_with fail
      refine (shown_ok _ (HT.out.below HB4.out)).mono ?_
      rintro e w6 ⟨rfl, b6⟩
      have HB6 := Lib.hid (below_tr HB4.out b6)
      go_wp2_with fail
      go_ret
      exact ⟨rfl, HB6.out⟩
    · have d1 : (E == 0) = false := by simpa using hE
      go_wp2_with fail
      refine (shown_ok _ (HT.out.below HB3.out)).mono ?_
      rintro e w6 ⟨rfl, b6⟩
      have HB6 := Lib.hid (below_tr HB3.out b6)
      go_wp2_with fail
      go_ret
      exact ⟨rfl, HB6.out⟩
end Go.Proofs.YtgbdhmdaefbglaaDoor

namespace Go.Proofs.YtgbdhmdaefbglaaDoor
open Go.ChangeShapes Go.WideShapes Go.ChangeAt Go.RowKit

theorem own : ownKnob Tryd.prog.godebug = none := by kernel_rfl
theorem laidOut : laidOutB Tryd.prog = true := by kernel_rfl

theorem trodAll_below {H : Type} {enc : TypeId × Value → H} {W W' : World} (hb : Below W.heap.size W W') (ts : List TypeId) : ∀ (vs : List Value) (ds : List (DataW H)) (ps : List MemPlace),
    (ts.all fun t => Tryd.prog.readableRec t && decide (t < Tryd.prog.types.size)) = true → (∀ x ∈ ps, x.block < W.heap.size) → DataW.TrodAll enc Tryd.prog W 0 (fun _ => true) true ts vs ds ps →
    DataW.TrodAll enc Tryd.prog W' 0 (fun b => decide (b < W.heap.size)) true ts vs ds ps := by
  induction ts with
  | nil =>
    intro vs ds ps _ _ h
    obtain ⟨rfl, rfl, rfl⟩ := trodAll_nil h
    exact trodAll_mk0
  | cons t ts ih =>
    intro vs ds ps hr hlt h
    obtain ⟨v, vs', d, ds', p, q, rfl, rfl, rfl, h1, h2⟩ := trodAll_cons h
    rw [List.all_cons, Bool.and_eq_true, Bool.and_eq_true] at hr
    exact trodAll_cons_mk (Below.trod laidOut hr.1.1 (of_decide_eq_true hr.1.2) h1 hb (fun x hx => hlt x (List.mem_append_left _ hx))) (ih vs' ds' q hr.2 (fun x hx => hlt x (List.mem_append_right _ hx)) h2)

/-- WHAT A LAW's WALK GIVES THE ROW: true, the arguments read as they did. -/
theorem law_post {H : Type} {enc : TypeId × Value → H} {fn : Func} {s : ChangeSpec} {W W' : World} {args : Array Value} {ds gs : List (DataW H)} {before : List MemPlace}
    (hW : DataW.Whole enc Tryd.prog fn.params.toList s.vars false W args.toList ds gs before) (hv : s.vars = []) (hr : (fn.params.toList.all fun t => Tryd.prog.readableRec t && decide (t < Tryd.prog.types.size)) = true) (hrt : fn.resultTypes = #[4])
    (h1 : (s.fn H (ds ++ gs)).results = [.lit (.bool true)]) (h2 : (s.fn H (ds ++ gs)).args = ds) (h3 : (s.fn H (ds ++ gs)).vars = []) (hb : Below W.heap.size W W') :
    s.post enc Tryd.prog fn false true false false W args (.bool true) W' := by
  have hW' := hW
  have hlt := hW.lt
  obtain ⟨p, q, hA, hV, rfl, hfz, hnd⟩ := hW
  refine ⟨ds, gs, p ++ q, [], p, [], hW', ?_, ?_, ?_, hb.frame _, fun h => by cases h⟩
  · rw [h1, hrt]
    exact trodAll_cons_mk (shut_bool Tryd.underlying4 _) trodAll_mk0
  · rw [h2]
    exact trodAll_below hb _ _ _ _ hr (fun x hx => hlt x (List.mem_append_left _ hx)) hA
  · rw [h3, hv]; rfl
end Go.Proofs.YtgbdhmdaefbglaaDoor

namespace Go.Proofs.YtgbdhmdaefbglaaDoor
open Go.ChangeShapes Go.WideShapes Go.ChangeAt Go.RowKit

theorem gPow : Tryd.prog.globalNamed "internal/strconv.uint64pow10" = some 2 := by kernel_rfl
theorem gPowType : (Tryd.prog.globals[2]?).map (·.type) = some 125 := by kernel_rfl
theorem cellsPow : Tryd.prog.cellsOf 125 = 20 := by kernel_rfl
theorem cellsU64 : Tryd.prog.cellsOf 108 = 1 := by kernel_rfl
theorem gNm : Tryd.prog.globalNamed "polder/refusals.names" = some 0 := by kernel_rfl
theorem gNmType : (Tryd.prog.globals[0]?).map (·.type) = some 50 := by kernel_rfl
theorem cellsNm : Tryd.prog.cellsOf 50 = 7 := by kernel_rfl
theorem cellsStr : Tryd.prog.cellsOf 9 = 1 := by kernel_rfl
theorem var_cell {W : World} {name : String} {g : Nat} {cs : Array Value} (hg : Tryd.prog.globalNamed name = some g) (h : W.var? Tryd.prog name = some cs) (i : Nat) : W.cell? ⟨g, i, none⟩ = cs[i]? := World.var?_cell hg h i
theorem gRng : Tryd.prog.globalNamed "strconv.ErrRange" = some 4 := by kernel_rfl
theorem gRngType : (Tryd.prog.globals[4]?).map (·.type) = some 47 := by kernel_rfl
theorem cellsErrS : Tryd.prog.cellsOf 143 = 1 := by kernel_rfl
theorem cellsStrE : Tryd.prog.cellsOf 9 = 1 := by kernel_rfl
theorem starErr : "*" ++ "errors.errorString" = "*errors.errorString" := by decide
theorem rowErr (u : TypeId) (h : Tryd.prog.typeName? 3 u = some "*errors.errorString") : u = 141 :=
  typeName_ptr_named (nm := "errors.errorString") (by rw [starErr]; kernel_rfl) (by kernel_rfl) (by decide) u (by rw [starErr]; exact h)
theorem t5p_of {W : World} (h : laidMetH Tryd.prog [("math/bits.deBruijn32tab", Rows.laid_math_bits_deBruijn32tab), ("math/bits.deBruijn64tab", Rows.laid_math_bits_deBruijn64tab), ("internal/strconv.uint64pow10", Rows.laid_internal_strconv_uint64pow10), ("unicode/utf8.acceptRanges", Rows.laid_unicode_utf8_acceptRanges), ("strconv.ErrRange", Rows.laid_strconv_ErrRange), ("strconv.ErrSyntax", Rows.laid_strconv_ErrSyntax), ("polder/refusals.names", Rows.laid_polder_refusals_names), ("unicode/utf8.first", Rows.laid_unicode_utf8_first)] W) (hsh : W.ShapedOpen Tryd.prog) : T5 W ∧ TW W ∧ ML W := by
  have hh : laidMet Tryd.prog [("math/bits.deBruijn32tab", Rows.laid_math_bits_deBruijn32tab), ("math/bits.deBruijn64tab", Rows.laid_math_bits_deBruijn64tab), ("internal/strconv.uint64pow10", Rows.laid_internal_strconv_uint64pow10), ("unicode/utf8.acceptRanges", Rows.laid_unicode_utf8_acceptRanges), ("strconv.ErrRange", Rows.laid_strconv_ErrRange), ("strconv.ErrSyntax", Rows.laid_strconv_ErrSyntax), ("polder/refusals.names", Rows.laid_polder_refusals_names), ("unicode/utf8.first", Rows.laid_unicode_utf8_first)] W := h
  have hR := laid_sentinel (laidMet.tail (laidMet.tail (laidMet.tail (laidMet.tail hh)))) gRng gRngType Tryd.underlying47 rowErr Tryd.underlying141 Tryd.underlying143 rfl rfl Tryd.underlying9 cellsErrS cellsStrE
  obtain ⟨ps, hl, _⟩ := hh
  obtain ⟨g0, t0, cs0, f0, p0, q0, hg0, ht0, hv0, hd0, ⟨g1, t1, cs1, f1, p1, q1, hg1, ht1, hv1, hd1, ⟨g2, t2, cs2, f2, p2, q2, hg2, ht2, hv2, hd2, ⟨g3, t3, cs3, f3, p3, q3, hg3, ht3, hv3, hd3, ⟨g4, t4, cs4, f4, p4, q4, hg4, ht4, hv4, hd4, ⟨g5, t5, cs5, f5, p5, q5, hg5, ht5, hv5, hd5, ⟨g6, t6, cs6, f6, p6, q6, hg6, ht6, hv6, hd6, ⟨g7, t7, cs7, f7, p7, q7, hg7, ht7, hv7, hd7, _, _⟩, _⟩, _⟩, _⟩, _⟩, _⟩, _⟩, _⟩ := hl
  obtain rfl := Option.some.inj (gPow.symm.trans hg2)
  obtain rfl := Option.some.inj (gPowType.symm.trans ht2)
  obtain rfl := Option.some.inj (gNm.symm.trans hg6)
  obtain rfl := Option.some.inj (gNmType.symm.trans ht6)
  have hpow : Lib.TabIs Tryd.prog W "internal/strconv.uint64pow10" .u64 Lib.pow10Tab := by
    unfold Lib.TabIs
    rw [hv2, ← Lib.cells_of_tab (zs := Lib.pow10Tab) (k := .u64) Tryd.underlying125 Tryd.underlying108 cellsU64 cellsPow hd2]
  refine ⟨⟨hpow, ?_⟩, ⟨hpow, ?_⟩, Tryd.laysM143.s1_3 W hsh⟩
  · have e := cells_of_strs (ss := knames) Tryd.underlying50 Tryd.underlying9 cellsStr cellsNm hd6
    intro k hk
    rw [var_cell gNm hv6, ← Array.getElem?_toList, e]
    match k, hk with
    | 0, _ => rfl
    | 1, _ => rfl
    | 2, _ => rfl
    | 3, _ => rfl
    | 4, _ => rfl
    | 5, _ => rfl
    | 6, _ => rfl
  · obtain ⟨a, _, hv, _⟩ := hR
    exact ⟨_, _, hv⟩
/-- where the error values lie -/
noncomputable def low : Nat := (World.holding Tryd.prog default ⟨#[], #[], []⟩).heap.size
/-- A world for the witness: the settled one, the tables holding what their initialisers lay. -/
noncomputable def laidWorld (os : Os) : World :=
  { World.holding Tryd.prog os ⟨#[.cells #[.string ⟨#[118, 97, 108, 117, 101, 32, 111, 117, 116, 32, 111, 102, 32, 114, 97, 110, 103, 101]⟩] 143, .cells #[.string ⟨#[105, 110, 118, 97, 108, 105, 100, 32, 115, 121, 110, 116, 97, 120]⟩] 143], #[], []⟩ with heap := (((((((((World.holding Tryd.prog os ⟨#[.cells #[.string ⟨#[118, 97, 108, 117, 101, 32, 111, 117, 116, 32, 111, 102, 32, 114, 97, 110, 103, 101]⟩] 143, .cells #[.string ⟨#[105, 110, 118, 97, 108, 105, 100, 32, 115, 121, 110, 116, 97, 120]⟩] 143], #[], []⟩).heap.modify 7 fun
      | .cells _ t frozen => .cells #[.int .u8 0, .int .u8 1, .int .u8 28, .int .u8 2, .int .u8 29, .int .u8 14, .int .u8 24, .int .u8 3, .int .u8 30, .int .u8 22, .int .u8 20, .int .u8 15, .int .u8 25, .int .u8 17, .int .u8 4, .int .u8 8, .int .u8 31, .int .u8 27, .int .u8 13, .int .u8 23, .int .u8 21, .int .u8 19, .int .u8 16, .int .u8 7, .int .u8 26, .int .u8 12, .int .u8 18, .int .u8 6, .int .u8 11, .int .u8 5, .int .u8 10, .int .u8 9] t frozen
      | o => o).modify 8 fun
      | .cells _ t frozen => .cells #[.int .u8 0, .int .u8 1, .int .u8 56, .int .u8 2, .int .u8 57, .int .u8 49, .int .u8 28, .int .u8 3, .int .u8 61, .int .u8 58, .int .u8 42, .int .u8 50, .int .u8 38, .int .u8 29, .int .u8 17, .int .u8 4, .int .u8 62, .int .u8 47, .int .u8 59, .int .u8 36, .int .u8 45, .int .u8 43, .int .u8 51, .int .u8 22, .int .u8 53, .int .u8 39, .int .u8 33, .int .u8 30, .int .u8 24, .int .u8 18, .int .u8 12, .int .u8 5, .int .u8 63, .int .u8 55, .int .u8 48, .int .u8 27, .int .u8 60, .int .u8 41, .int .u8 37, .int .u8 16, .int .u8 46, .int .u8 35, .int .u8 44, .int .u8 21, .int .u8 52, .int .u8 32, .int .u8 23, .int .u8 11, .int .u8 54, .int .u8 26, .int .u8 40, .int .u8 15, .int .u8 34, .int .u8 20, .int .u8 31, .int .u8 10, .int .u8 25, .int .u8 14, .int .u8 19, .int .u8 9, .int .u8 13, .int .u8 8, .int .u8 7, .int .u8 6] t frozen
      | o => o).modify 2 fun
      | .cells _ t frozen => .cells #[.int .u64 1, .int .u64 10, .int .u64 100, .int .u64 1000, .int .u64 10000, .int .u64 100000, .int .u64 1000000, .int .u64 10000000, .int .u64 100000000, .int .u64 1000000000, .int .u64 10000000000, .int .u64 100000000000, .int .u64 1000000000000, .int .u64 10000000000000, .int .u64 100000000000000, .int .u64 1000000000000000, .int .u64 10000000000000000, .int .u64 100000000000000000, .int .u64 1000000000000000000, .int .u64 10000000000000000000] t frozen
      | o => o).modify 6 fun
      | .cells _ t frozen => .cells #[.int .u8 128, .int .u8 191, .int .u8 160, .int .u8 191, .int .u8 128, .int .u8 159, .int .u8 144, .int .u8 191, .int .u8 128, .int .u8 143, .int .u8 0, .int .u8 0, .int .u8 0, .int .u8 0, .int .u8 0, .int .u8 0, .int .u8 0, .int .u8 0, .int .u8 0, .int .u8 0, .int .u8 0, .int .u8 0, .int .u8 0, .int .u8 0, .int .u8 0, .int .u8 0, .int .u8 0, .int .u8 0, .int .u8 0, .int .u8 0, .int .u8 0, .int .u8 0] t frozen
      | o => o).modify 4 fun
      | .cells _ t frozen => .cells #[.iface 141 (.pointer (some ⟨low, 0, none⟩))] t frozen
      | o => o).modify 3 fun
      | .cells _ t frozen => .cells #[.iface 141 (.pointer (some ⟨low + 1, 0, none⟩))] t frozen
      | o => o).modify 0 fun
      | .cells _ t frozen => .cells #[.string ⟨#[114, 101, 115, 101, 114, 118, 101]⟩, .string ⟨#[114, 101, 108, 101, 97, 115, 101]⟩, .string ⟨#[99, 111, 109, 109, 105, 116]⟩, .string ⟨#[100, 101, 99, 111, 109, 109, 105, 116]⟩, .string ⟨#[112, 114, 111, 116, 101, 99, 116]⟩, .string ⟨#[106, 111, 105, 110]⟩, .string ⟨#[115, 112, 108, 105, 116]⟩] t frozen
      | o => o).modify 5 fun
      | .cells _ t frozen => .cells (Go.Pinned.utf8FirstZ.map fun (z : Nat) => Value.int .u8 z).toArray t frozen
      | o => o) }

end Go.Proofs.YtgbdhmdaefbglaaDoor

namespace Go.Proofs.YtgbdhmdaefbglaaDoor.refusalsParses
open Go.ChangeShapes Go.WideShapes Go.ChangeAt Go.RowKit

set_option maxRecDepth 100000 in
theorem contract (H : Type) (enc : TypeId × Value → H) (W : World) (base : Nat) (args : Array Value) (ds gs : List (DataW H)) (before : List MemPlace)
    (hval : ∀ (j : Nat) t v, Tryd.f4.params[j]? = some t → args[j]? = some v → Value.okWide Tryd.prog W .any base t v)
    (hW : DataW.Whole enc Tryd.prog Tryd.f4.params.toList Rows.refusalsParsesSpec.vars false W args.toList ds gs before) (hL : laidMetH Tryd.prog Rows.refusalsParsesRow.laid W) (hsh : W.ShapedOpen Tryd.prog) :
    Calls Tryd.prog 4 args W fun e W' => ∃ v, e = .returned v ∧ Rows.refusalsParsesSpec.post enc Tryd.prog Tryd.f4 false true false false W args v W' := by
  have hW' := hW
  obtain ⟨p, q, hA0, hV, rfl, hfz, hnd⟩ := hW
  have hA : DataW.TrodAll enc Tryd.prog W 0 (fun _ => true) true Tryd.f4.params.toList args.toList ds p := hA0
  rw [Tryd.params4] at hA hval
  obtain ⟨v0, vs0, d0, ds0, p0, q0, hargs, rfl, rfl, h0, r0⟩ := trodAll_cons hA
  obtain ⟨rfl, rfl, rfl⟩ := trodAll_nil r0
  obtain rfl : args = #[v0] := by cases args; simp_all
  obtain ⟨rfl, rfl⟩ := trodVars_none hV
  obtain ⟨s0, rfl⟩ := okWide_string Tryd.underlying9 (hval 0 9 v0 rfl rfl)
  refine (law_parses (s := s0) (t5p_of hL hsh).1 (t5p_of hL hsh).2.1 (t5p_of hL hsh).2.2).mono fun e W' ⟨he, hb⟩ => ?_
  exact ⟨_, he, law_post hW' rfl (by rw [Tryd.params4]; kernel_rfl) rfl rfl rfl rfl hb⟩

theorem laid_met (os : Os) : laidMet Tryd.prog Rows.refusalsParsesRow.laid ((laidWorld os).forCall (fun _ _ => 0) ⟨#[], #[.string ⟨#[]⟩], []⟩).memory :=
  laidMet_of_run' 8 (by kernel_rfl) (by kernel_rfl)
theorem reads (os : Os) {H : Type} (enc : TypeId × Value → H) : ∃ places, DataW.whole enc Tryd.prog ((laidWorld os).forCall (fun _ _ => 0) ⟨#[], #[.string ⟨#[]⟩], []⟩).memory Tryd.f4.params.toList Rows.refusalsParsesSpec.vars false #[Value.string ⟨#[]⟩].toList 8 = some ([.lit (.string [])], [], places) :=
  ⟨[], by kernel_rfl⟩

set_option maxRecDepth 100000 in
theorem lifted (os : Os) (started : os.Started) (H : Type) (enc : TypeId × Value → H) (F : Stop.Interp) :
    ReturnsInHanded {} Tryd.checked os 4 .any ((OpenSpec.ofChange Rows.refusalsParsesSpec).preRow enc Tryd.prog Tryd.f4 Rows.refusalsParsesRow.domain false Rows.refusalsParsesRow.laid) (((OpenSpec.ofChange Rows.refusalsParsesSpec).at F).post enc Tryd.prog Tryd.f4 false true false false) := by
  obtain ⟨places, hx⟩ := reads os enc
  refine returnsInHanded_of_row (C := Tryd.checked) (s := OpenSpec.ofChange Rows.refusalsParsesSpec) own started (by kernel_rfl) Tryd.func4
    (witness_row_at (enc := enc) (C := Tryd.checked) false (laidWorld os) #[.string ⟨#[]⟩] rfl (by kernel_rfl) (by kernel_rfl) (by kernel_rfl)
      (OpenSpec.preRow_of_cond 8 hx (by kernel_rfl) (fun k hk => by cases hk) (by kernel_rfl) (laid_met os))) ?_
  intro W base args ds gs before hval hW _ _ _ hL hsh _
  exact contract H enc W base args ds gs before hval hW hL hsh

theorem said : Rows.RefusalsParsesSaid :=
  OpenClaim.holds_of_cond 4 Tryd.f4 rfl rfl rfl rfl rfl rfl rfl ⟨rfl, rfl, rfl, rfl, rfl⟩ rfl rfl rfl rfl rfl (by kernel_rfl) Tryd.func4 (by kernel_rfl)
    (of_decide_eq_true (by kernel_rfl)) (by unfold Func.isWrapper; first | (rw [if_pos (by decide +kernel)]; kernel_rfl) | (rw [if_neg (by decide +kernel)]; exact ⟨rfl, rfl⟩))
    (fun os started H enc _ F => by rw [OpenClaim.pre_eq_preRow]; exact lifted os started H enc F)

theorem plain (f : FuncId) (fn : Func) (hf : Tryd.pinned.checked.prog.funcNamed "polder/polderlaw05.RefusalsParses" = some f) (hfn : Tryd.pinned.checked.prog.funcs[f]? = some fn) :
    true = Tryd.pinned.checked.prog.looks [] ∧ ∀ (j : Nat) t, fn.params[j]? = some t → Tryd.pinned.checked.prog.wantsStandIn t = false := by
  obtain rfl : f = 4 := Option.some.inj ((show Tryd.prog.funcNamed "polder/polderlaw05.RefusalsParses" = some 4 by kernel_rfl).symm.trans hf) |>.symm
  obtain rfl : fn = Tryd.f4 := (Option.some.inj (Tryd.func4.symm.trans hfn)).symm
  refine ⟨by kernel_rfl, fun j t ht => ?_⟩
  rw [Tryd.params4] at ht
  have hm : t ∈ [9] := by simpa using Array.mem_of_getElem? ht
  have hall : ([9].all fun u => !Tryd.prog.wantsStandIn u) = true := by kernel_rfl
  exact (show Tryd.prog.wantsStandIn t = false by simpa using List.all_eq_true.1 hall t hm)

/-- THE CARD. -/
theorem card : Rows.RefusalsParsesCardSaid :=
  Claim7.holds_tied_plain_at .later [] _ _ _ _ said (fun _ h => by cases h) (by kernel_rfl) (fun _ h => by cases h) refusalsParses_row_tie rfl ⟨rfl, rfl⟩ (by kernel_rfl) rfl plain (by kernel_rfl)
#print axioms card
end Go.Proofs.YtgbdhmdaefbglaaDoor.refusalsParses
