/- The radix map: take, grow. -/
import Derived.Test.YtfmclbacoffdaaaDoorR7A
import Derived.Test.YtfmclbacoffdaaaDoorR7MemC
import Derived.Deep.RegionWith
import Derived.Test.YtfmclbacoffdaaaDoorR7Calls
import Derived.Deep.MidRow
import Derived.Deep.Cut
namespace Go.Proofs.YtfmclbacoffdaaaDoor
open Go.RowKit Go.Sort Go.Joins
attribute [local go_sem] cell_grow frozen_grow size_grow
section
variable {w : World} {B p q : Nat} {st : List Nd} {m : Nat} {r : Nat → Bool}
set_option maxRecDepth 100000 in
set_option maxHeartbeats 1600000 in
theorem take_ok (h : TM w B p q st m r) (hB : B ≤ w.heap.size) {i : Nat} (hi : i < st.length) (l : Int) (hm : m ≤ 100000) :
    Calls Tryd.prog 44 #[.pointer (some ⟨p, 0, none⟩), .int .i64 i, .int .i64 l] w fun e w' => e = .returned (.tuple #[]) ∧ TM w' B p q (st.set i (nd0 l)) (m + 1) (filled r i (i + 1) true) ∧ Fr p q w w' := by
  have c0 := h.c0
  have n2 := h.n2
  have fq := h.fq
  have lq := h.lq
  have i0 : (0 : Int) ≤ (i : Int) := by omega
  have i1 : (i : Int) < (st.length : Int) := by omega
  have hwr : IntKind.i64.wrap ((i : Int) + 1) = (i : Int) + 1 := IntWalk.i64_in _ (by omega)
  have H := Lib.hid h
  have ht : w.there q (i * 26) (ndc (nd0 l)).toArray.size := fun j hj => ⟨by rw [h.at_ hi (by simpa [ndc_length] using hj), List.getElem?_eq_getElem (by rw [ndc_length]; simpa [ndc_length] using hj)]; rfl, fq _⟩
  have HT := Lib.hid ht
  have HI : Hid ((Tryd.prog.info? 90).map (·.size) = some (ndc (nd0 l)).toArray.size) := Lib.hid (by rw [List.size_toArray, ndc_length]; kernel_rfl)
  have H1 := Lib.hid (all_oneCell_toArray (ndc_one (nd0 l)))
  clear h ht
  go_enter Tryd.func44, Tryd.ntmps44
  go_upto_region 1 with (refine wpList_store_mid rfl 90 (.tmp 13) (.tmp 12) rfl q (i * 26) (ndc (nd0 l)).toArray rfl rfl HT.out HI.out H1.out ?_)
  have HT1 := Lib.hid (H.out.node hi (nd0 l))
  have HF1 : Hid (Fr p q w (w.setCells q (i * 26) (ndc (nd0 l)))) := Lib.hid (Fr.setsQ _ _ _)
  have hB1 : B ≤ (w.setCells q (i * 26) (ndc (nd0 l))).heap.size := Nat.le_trans hB HF1.out.size
  have hl1 : (st.set i (nd0 l)).length = st.length := List.length_set
  obtain ⟨W1, hW1⟩ : ∃ W, w.setCells q (i * 26) (ndc (nd0 l)) = W := ⟨_, rfl⟩
  rw [hW1] at HT1 HF1 hB1 ⊢
  have hL1 := Lib.hid hl1
  clear hW1 c0 fq lq HT HI H1 H hB hl1
  have k1 := HT1.out.c1
  obtain ⟨ra, rcap, k2, hsl⟩ := HT1.out.c2
  have k3 := HT1.out.c3
  have hc := HT1.out.chk0
  have fp := HT1.out.fp
  have lp := HT1.out.lp
  rw [hL1.out] at k1 k2 hsl hc
  have HF := Lib.hid (bSet_ok st.length i (i + 1) true ra ((st.length + 63) / 64) rcap _ W1 hsl (pack_lt _ _) hc (by omega) (by omega))
  have e1 : ((i + 1 : Nat) : Int) = (i : Int) + 1 := by omega
  rw [e1] at HF
  clear hsl hc e1
  go_wp2_with fail
  refine HF.out.mono ?_
  rintro e w2 ⟨a', cap', rfl, hown, hbl⟩
  have hN := HT1.out.noted (i := i) (b := true) (by rw [hL1.out]; exact hi) hB1 hbl (by rw [hL1.out]; exact hown)
  rw [hL1.out] at hN
  have p1 : w2.cell? ⟨p, 1, none⟩ = some (.int .i64 (st.length : Int)) := cell_later hbl k1
  have p2 : w2.cell? ⟨p, 2, none⟩ = some (.slice ra ((st.length + 63) / 64) rcap) := cell_later hbl k2
  have p3 : w2.cell? ⟨p, 3, none⟩ = some (.int .i64 (m : Int)) := cell_later hbl k3
  have pf : ∀ j, w2.frozen? ⟨p, j, none⟩ = false := fun j => (hbl.frozen (p := ⟨p, j, none⟩) lp).trans (fp j)
  have hwm : IntKind.i64.wrap ((m : Int) + 1) = (m : Int) + 1 := IntWalk.i64_in _ (by omega)
  have hM := hN.1.many (m + 1)
  rw [show ((m + 1 : Nat) : Int) = (m : Int) + 1 by omega] at hM
  have HM := Lib.hid hM
  have HFM := Lib.hid (HF1.out.trans (hN.2.trans (Fr.setP _ 3 (.int .i64 ((m : Int) + 1)))))
  clear hN hM hown hbl k1 k2 k3 fp
  go_wp2
  go_end0
  exact ⟨rfl, HM.out, HFM.out⟩
/-- one cell of a node is stored, read back -/
theorem TM.cellS (h : TM w B p q st m r) {i j : Nat} {v : Value} {y : Nd} (hi : i < st.length) (hj : j < 26) (hy : (ndc (st.getD i ndZ)).set j v = ndc y) :
    TM (w.setCell ⟨q, i * 26 + j, none⟩ v) B p q (st.set i y) m r ∧ Fr p q w (w.setCell ⟨q, i * 26 + j, none⟩ v) := ⟨h.cell hi hj hy, Fr.setQ _ _ _⟩
set_option maxRecDepth 100000 in
set_option maxHeartbeats 1600000 in
theorem grow_ok (hT : Tab w) {X : RM} (h : TM w B p q X.st X.m X.r) (hB : B ≤ w.heap.size) {i k : Nat} (hi : i < X.st.length) (hk : k < 16) (hf : frI X < X.st.length) (hne : frI X ≠ i) (hl0 : -1 ≤ (X.N i).lv) (hl1 : (X.N i).lv ≤ 2) (hmn : (X.N i).mn ≤ 1000) (hm : X.m ≤ 100000) :
    Calls Tryd.prog 55 #[.pointer (some ⟨p, 0, none⟩), .int .i64 i, .int .i64 k] w fun e w' => e = .returned (.int .i64 (frI X)) ∧ TM w' B p q (growM X i k).st (growM X i k).m (growM X i k).r ∧ Fr p q w w' := by
  have hN := next_tm h
  have hfr : nxt (fun i => !X.r i) 0 X.st.length = frI X := rfl
  rw [hfr, if_pos hf, if_pos hf] at hN
  obtain ⟨ra, rcap, c2, hsl⟩ := h.c2
  have c1 := h.c1
  have n2 := h.n2
  have HX := Lib.hid (bNext_ok X.st.length 0 false ra ((X.st.length + 63) / 64) rcap _ w hT hsl (pack_lt _ _) (by omega))
  have HN := Lib.hid hN
  have H := Lib.hid h
  have i0 : (0 : Int) ≤ (i : Int) := by omega
  have i1 : (i : Int) < (X.st.length : Int) := by omega
  have k0 : (0 : Int) ≤ (k : Int) := by omega
  have k1 : (k : Int) < 16 := by omega
  obtain ⟨lv, hlv⟩ : ∃ lv, (X.N i).lv = lv := ⟨_, rfl⟩
  rw [hlv] at hl0 hl1
  have HLV := Lib.hid hlv
  obtain ⟨f, hff⟩ : ∃ f, frI X = f := ⟨_, rfl⟩
  rw [hff] at HN hf hne ⊢
  have HFF := Lib.hid hff
  have HNE := Lib.hid hne
  have hwl : IntKind.i64.wrap (lv + 1) = lv + 1 := IntWalk.i64_in _ (by omega)
  clear hN h hsl hfr hlv hff hne
  go_enter Tryd.func55, Tryd.ntmps55
  go_wp2_with fail
  refine HX.out.mono ?_
  rintro e w1 ⟨rfl, b1⟩
  rw [HN.out.1, HN.out.2]
  have H1 := Lib.hid (H.out.below b1)
  have HF1 := Lib.hid (Fr.of_below (p := p) (q := q) b1)
  have hB1 : B ≤ w1.heap.size := Nat.le_trans hB b1.size
  have d0 := H1.out.c0
  have s0 := H1.out.lv hi
  have e0 : (X.st.getD i ndZ).lv = lv := HLV.out
  rw [e0] at s0
  clear b1 c1 c2 HX e0
  go_wp2_with fail
  refine (take_ok H1.out hB1 hf (lv + 1) hm).mono ?_
  clear d0 s0
  rintro e w2 ⟨rfl, h2, f2⟩
  have H2 := Lib.hid h2
  have HF2 := Lib.hid (HF1.out.trans f2)
  have hi2 : i < (X.st.set f (nd0 (lv + 1))).length := by rw [List.length_set]; exact hi
  have d0 := h2.c0
  rw [List.length_set] at d0
  have s1 := h2.kd hi2 hk
  have fq := h2.fq
  have lq := h2.lq
  clear h2 f2
  have hx : (X.st.set f (nd0 (lv + 1))).getD i ndZ = X.N i := by rw [N_set hf, if_neg (fun e => HNE.out e.symm)]
  rw [hx] at s1
  have h3 := H2.out.cellS hi2 (j := 2 + k) (y := { X.N i with kd := upd (X.N i).kd k f }) (by omega) (by rw [hx]; exact ndc_setKd (X.N i) hk f)
  rw [← Nat.add_assoc] at h3
  have HT3 := Lib.hid h3.1
  have HF3 := Lib.hid (HF2.out.trans h3.2)
  clear h3
  go_upto_region 4 with fail
  obtain ⟨w3, hw3⟩ : ∃ W, w2.setCell ⟨q, i * 26 + 2 + k, none⟩ (.int .i64 (f : Int)) = W := ⟨_, rfl⟩
  rw [hw3] at HT3 HF3 ⊢
  clear hw3 d0 s1 fq lq H2 HF2 H1 HF1 hi2
  have hi3 : i < ((X.st.set f (nd0 (lv + 1))).set i { X.N i with kd := upd (X.N i).kd k f }).length := by rw [List.length_set, List.length_set]; exact hi
  have hx3 : ((X.st.set f (nd0 (lv + 1))).set i { X.N i with kd := upd (X.N i).kd k f }).getD i ndZ = { X.N i with kd := upd (X.N i).kd k f } := by rw [N_set (by rw [List.length_set]; exact hi), if_pos rfl]
  have d0 := HT3.out.c0
  rw [List.length_set, List.length_set] at d0
  have s2 := HT3.out.mn hi3
  rw [hx3] at s2
  dsimp only at s2
  have fq := HT3.out.fq
  have lq := HT3.out.lq
  obtain ⟨mm, hmm⟩ : ∃ z, (X.N i).mn = z := ⟨_, rfl⟩
  rw [hmm] at hmn
  have e2 : (X.st.getD i ndZ).mn = mm := hmm
  rw [e2] at s2
  have hwm : IntKind.i64.wrap ((mm : Int) + 1) = (mm : Int) + 1 := IntWalk.i64_in _ (by omega)
  have h4 := HT3.out.cellS hi3 (j := 1) (y := { X.N i with kd := upd (X.N i).kd k f, mn := mm + 1 }) (by omega) (by rw [hx3]; exact ndc_setMn _ (mm + 1))
  rw [show ((mm + 1 : Nat) : Int) = (mm : Int) + 1 by omega] at h4
  have HT4 := Lib.hid h4.1
  have HF4 := Lib.hid (HF3.out.trans h4.2)
  have HMM := Lib.hid hmm
  clear h4 hx hx3 e2 hmm
  go_wp2
  go_ret
  refine ⟨rfl, ?_, HF4.out⟩
  have hg : (growM X i k).st = ((X.st.set f (nd0 (lv + 1))).set i { X.N i with kd := upd (X.N i).kd k f }).set i { X.N i with kd := upd (X.N i).kd k f, mn := mm + 1 } := by
    have e1 : (X.st.set f (nd0 (lv + 1))).getD i ndZ = X.N i := by rw [N_set hf, if_neg (fun e => HNE.out e.symm)]
    unfold growM
    dsimp only
    have e2 : (X.st.getD i ndZ).lv = lv := HLV.out
    rw [HFF.out, e2, e1, List.set_set]
    unfold kidN
    rw [HMM.out, show (X.N i).lv = lv from HLV.out]
  have hr : (growM X i k).r = filled X.r f (f + 1) true := by rw [← HFF.out]; rfl
  rw [hg, hr]
  exact HT4.out
end
end Go.Proofs.YtfmclbacoffdaaaDoor
