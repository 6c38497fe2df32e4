/- The radix map in memory: a whole node is stored. | The radix map: take, grow. | The radix map: needed. | The radix map, plain: packing by bits. | The radix map: Pack and Unpack, of the program and of the reference. -/
import Derived.Test.YtfmclbacoffdaaaDoorRZ4
import Derived.Laws.IdiomCopy
import Derived.Deep.Upon
import Derived.Test.YtfmclbacoffdaaaDoorRZ6
import Derived.Deep.RegionWith
import Derived.Deep.MidRow
import Derived.Deep.Cut
import Derived.Laws.BitsAllLaws
import Derived.Test.YtfmclbacoffdaaaDoorRZ3
namespace Go.Proofs.YtfmclbacoffdaaaDoor
open Go.RowKit Go.Sort Go.Joins
theorem setCells_list {g : Nat} {t : TypeId} : ∀ (vs : List Value) (o : Nat) (l : List Value) (w : World), w.heap[g]? = some (.cells l.toArray t (0, 0)) → o + vs.length ≤ l.length → (w.setCells g o vs).heap[g]? = some (.cells (l.take o ++ vs ++ l.drop (o + vs.length)).toArray t (0, 0))
  | [], o, l, w, h, _ => by
    simp only [World.setCells, List.append_nil, List.length_nil, Nat.add_zero, List.take_append_drop]
    exact h
  | v :: r, o, l, w, h, hl => by
    have h1 := setCell_block h (i := o) v
    have e1 : l.toArray.setIfInBounds o v = (l.set o v).toArray := by simp
    rw [e1] at h1
    have hl' : o + 1 + r.length ≤ (l.set o v).length := by simp only [List.length_set, List.length_cons] at *; omega
    have h2 := setCells_list r (o + 1) (l.set o v) (w.setCell ⟨g, o, none⟩ v) h1 hl'
    simp only [World.setCells]
    rw [h2]
    simp only [List.length_cons] at hl ⊢
    have ho : o < l.length := by omega
    have e2 : (l.set o v).take (o + 1) = l.take o ++ [v] := by
      rw [List.take_add_one, List.getElem?_set_self ho, List.take_set_of_le (Nat.le_refl _)]
      rfl
    have e3 : (l.set o v).drop (o + 1 + r.length) = l.drop (o + (r.length + 1)) := by
      rw [List.drop_set_of_lt (by omega), show o + 1 + r.length = o + (r.length + 1) by omega]
    rw [e2, e3, List.append_assoc (l.take o) [v] r]
    rfl
theorem ndc_one (x : Nd) : ∀ v ∈ ndc x, v.oneCell' = true := by
  intro v hv
  unfold ndc at hv
  simp only [List.mem_append, List.mem_cons, List.mem_map, List.not_mem_nil, or_false] at hv
  rcases hv with ((rfl | rfl) | ⟨k, _, rfl⟩) | ⟨k, _, rfl⟩ <;> rfl
theorem ndCells_put (d y : Nd) : ∀ (st : List Nd) (i : Nat), i < st.length → (ndCells st).take (i * 26) ++ ndc y ++ (ndCells st).drop (i * 26 + 26) = ndCells (st.set i y)
  | [], i, h => by simp at h
  | x :: l, 0, _ => by
    unfold ndCells
    rw [List.flatMap_cons, List.set_cons_zero, List.flatMap_cons, Nat.zero_mul, List.take_zero, List.nil_append, Nat.zero_add]
    rw [show (26 : Nat) = (ndc x).length from (ndc_length x).symm, List.drop_left]
  | x :: l, i + 1, h => by
    have ih := ndCells_put d y l i (by simpa using h)
    unfold ndCells at ih ⊢
    rw [List.flatMap_cons, List.set_cons_succ, List.flatMap_cons, ← ih]
    have e1 : (i + 1) * 26 = (ndc x).length + i * 26 := by rw [ndc_length]; omega
    rw [e1, List.take_append, List.drop_append]
    have e2 : (ndc x).length + i * 26 - (ndc x).length = i * 26 := by omega
    have e3 : (ndc x).length + i * 26 + 26 - (ndc x).length = i * 26 + 26 := by omega
    rw [e2, e3, List.take_of_length_le (by omega), List.drop_of_length_le (show (ndc x).length ≤ (ndc x).length + i * 26 + 26 by omega)]
    simp
theorem ownsRow_setCells_other {base : Nat} {e : TypeId} {v : Value} {n : Nat} {xs : List Value} {g : Nat} : ∀ (vs : List Value) (o : Nat) (w : World), w.ownsRow base e 1 v n xs → v.ownBlock ≠ some g → (w.setCells g o vs).ownsRow base e 1 v n xs
  | [], _, _, h, _ => h
  | u :: r, o, w, h, hne => ownsRow_setCells_other r (o + 1) _ (ownsRow_setCell_other h (a := ⟨g, o, none⟩) hne u) hne
theorem Fr.setsQ {p q : Nat} : ∀ (vs : List Value) (o : Nat) (w : World), Fr p q w (w.setCells q o vs)
  | [], _, w => Fr.refl p q w
  | v :: r, o, w => (Fr.setQ w o v).trans (Fr.setsQ r (o + 1) _)
section
variable {w : World} {B p q : Nat} {st : List Nd} {m : Nat} {r : Nat → Bool}
/-- a node is stored -/
theorem TM.node (h : TM w B p q st m r) {i : Nat} (hi : i < st.length) (y : Nd) : TM (w.setCells q (i * 26) (ndc y)) B p q (st.set i y) m r := by
  obtain ⟨ra, rcap, h1, h2⟩ := h.tbl
  have o1 := own_ne h2 h.nodes u_node
  have hne := h.ne
  have hL := ndCells_length st
  refine ⟨h.hp, h.hq, h.ne, by simpa using h.n1, by simpa using h.n2, ⟨ra, rcap, ?_, ?_⟩, ?_, by simpa using h.rb⟩
  · rw [List.length_set, World.heap_setCells_other w q (i * 26) (ndc y) (blk_lt h1) hne]; exact h1
  · rw [List.length_set]
    exact ownsRow_setCells_other _ _ _ h2 o1
  · rw [setCells_list (ndc y) (i * 26) (ndCells st) w h.nodes (by rw [ndc_length, hL]; omega), ndc_length, ndCells_put ndZ y st i hi]
/-- .. as Set leaves the bits -/
theorem TM.noted {w' : World} {ra' : Option Addr} {rcap' i : Nat} {b : Bool} (h : TM w B p q st m r) (hi : i < st.length) (hB : B ≤ w.heap.size) (hb : Below w.heap.size w w')
    (ho : w'.ownsRow w.heap.size 24 1 (.slice ra' ((st.length + 63) / 64) rcap') ((st.length + 63) / 64) (u64s (pack (filled (bat (pack r ((st.length + 63) / 64))) i (i + 1) b) ((st.length + 63) / 64)))) :
    TM ((w'.setCell ⟨p, 1, none⟩ (.int .i64 (st.length : Int))).setCell ⟨p, 2, none⟩ (.slice ra' ((st.length + 63) / 64) rcap')) B p q st m (filled r i (i + 1) b) ∧
    Fr p q w ((w'.setCell ⟨p, 1, none⟩ (.int .i64 (st.length : Int))).setCell ⟨p, 2, none⟩ (.slice ra' ((st.length + 63) / 64) rcap')) := by
  rw [pack_filled] at ho
  refine ⟨h.taken hb (ownsRow_le ho hB) fun j hj => ?_, ((Fr.of_below hb).trans (Fr.setP _ _ _)).trans (Fr.setP _ _ _)⟩
  unfold filled
  rw [if_neg (by omega)]
  exact h.rb j hj
end
end Go.Proofs.YtfmclbacoffdaaaDoor

namespace Go.Proofs.YtfmclbacoffdaaaDoor
open Go.RowKit Go.Sort Go.Joins
attribute [local go_sem] cell_grow frozen_grow size_grow
section
variable {w : World} {B p q : Nat} {st : List Nd} {m : Nat} {r : Nat → Bool}
set_option maxRecDepth 100000 in
set_option maxHeartbeats 1600000 in
theorem take_ok (h : TM w B p q st m r) (hB : B ≤ w.heap.size) {i : Nat} (hi : i < st.length) (l : Int) (hm : m ≤ 100000) :
    Calls Tryd.prog 44 #[.pointer (some ⟨p, 0, none⟩), .int .i64 i, .int .i64 l] w fun e w' => e = .returned (.tuple #[]) ∧ TM w' B p q (st.set i (nd0 l)) (m + 1) (filled r i (i + 1) true) ∧ Fr p q w w' := by
  have c0 := h.c0
  have n2 := h.n2
  have fq := h.fq
  have lq := h.lq
  have i0 : (0 : Int) ≤ (i : Int) := by omega
  have i1 : (i : Int) < (st.length : Int) := by omega
  have hwr : IntKind.i64.wrap ((i : Int) + 1) = (i : Int) + 1 := IntWalk.i64_in _ (by omega)
  have H := Lib.hid h
  have ht : w.there q (i * 26) (ndc (nd0 l)).toArray.size := fun j hj => ⟨by rw [h.at_ hi (by simpa [ndc_length] using hj), List.getElem?_eq_getElem (by rw [ndc_length]; simpa [ndc_length] using hj)]; rfl, fq _⟩
  have HT := Lib.hid ht
  have HI : Hid ((Tryd.prog.info? 90).map (·.size) = some (ndc (nd0 l)).toArray.size) := Lib.hid (by rw [List.size_toArray, ndc_length]; kernel_rfl)
  have H1 := Lib.hid (all_oneCell_toArray (ndc_one (nd0 l)))
  clear h ht
  go_enter Tryd.func44, Tryd.ntmps44
  go_upto_region 1 with (refine wpList_store_mid rfl 90 (.tmp 13) (.tmp 12) rfl q (i * 26) (ndc (nd0 l)).toArray rfl rfl HT.out HI.out H1.out ?_)
  have HT1 := Lib.hid (H.out.node hi (nd0 l))
  have HF1 : Hid (Fr p q w (w.setCells q (i * 26) (ndc (nd0 l)))) := Lib.hid (Fr.setsQ _ _ _)
  have hB1 : B ≤ (w.setCells q (i * 26) (ndc (nd0 l))).heap.size := Nat.le_trans hB HF1.out.size
  have hl1 : (st.set i (nd0 l)).length = st.length := List.length_set
  obtain ⟨W1, hW1⟩ : ∃ W, w.setCells q (i * 26) (ndc (nd0 l)) = W := ⟨_, rfl⟩
  rw [hW1] at HT1 HF1 hB1 ⊢
  have hL1 := Lib.hid hl1
  clear hW1 c0 fq lq HT HI H1 H hB hl1
  have k1 := HT1.out.c1
  obtain ⟨ra, rcap, k2, hsl⟩ := HT1.out.c2
  have k3 := HT1.out.c3
  have hc := HT1.out.chk0
  have fp := HT1.out.fp
  have lp := HT1.out.lp
  rw [hL1.out] at k1 k2 hsl hc
  have HF := Lib.hid (bSet_ok st.length i (i + 1) true ra ((st.length + 63) / 64) rcap _ W1 hsl (pack_lt _ _) hc (by omega) (by omega))
  have e1 : ((i + 1 : Nat) : Int) = (i : Int) + 1 := by omega
  rw [e1] at HF
  clear hsl hc e1
  go_wp2_with fail
  refine HF.out.mono ?_
  rintro e w2 ⟨a', cap', rfl, hown, hbl⟩
  have hN := HT1.out.noted (i := i) (b := true) (by rw [hL1.out]; exact hi) hB1 hbl (by rw [hL1.out]; exact hown)
  rw [hL1.out] at hN
  have p1 : w2.cell? ⟨p, 1, none⟩ = some (.int .i64 (st.length : Int)) := cell_later hbl k1
  have p2 : w2.cell? ⟨p, 2, none⟩ = some (.slice ra ((st.length + 63) / 64) rcap) := cell_later hbl k2
  have p3 : w2.cell? ⟨p, 3, none⟩ = some (.int .i64 (m : Int)) := cell_later hbl k3
  have pf : ∀ j, w2.frozen? ⟨p, j, none⟩ = false := fun j => (hbl.frozen (p := ⟨p, j, none⟩) lp).trans (fp j)
  have hwm : IntKind.i64.wrap ((m : Int) + 1) = (m : Int) + 1 := IntWalk.i64_in _ (by omega)
  have hM := hN.1.many (m + 1)
  rw [show ((m + 1 : Nat) : Int) = (m : Int) + 1 by omega] at hM
  have HM := Lib.hid hM
  have HFM := Lib.hid (HF1.out.trans (hN.2.trans (Fr.setP _ 3 (.int .i64 ((m : Int) + 1)))))
  clear hN hM hown hbl k1 k2 k3 fp
  go_wp2
  go_end0
  exact ⟨rfl, HM.out, HFM.out⟩
/-- one cell of a node is stored, read back -/
theorem TM.cellS (h : TM w B p q st m r) {i j : Nat} {v : Value} {y : Nd} (hi : i < st.length) (hj : j < 26) (hy : (ndc (st.getD i ndZ)).set j v = ndc y) :
    TM (w.setCell ⟨q, i * 26 + j, none⟩ v) B p q (st.set i y) m r ∧ Fr p q w (w.setCell ⟨q, i * 26 + j, none⟩ v) := ⟨h.cell hi hj hy, Fr.setQ _ _ _⟩
set_option maxRecDepth 100000 in
set_option maxHeartbeats 1600000 in
theorem grow_ok (hT : Tab w) {X : RM} (h : TM w B p q X.st X.m X.r) (hB : B ≤ w.heap.size) {i k : Nat} (hi : i < X.st.length) (hk : k < 16) (hf : frI X < X.st.length) (hne : frI X ≠ i) (hl0 : -1 ≤ (X.N i).lv) (hl1 : (X.N i).lv ≤ 2) (hmn : (X.N i).mn ≤ 1000) (hm : X.m ≤ 100000) :
    Calls Tryd.prog 55 #[.pointer (some ⟨p, 0, none⟩), .int .i64 i, .int .i64 k] w fun e w' => e = .returned (.int .i64 (frI X)) ∧ TM w' B p q (growM X i k).st (growM X i k).m (growM X i k).r ∧ Fr p q w w' := by
  have hN := next_tm h
  have hfr : nxt (fun i => !X.r i) 0 X.st.length = frI X := rfl
  rw [hfr, if_pos hf, if_pos hf] at hN
  obtain ⟨ra, rcap, c2, hsl⟩ := h.c2
  have c1 := h.c1
  have n2 := h.n2
  have HX := Lib.hid (bNext_ok X.st.length 0 false ra ((X.st.length + 63) / 64) rcap _ w hT hsl (pack_lt _ _) (by omega))
  have HN := Lib.hid hN
  have H := Lib.hid h
  have i0 : (0 : Int) ≤ (i : Int) := by omega
  have i1 : (i : Int) < (X.st.length : Int) := by omega
  have k0 : (0 : Int) ≤ (k : Int) := by omega
  have k1 : (k : Int) < 16 := by omega
  obtain ⟨lv, hlv⟩ : ∃ lv, (X.N i).lv = lv := ⟨_, rfl⟩
  rw [hlv] at hl0 hl1
  have HLV := Lib.hid hlv
  obtain ⟨f, hff⟩ : ∃ f, frI X = f := ⟨_, rfl⟩
  rw [hff] at HN hf hne ⊢
  have HFF := Lib.hid hff
  have HNE := Lib.hid hne
  have hwl : IntKind.i64.wrap (lv + 1) = lv + 1 := IntWalk.i64_in _ (by omega)
  clear hN h hsl hfr hlv hff hne
  go_enter Tryd.func55, Tryd.ntmps55
  go_wp2_with fail
  refine HX.out.mono ?_
  rintro e w1 ⟨rfl, b1⟩
  rw [HN.out.1, HN.out.2]
  have H1 := Lib.hid (H.out.below b1)
  have HF1 := Lib.hid (Fr.of_below (p := p) (q := q) b1)
  have hB1 : B ≤ w1.heap.size := Nat.le_trans hB b1.size
  have d0 := H1.out.c0
  have s0 := H1.out.lv hi
  have e0 : (X.st.getD i ndZ).lv = lv := HLV.out
  rw [e0] at s0
  clear b1 c1 c2 HX e0
  go_wp2_with fail
  refine (take_ok H1.out hB1 hf (lv + 1) hm).mono ?_
  clear d0 s0
  rintro e w2 ⟨rfl, h2, f2⟩
  have H2 := Lib.hid h2
  have HF2 := Lib.hid (HF1.out.trans f2)
  have hi2 : i < (X.st.set f (nd0 (lv + 1))).length := by rw [List.length_set]; exact hi
  have d0 := h2.c0
  rw [List.length_set] at d0
  have s1 := h2.kd hi2 hk
  have fq := h2.fq
  have lq := h2.lq
  clear h2 f2
  have hx : (X.st.set f (nd0 (lv + 1))).getD i ndZ = X.N i := by rw [N_set hf, if_neg (fun e => HNE.out e.symm)]
  rw [hx] at s1
  have h3 := H2.out.cellS hi2 (j := 2 + k) (y := { X.N i with kd := upd (X.N i).kd k f }) (by omega) (by rw [hx]; exact ndc_setKd (X.N i) hk f)
  rw [← Nat.add_assoc] at h3
  have HT3 := Lib.hid h3.1
  have HF3 := Lib.hid (HF2.out.trans h3.2)
  clear h3
  go_upto_region 4 with fail
  obtain ⟨w3, hw3⟩ : ∃ W, w2.setCell ⟨q, i * 26 + 2 + k, none⟩ (.int .i64 (f : Int)) = W := ⟨_, rfl⟩
  rw [hw3] at HT3 HF3 ⊢
  clear hw3 d0 s1 fq lq H2 HF2 H1 HF1 hi2
  have hi3 : i < ((X.st.set f (nd0 (lv + 1))).set i { X.N i with kd := upd (X.N i).kd k f }).length := by rw [List.length_set, List.length_set]; exact hi
  have hx3 : ((X.st.set f (nd0 (lv + 1))).set i { X.N i with kd := upd (X.N i).kd k f }).getD i ndZ = { X.N i with kd := upd (X.N i).kd k f } := by rw [N_set (by rw [List.length_set]; exact hi), if_pos rfl]
  have d0 := HT3.out.c0
  rw [List.length_set, List.length_set] at d0
  have s2 := HT3.out.mn hi3
  rw [hx3] at s2
  dsimp only at s2
  have fq := HT3.out.fq
  have lq := HT3.out.lq
  obtain ⟨mm, hmm⟩ : ∃ z, (X.N i).mn = z := ⟨_, rfl⟩
  rw [hmm] at hmn
  have e2 : (X.st.getD i ndZ).mn = mm := hmm
  rw [e2] at s2
  have hwm : IntKind.i64.wrap ((mm : Int) + 1) = (mm : Int) + 1 := IntWalk.i64_in _ (by omega)
  have h4 := HT3.out.cellS hi3 (j := 1) (y := { X.N i with kd := upd (X.N i).kd k f, mn := mm + 1 }) (by omega) (by rw [hx3]; exact ndc_setMn _ (mm + 1))
  rw [show ((mm + 1 : Nat) : Int) = (mm : Int) + 1 by omega] at h4
  have HT4 := Lib.hid h4.1
  have HF4 := Lib.hid (HF3.out.trans h4.2)
  have HMM := Lib.hid hmm
  clear h4 hx hx3 e2 hmm
  go_wp2
  go_ret
  refine ⟨rfl, ?_, HF4.out⟩
  have hg : (growM X i k).st = ((X.st.set f (nd0 (lv + 1))).set i { X.N i with kd := upd (X.N i).kd k f }).set i { X.N i with kd := upd (X.N i).kd k f, mn := mm + 1 } := by
    have e1 : (X.st.set f (nd0 (lv + 1))).getD i ndZ = X.N i := by rw [N_set hf, if_neg (fun e => HNE.out e.symm)]
    unfold growM
    dsimp only
    have e2 : (X.st.getD i ndZ).lv = lv := HLV.out
    rw [HFF.out, e2, e1, List.set_set]
    unfold kidN
    rw [HMM.out, show (X.N i).lv = lv from HLV.out]
  have hr : (growM X i k).r = filled X.r f (f + 1) true := by rw [← HFF.out]; rfl
  rw [hg, hr]
  exact HT4.out
end
end Go.Proofs.YtfmclbacoffdaaaDoor

namespace Go.Proofs.YtfmclbacoffdaaaDoor
open Go.RowKit Go.Sort Go.Joins
attribute [local go_sem] cell_grow frozen_grow size_grow
theorem needF_le (st : List Nd) : ∀ n p b s, needF st n p b s ≤ 2 * n
  | 0, _, _, _ => Nat.le_refl _
  | n + 1, p, b, s => by
    have ih := needF_le st n (p + 1) ((p / 64 : Nat) : Int) ((p / 8 : Nat) : Int)
    simp only [needF]
    split <;> split <;> omega
theorem needF_step (st : List Nd) (m p : Nat) (b s : Int) : needF st (m + 1) p b s = (if (((mdI st p : Int) == 0) && (((p : Int) / 64) != b)) = true then 1 else 0) + (if (((lfI st p : Int) == 0) && (((p : Int) / 8) != s)) = true then 1 else 0) + needF st m (p + 1) ((p : Int) / 64) ((p : Int) / 8) := by
  have e1 : ((p / 64 : Nat) : Int) = (p : Int) / 64 := by omega
  have e2 : ((p / 8 : Nat) : Int) = (p : Int) / 8 := by omega
  simp only [needF, e1, e2]
  congr 2
  · refine ite_congr' ?_
    simp
  · refine ite_congr' ?_
    simp
section
variable {w : World} {B p q : Nat} {st : List Nd} {m : Nat} {r : Nat → Bool}
set_option maxRecDepth 100000 in
set_option maxHeartbeats 3200000 in
theorem needed_ok (h : TM w B p q st m r) {f t : Nat} (hft : f ≤ t) (ht : t ≤ 1024) (hk : ∀ k, k < 16 → (st.getD 0 ndZ).kd k < st.length) :
    Calls Tryd.prog 54 #[.pointer (some ⟨p, 0, none⟩), .int .i64 f, .int .i64 t] w fun e w' => e = .returned (.int .i64 (needF st (t - f) f (-1) (-1))) ∧ ∃ n, w' = w.drewN n := by
  have H := Lib.hid h
  have hle := needF_le st (t - f) f (-1) (-1)
  obtain ⟨T, hT⟩ : ∃ T, needF st (t - f) f (-1) (-1) = T := ⟨_, rfl⟩
  rw [hT] at hle ⊢
  have HT := Lib.hid hT
  clear h hT
  go_enter Tryd.func54, Tryd.ntmps54
  go_wp2
  go_loopw [7, 8, 9, 10] (fun o b s i wr => ∃ (pg c : Nat) (bi si : Int), i = .int .i64 pg ∧ f ≤ pg ∧ pg ≤ t ∧ o = .int .i64 c ∧ b = .int .i64 bi ∧ s = .int .i64 si ∧ Hid (c + needF st (t - pg) pg bi si = T) ∧ Hid (∃ n, wr = w.drewN n)) (fun _ _ _ i _ => t - (intOf i).toNat)
  case atStart => exact ⟨f, 0, -1, -1, rfl, Nat.le_refl _, hft, rfl, rfl, rfl, Lib.hid (by rw [HT.out]; omega), Lib.hid ⟨0, rfl⟩⟩
  case round =>
    obtain ⟨pg, c, bi, si, rfl, hp1, hp2, rfl, rfl, rfl, HS, HB⟩ := hrel
    by_cases hlt : pg < t
    · have hbw : Below w.heap.size w wr := by obtain ⟨nn, hn⟩ := HB.out; rw [hn]; exact below_draw _ _
      have HLf := Lib.hid (leaf_ok (H.out.below hbw) pg (by omega) (hk (pg / 64) (by omega)))
      have hs := HS.out
      rw [show t - pg = (t - (pg + 1)) + 1 by omega, needF_step] at hs
      obtain ⟨md, hmd⟩ : ∃ z, mdI st pg = z := ⟨_, rfl⟩
      obtain ⟨lf, hlf⟩ : ∃ z, lfI st pg = z := ⟨_, rfl⟩
      rw [hmd, hlf] at HLf hs
      have i0 : (pg : Int) < (t : Int) := by omega
      obtain ⟨d1, h1⟩ : ∃ z, ((md : Int) == 0) = z := ⟨_, rfl⟩
      obtain ⟨d2, h2⟩ : ∃ z, ((pg : Int) / 64 != bi) = z := ⟨_, rfl⟩
      obtain ⟨d3, h3⟩ : ∃ z, ((lf : Int) == 0) = z := ⟨_, rfl⟩
      obtain ⟨d4, h4⟩ : ∃ z, ((pg : Int) / 8 != si) = z := ⟨_, rfl⟩
      rw [h1, h2, h3, h4] at hs
      have hw1 : IntKind.i64.wrap ((pg : Int) + 1) = (pg : Int) + 1 := IntWalk.i64_in _ (by omega)
      have hc : c ≤ T := by omega
      have hw2 : IntKind.i64.wrap ((c : Int) + 1) = (c : Int) + 1 := IntWalk.i64_in _ (by omega)
      have hw3 : IntKind.i64.wrap ((c : Int) + 1 + 1) = (c : Int) + 1 + 1 := IntWalk.i64_in _ (by omega)
      have HS2 := Lib.hid hs
      clear hs hmd hlf
      go_wp2_with fail
      refine HLf.out.mono ?_
      rintro e w1 ⟨rfl, n1, hn1⟩
      have HB1 : Hid (∃ n, w1 = w.drewN n) := Lib.hid (by obtain ⟨nn, hn⟩ := HB.out; rw [hn1]; exact drewN_of hn n1)
      clear hn1 hbw
      cases d1 <;> cases d2 <;> cases d3 <;> cases d4
      all_goals
        go_wp2
        go_roundw
        case rel =>
          first
            | exact ⟨pg + 1, c + 0, _, _, by go_num, by omega, by omega, by go_num, rfl, rfl, Lib.hid (by have := HS2.out; simp at this; omega), HB1⟩
            | exact ⟨pg + 1, c + 1, _, _, by go_num, by omega, by omega, by go_num, rfl, rfl, Lib.hid (by have := HS2.out; simp at this; omega), HB1⟩
            | exact ⟨pg + 1, c + 2, _, _, by go_num, by omega, by omega, by go_num, rfl, rfl, Lib.hid (by have := HS2.out; simp at this; omega), HB1⟩
        case measure => simp [intOf]; omega
    · obtain rfl : pg = t := by omega
      have hs := HS.out
      rw [Nat.sub_self] at hs
      have e : needF st 0 pg bi si = 0 := rfl
      have i0 : ¬ ((pg : Int) < (pg : Int)) := by omega
      have HC : Hid (c = T) := Lib.hid (by omega)
      clear hs e
      go_wp2
      go_ret
      exact ⟨by rw [← HC.out]; rfl, HB.out⟩
end
end Go.Proofs.YtfmclbacoffdaaaDoor

namespace Go.Proofs.YtfmclbacoffdaaaDoor
theorem or_add {a b k : Nat} (h : a < 2 ^ k) : a ||| (2 ^ k * b) = a + 2 ^ k * b := by
  rw [Nat.or_comm, ← Nat.two_pow_add_eq_or_of_lt h, Nat.add_comm]
theorem pk_bits {o s t : Int} (h0 : 0 ≤ o) (h1 : o ≤ 4095) (h2 : 0 ≤ s) (h3 : s ≤ 15) (h4 : 0 ≤ t) (h5 : t ≤ 1000000000000) :
    bits .or .u64 (bits .or .u64 (bits .or .u64 1 (o * 2)) (s * 8192)) (t * 131072) = pkW o s t false ∧ bits .or .u64 (pkW o s t false) 144115188075855872 = pkW o s t true := by
  obtain ⟨a, rfl⟩ := Int.eq_ofNat_of_zero_le h0
  obtain ⟨b, rfl⟩ := Int.eq_ofNat_of_zero_le h2
  obtain ⟨c, rfl⟩ := Int.eq_ofNat_of_zero_le h4
  have e1 : bits .or .u64 1 ((a : Int) * 2) = ((1 + 2 * a : Nat) : Int) := by
    have := u64_or_nat 1 (2 ^ 1 * a) (by omega) (by omega)
    rw [or_add (k := 1) (by omega)] at this
    rw [show ((a : Int) * 2) = ((2 ^ 1 * a : Nat) : Int) by omega, show (1 : Int) = ((1 : Nat) : Int) from rfl, this]
  have e2 : bits .or .u64 ((1 + 2 * a : Nat) : Int) ((b : Int) * 8192) = ((1 + 2 * a + 8192 * b : Nat) : Int) := by
    have := u64_or_nat (1 + 2 * a) (2 ^ 13 * b) (by omega) (by omega)
    rw [or_add (k := 13) (by omega)] at this
    rw [show ((b : Int) * 8192) = ((2 ^ 13 * b : Nat) : Int) by omega, this]
  have e3 : bits .or .u64 ((1 + 2 * a + 8192 * b : Nat) : Int) ((c : Int) * 131072) = ((1 + 2 * a + 8192 * b + 131072 * c : Nat) : Int) := by
    have := u64_or_nat (1 + 2 * a + 8192 * b) (2 ^ 17 * c) (by omega) (by omega)
    rw [or_add (k := 17) (by omega)] at this
    rw [show ((c : Int) * 131072) = ((2 ^ 17 * c : Nat) : Int) by omega, this]
  have e4 : bits .or .u64 ((1 + 2 * a + 8192 * b + 131072 * c : Nat) : Int) 144115188075855872 = ((1 + 2 * a + 8192 * b + 131072 * c + 144115188075855872 : Nat) : Int) := by
    have := u64_or_nat (1 + 2 * a + 8192 * b + 131072 * c) (2 ^ 57 * 1) (by omega) (by omega)
    rw [or_add (k := 57) (by omega)] at this
    rw [show (144115188075855872 : Int) = ((2 ^ 57 * 1 : Nat) : Int) from rfl, this]
  have p1 : pkW (a : Int) (b : Int) (c : Int) false = ((1 + 2 * a + 8192 * b + 131072 * c : Nat) : Int) := by
    unfold pkW
    simp only [Bool.false_eq_true, if_false]
    omega
  have p2 : pkW (a : Int) (b : Int) (c : Int) true = ((1 + 2 * a + 8192 * b + 131072 * c + 144115188075855872 : Nat) : Int) := by
    unfold pkW
    simp only [if_true]
    omega
  refine ⟨by rw [e1, e2, e3, p1], by rw [p1, e4, p2]⟩
theorem un_bits {x : Int} (h0 : 0 ≤ x) (h1 : x < 18446744073709551616) :
    bits .and .u64 (x / 2) 4095 = unO x ∧ bits .and .u64 (x / 8192) 15 = unS x ∧ bits .and .u64 (x / 131072) 1099511627775 = unT x ∧ bits .and .u64 (x / 144115188075855872) 1 = x / 144115188075855872 % 2 ∧ bits .and .u64 x 1 = x % 2 := by
  obtain ⟨a, rfl⟩ := Int.eq_ofNat_of_zero_le h0
  have key : ∀ (y k : Nat), y < 18446744073709551616 → 2 ^ k - 1 < 18446744073709551616 → bits .and .u64 (y : Int) ((2 ^ k - 1 : Nat) : Int) = ((y % 2 ^ k : Nat) : Int) := fun y k h h' => by
    rw [u64_and_nat y (2 ^ k - 1) h h', Nat.and_two_pow_sub_one_eq_mod]
  refine ⟨?_, ?_, ?_, ?_, ?_⟩
  · have := key (a / 2) 12 (by omega) (by decide)
    unfold unO
    rw [show ((a : Int) / 2) = ((a / 2 : Nat) : Int) by omega, show (4095 : Int) = ((2 ^ 12 - 1 : Nat) : Int) from rfl, this]
    omega
  · have := key (a / 8192) 4 (by omega) (by decide)
    unfold unS
    rw [show ((a : Int) / 8192) = ((a / 8192 : Nat) : Int) by omega, show (15 : Int) = ((2 ^ 4 - 1 : Nat) : Int) from rfl, this]
    omega
  · have := key (a / 131072) 40 (by omega) (by decide)
    unfold unT
    rw [show ((a : Int) / 131072) = ((a / 131072 : Nat) : Int) by omega, show (1099511627775 : Int) = ((2 ^ 40 - 1 : Nat) : Int) from rfl, this]
    omega
  · have := key (a / 144115188075855872) 1 (by omega) (by decide)
    rw [show ((a : Int) / 144115188075855872) = ((a / 144115188075855872 : Nat) : Int) by omega, show (1 : Int) = ((2 ^ 1 - 1 : Nat) : Int) from rfl, this]
    omega
  · have := key a 1 (by omega) (by decide)
    rw [show (1 : Int) = ((2 ^ 1 - 1 : Nat) : Int) from rfl, this]
    omega
end Go.Proofs.YtfmclbacoffdaaaDoor

namespace Go.Proofs.YtfmclbacoffdaaaDoor
open Go.RowKit Go.Sort Go.Joins
attribute [local go_sem] cell_grow frozen_grow size_grow
theorem pk_ways (o s t : Int) :
    (Hid (pkE o s t = 2) ∧ decide (o < 0) = true) ∨
    (Hid (pkE o s t = 2) ∧ decide (o < 0) = false ∧ decide (4095 < o) = true) ∨
    (Hid (pkE o s t = 2) ∧ decide (o < 0) = false ∧ decide (4095 < o) = false ∧ decide (s < 0) = true) ∨
    (Hid (pkE o s t = 2) ∧ decide (o < 0) = false ∧ decide (4095 < o) = false ∧ decide (s < 0) = false ∧ decide (15 < s) = true) ∨
    (Hid (pkE o s t = 2) ∧ decide (o < 0) = false ∧ decide (4095 < o) = false ∧ decide (s < 0) = false ∧ decide (15 < s) = false ∧ decide (t < 0) = true) ∨
    (Hid (pkE o s t = 2) ∧ decide (o < 0) = false ∧ decide (4095 < o) = false ∧ decide (s < 0) = false ∧ decide (15 < s) = false ∧ decide (t < 0) = false ∧ decide (1000000000000 < t) = true) ∨
    Hid (pkE o s t = 0) := by
  by_cases h1 : o < 0
  · exact .inl ⟨Lib.hid (if_pos (by omega)), decide_eq_true h1⟩
  · by_cases h2 : 4095 < o
    · exact .inr (.inl ⟨Lib.hid (if_pos (by omega)), decide_eq_false h1, decide_eq_true h2⟩)
    · by_cases h3 : s < 0
      · exact .inr (.inr (.inl ⟨Lib.hid (if_pos (by omega)), decide_eq_false h1, decide_eq_false h2, decide_eq_true h3⟩))
      · by_cases h4 : 15 < s
        · exact .inr (.inr (.inr (.inl ⟨Lib.hid (if_pos (by omega)), decide_eq_false h1, decide_eq_false h2, decide_eq_false h3, decide_eq_true h4⟩)))
        · by_cases h5 : t < 0
          · exact .inr (.inr (.inr (.inr (.inl ⟨Lib.hid (if_pos (by omega)), decide_eq_false h1, decide_eq_false h2, decide_eq_false h3, decide_eq_false h4, decide_eq_true h5⟩))))
          · by_cases h6 : 1000000000000 < t
            · exact .inr (.inr (.inr (.inr (.inr (.inl ⟨Lib.hid (if_pos (by omega)), decide_eq_false h1, decide_eq_false h2, decide_eq_false h3, decide_eq_false h4, decide_eq_false h5, decide_eq_true h6⟩)))))
            · exact .inr (.inr (.inr (.inr (.inr (.inr (Lib.hid (if_neg (by omega))))))))
theorem pkV_bad {o s t : Int} {g : Bool} (h : pkE o s t = 2) : pkV o s t g = 0 := by unfold pkV; rw [if_neg (by rw [h]; decide)]
theorem pkV_ok {o s t : Int} {g : Bool} (h : pkE o s t = 0) : pkV o s t g = pkW o s t g := by unfold pkV; rw [if_pos h]
abbrev dsV (o s t : Int) (g : Bool) : Value := .agg #[.int .i64 o, .int .i64 s, .int .i64 t, .bool g]
set_option maxRecDepth 100000 in
set_option maxHeartbeats 1600000 in
theorem pack_ok (o s t : Int) (g : Bool) (w : World) :
    Calls Tryd.prog 13 #[dsV o s t g] w fun e w' => e = .returned (.tuple #[.int .u64 (pkV o s t g), .int .i64 (pkE o s t)]) ∧ Below w.heap.size w w' := by
  have HB := Lib.hid (below_box0 w (.cells #[.int .i64 o, .int .i64 s, .int .i64 t, .bool g] 23))
  rcases pk_ways o s t with ⟨HE, d1⟩ | ⟨HE, d1, d2⟩ | ⟨HE, d1, d2, d3⟩ | ⟨HE, d1, d2, d3, d4⟩ | ⟨HE, d1, d2, d3, d4, d5⟩ | ⟨HE, d1, d2, d3, d4, d5, d6⟩ | HE
  case' inr.inr.inr.inr.inr.inr =>
    obtain ⟨h0, h1, h2, h3, h4, h5⟩ := pkE_zero HE.out
    have d1 : decide (o < 0) = false := decide_eq_false (by omega)
    have d2 : decide (4095 < o) = false := decide_eq_false (by omega)
    have d3 : decide (s < 0) = false := decide_eq_false (by omega)
    have d4 : decide (15 < s) = false := decide_eq_false (by omega)
    have d5 : decide (t < 0) = false := decide_eq_false (by omega)
    have d6 : decide (1000000000000 < t) = false := decide_eq_false (by omega)
    obtain ⟨hb1, hb2⟩ := pk_bits h0 h1 h2 h3 h4 h5
    have HB1 := Lib.hid hb1
    have HB2 := Lib.hid hb2
    have w1 : IntKind.u64.wrap o = o := IntWalk.u64_in _ (by omega)
    have w2 : IntKind.u64.wrap s = s := IntWalk.u64_in _ (by omega)
    have w3 : IntKind.u64.wrap t = t := IntWalk.u64_in _ (by omega)
    have w4 : IntKind.u64.wrap (o * 2) = o * 2 := IntWalk.u64_in _ (by omega)
    have w5 : IntKind.u64.wrap (s * 8192) = s * 8192 := IntWalk.u64_in _ (by omega)
    have w6 : IntKind.u64.wrap (t * 131072) = t * 131072 := IntWalk.u64_in _ (by omega)
    clear h0 h1 h2 h3 h4 h5 hb2
    cases g
  all_goals
    go_enter Tryd.func13, Tryd.ntmps13
    go_wp2
    try go_quiet (fail)
    try go_wp2
    go_ret2
    first
      | exact ⟨by rw [pkV_bad HE.out, HE.out]; rfl, HB.out⟩
      | exact ⟨by rw [pkV_ok HE.out, HE.out, ← HB1.out]; rfl, HB.out⟩
      | exact ⟨by rw [pkV_ok HE.out, HE.out, ← HB2.out, ← HB1.out]; rfl, HB.out⟩
end Go.Proofs.YtfmclbacoffdaaaDoor
