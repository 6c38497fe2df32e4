/- The radix map: Runs of the reference. | The radix map: do of the law: a call on the map and on the reference's state. | The radix map: do of the law: Set; Get and Owned. | The radix map: do of the law: Get and Owned. -/
import Derived.Test.YtfmclbacoffdaaaDoorRYZ7
import Derived.Test.YtfmclbacoffdaaaDoorRZ10
import Derived.Test.YtfmclbacoffdaaaDoorRWZ1
import Derived.Deep.RegionHeld3
import Derived.Deep.DeepCutAuto
namespace Go.Proofs.YtfmclbacoffdaaaDoor
open Go.RowKit Go.Sort Go.Joins
attribute [local go_sem] cell_grow frozen_grow size_grow
/-- what Runs holds after k pages -/
structure RuR (w wr : World) (m : Int) (a : Option Addr) (n c : Nat) (X : RM) (k : Nat) (v : Value) : Prop where
  bx : wr.heap[w.heap.size]? = some (.cells #[.int .i64 m, .slice a n c] 45 (0, 0))
  ow : wr.ownsRow (w.heap.size + 1) 56 6 v (rnsL X (wL X 0 k)).length (rcL X (rnsL X (wL X 0 k)))
  k : Below w.heap.size w wr
theorem RuR.below {w wr w' : World} {m : Int} {a : Option Addr} {n c : Nat} {X : RM} {k : Nat} {v : Value} (h : RuR w wr m a n c X k v) (hb : Below wr.heap.size wr w') : RuR w w' m a n c X k v :=
  ⟨(hb.block _ (blk_lt h.bx)).trans h.bx, own_belowW h.ow hb, below_tr h.k hb⟩
theorem rnsL_le (X : RM) (k : Nat) : (rnsL X (wL X 0 k)).length ≤ k := by
  refine Nat.le_trans (rnsL_len X _) ?_
  unfold wL
  exact Nat.le_trans (List.length_filter_le _ _) (by simp)
section
variable {w : World} {a : Option Addr} {X : RM} {n c : Nat} {m : Int}
set_option maxRecDepth 100000 in
set_option maxHeartbeats 6400000 in
theorem rruns_ok (h : StR w a (stS X)) (hG : RGood X) (hn : n = X.st.length) (hn2 : n ≤ 145) :
    Calls Tryd.prog 38 #[.agg #[.int .i64 m, .slice a n c]] w fun e w' => ∃ b d, e = .returned (.slice b (rnsL X (wL X 0 1024)).length d) ∧ RdU w' b (rnsL X (wL X 0 1024)).length (fun j => ruOf X ((rnsL X (wL X 0 1024)).getD j rg0)) ∧ Below w.heap.size w w' := by
  obtain ⟨i0, hi0, hz0, hz1, hz2'⟩ := info_parts info_run7
  have hB := below_box0 w (.cells #[.int .i64 m, .slice a n c] 45)
  have hS0 : RuR w (w.alloc (.cells #[.int .i64 m, .slice a n c] 45)) m a n c X 0 (.slice none 0 0) := by
    refine ⟨heap_alloc_new w _, ?_, hB⟩
    rw [wL_start]
    exact World.ownsRow_nil _ _ _ _
  have HS0 := Lib.hid hS0
  have HST := Lib.hid h
  have HG := Lib.hid hG
  have HNN := Lib.hid hn
  clear hB hS0 h hG hn
  go_enter Tryd.func38, Tryd.ntmps38
  go_wp2
  generalize World.alloc _ _ = W0 at HS0 ⊢
  go_loopw [3, 4] (fun s y wr => ∃ (k : Nat) (v : Value), v = s ∧ k ≤ 1024 ∧ y = .int .i64 k ∧ Hid (RuR w wr m a n c X k v)) (fun _ y _ => 1024 - (intOf y).toNat)
  case atStart => exact ⟨0, _, rfl, Nat.zero_le _, rfl, HS0⟩
  case round =>
    clear HS0
    obtain ⟨k, v, rfl, hk, rfl, HO⟩ := hrel
    have k0 : wr.cell? ⟨w.heap.size, 0, none⟩ = some (.int .i64 m) := by rw [cell_of_block HO.out.bx]; rfl
    have k1 : wr.cell? ⟨w.heap.size, 1, none⟩ = some (.slice a n c) := by rw [cell_of_block HO.out.bx]; rfl
    by_cases hlt : k < 1024
    · have i1 : (k : Int) < 1024 := by omega
      have i0' : (0 : Int) ≤ (k : Int) := by omega
      have HGE := Lib.hid (rget_ok7 (m := m) (c := c) (HST.out.below HO.out.k) HG.out HNN.out hn2 (k : Int))
      rw [getV_d] at HGE
      by_cases hw : wdI X.st k = 0
      · have hE : getE X (k : Int) = 4 := by rw [getE_at HG.out.w hlt, if_pos hw]
        rw [hE] at HGE
        have HW := Lib.hid (wL_no hw)
        clear hE hw
        go_wp2_with fail
        refine HGE.out.mono ?_
        rintro e w5 ⟨rfl, b5⟩
        have HO5 := Lib.hid (HO.out.below (below_tr b5 (below_box0 w5 (.cells #[.int .i64 (dO X k), .int .i64 (dS X k), .int .i64 (dT X k), .bool (dH X k)] 23))))
        clear b5 HGE k0 k1 HO
        go_wp2
        go_roundw
        case rel => exact ⟨k + 1, v, rfl, by omega, by go_num, Lib.hid ⟨HO5.out.bx, by rw [HW.out]; exact HO5.out.ow, HO5.out.k⟩⟩
        case measure => simp [intOf]; omega
      · have hE : getE X (k : Int) = 0 := by rw [getE_at HG.out.w hlt, if_neg hw]
        rw [hE] at HGE
        have hsn := rnsL_snoc X (wL X 0 k) k
        rw [← wL_step (X := X) (f := 0) (Nat.zero_le _) hw] at hsn
        have HSN := Lib.hid hsn
        have hlen := rnsL_le X k
        obtain ⟨po, hpo⟩ : ∃ y, dO X k = y := ⟨_, rfl⟩
        obtain ⟨ps, hps⟩ : ∃ y, dS X k = y := ⟨_, rfl⟩
        obtain ⟨pt, hpt⟩ : ∃ y, dT X k = y := ⟨_, rfl⟩
        obtain ⟨ph, hph⟩ : ∃ y, dH X k = y := ⟨_, rfl⟩
        rw [hpo, hps, hpt, hph] at HGE
        have HPD := Lib.hid (And.intro hpo (And.intro hps (And.intro hpt hph)))
        clear hE hw hsn hpo hps hpt hph
        go_wp2_with fail
        refine HGE.out.mono ?_
        rintro e w5 ⟨rfl, b5⟩
        have HO5 := Lib.hid (HO.out.below (below_tr b5 (below_box0 w5 (.cells #[.int .i64 po, .int .i64 ps, .int .i64 pt, .bool ph] 23))))
        have hB := heap_alloc_new w5 (.cells #[.int .i64 po, .int .i64 ps, .int .i64 pt, .bool ph] 23)
        clear b5 HGE k0 k1 HO
        go_upto_region 6 with fail
        obtain ⟨Bx, hBx⟩ : ∃ y, w5.heap.size = y := ⟨_, rfl⟩
        rw [hBx] at hB ⊢
        generalize World.alloc _ _ = W at HO5 hB ⊢
        have k0 : W.cell? ⟨Bx, 0, none⟩ = some (.int .i64 po) := by rw [cell_of_block hB]; rfl
        have k1 : W.cell? ⟨Bx, 1, none⟩ = some (.int .i64 ps) := by rw [cell_of_block hB]; rfl
        have k2 : W.cell? ⟨Bx, 2, none⟩ = some (.int .i64 pt) := by rw [cell_of_block hB]; rfl
        have k3 : W.cell? ⟨Bx, 3, none⟩ = some (.bool ph) := by rw [cell_of_block hB]; rfl
        have HB := Lib.hid hB
        have lkx := blk_lt hB
        obtain ⟨L, hL⟩ : ∃ L, rnsL X (wL X 0 k) = L := ⟨_, rfl⟩
        have hO := HO5.out.ow
        rw [hL] at hO HSN hlen
        obtain ⟨va, vc, rfl⟩ := own_slice' hO
        obtain ⟨nn, hn⟩ : ∃ n, L.length = n := ⟨_, rfl⟩
        rw [hn] at hO hlen HO5 ⊢
        have HO := Lib.hid hO
        have HLL := Lib.hid hL
        have HLN := Lib.hid hn
        clear hO hL hn hB hBx
        have hways : (mergB X L k = false ∧ nn = 0) ∨ (∃ m lst, nn = m + 1 ∧ Hid (L.getD m rg0 = lst) ∧ (mergB X L k = false ∧ lst.2 ≠ k)) ∨ (∃ m lst, nn = m + 1 ∧ Hid (L.getD m rg0 = lst) ∧ lst.2 = k ∧ (mergB X L k = dsame X lst.1 k)) := by
          by_cases c0 : nn = 0
          · refine .inl ⟨?_, c0⟩
            unfold mergB
            rw [HLN.out, c0]; rfl
          · have hl : lastG L = L.getD (nn - 1) rg0 := by unfold lastG; rw [HLN.out]
            by_cases c1 : (lastG L).2 = k
            · refine .inr (.inr ⟨nn - 1, _, by omega, Lib.hid rfl, by rw [← hl]; exact c1, ?_⟩)
              unfold mergB
              rw [HLN.out, decide_eq_true (show 0 < nn by omega), decide_eq_true c1, hl]; rfl
            · refine .inr (.inl ⟨nn - 1, _, by omega, Lib.hid rfl, ?_, by rw [← hl]; exact c1⟩)
              unfold mergB
              rw [decide_eq_false c1, Bool.false_and, Bool.and_false]
        refine hways.elim ?wa (fun h => h.elim ?wb ?wc)
        case' wa =>
          rintro ⟨hmg, hn0⟩
          have hy : (nn : Int) - 1 = -1 := by omega
          have d0 : decide ((0 : Int) < (nn : Int)) = false := by simp; omega
          have d0' : decide (0 < nn) = false := decide_eq_false (by omega)
          have d0'' : ((nn : Int) > 0) = False := eq_false (by omega)
          have HMG : Hid (rnsL X (wL X 0 (k + 1)) = L ++ [(k, k + 1)]) := Lib.hid (by rw [HSN.out]; unfold rnStep; rw [if_neg (by rw [hmg]; exact Bool.false_ne_true)])
          clear hways hmg hn0
          go_wp2_with fail
          go_quiet (fail)
        case' wb =>
          rintro ⟨m', lst, hm, HLST, hmg, hne⟩
          have hy : (nn : Int) - 1 = (m' : Int) := by omega
          have d0 : decide ((0 : Int) < (nn : Int)) = true := by simp; omega
          have d0' : decide (0 < nn) = true := decide_eq_true (by omega)
          have HMG : Hid (rnsL X (wL X 0 (k + 1)) = L ++ [(k, k + 1)]) := Lib.hid (by rw [HSN.out]; unfold rnStep; rw [if_neg (by rw [hmg]; exact Bool.false_ne_true)])
          obtain ⟨g, cap, hv⟩ := ownsRow_form HO.out (by omega)
          cases hv
          obtain ⟨f, t⟩ := lst
          have HCL : Hid (∀ i, i < 6 → W.cell? ⟨g, m' * 6 + i, none⟩ = (rgC X (f, t))[i]?) := Lib.hid (fun i hi => by
            rw [HO.out.cellAt (m' * 6 + i) (by omega), rcL_get X L m' i (by rw [HLN.out]; omega) hi, HLST.out])
          obtain ⟨fo, hfo⟩ : ∃ y, dO X f = y := ⟨_, rfl⟩
          obtain ⟨fs, hfs⟩ : ∃ y, dS X f = y := ⟨_, rfl⟩
          obtain ⟨ft, hft⟩ : ∃ y, dT X f = y := ⟨_, rfl⟩
          obtain ⟨fh, hfh⟩ : ∃ y, dH X f = y := ⟨_, rfl⟩
          have q1 : W.cell? ⟨g, m' * 6 + 1, none⟩ = some (.int .i64 t) := HCL.out 1 (by omega)
          have q2 : W.cell? ⟨g, m' * 6 + 2, none⟩ = some (.int .i64 fo) := by rw [← hfo]; exact HCL.out 2 (by omega)
          have q3 : W.cell? ⟨g, m' * 6 + 2 + 1, none⟩ = some (.int .i64 fs) := by rw [← hfs]; exact HCL.out 3 (by omega)
          have q4 : W.cell? ⟨g, m' * 6 + 2 + 2, none⟩ = some (.int .i64 ft) := by rw [← hft]; exact HCL.out 4 (by omega)
          have q5 : W.cell? ⟨g, m' * 6 + 2 + 3, none⟩ = some (.bool fh) := by rw [← hfh]; exact HCL.out 5 (by omega)
          have hgl := (HO.out.lt g rfl).2
          have j0' : (0 : Int) ≤ (m' : Int) := by omega
          have j1' : (m' : Int) < (nn : Int) := by omega
          clear hfo hfs hft hfh
          have d2 : ((t : Int) == (k : Int)) = false := by simp; dsimp only at hne; omega
          have HM6 := Lib.hid hm
          clear hways hmg hne hm
          go_wp2_with fail
          go_quiet (fail)
        case' wc =>
          rintro ⟨m', lst, hm, HLST, hte, hmg⟩
          have hy : (nn : Int) - 1 = (m' : Int) := by omega
          have d0 : decide ((0 : Int) < (nn : Int)) = true := by simp; omega
          have d0' : decide (0 < nn) = true := decide_eq_true (by omega)
          obtain ⟨g, cap, hv⟩ := ownsRow_form HO.out (by omega)
          cases hv
          obtain ⟨f, t⟩ := lst
          have HCL : Hid (∀ i, i < 6 → W.cell? ⟨g, m' * 6 + i, none⟩ = (rgC X (f, t))[i]?) := Lib.hid (fun i hi => by
            rw [HO.out.cellAt (m' * 6 + i) (by omega), rcL_get X L m' i (by rw [HLN.out]; omega) hi, HLST.out])
          obtain ⟨fo, hfo⟩ : ∃ y, dO X f = y := ⟨_, rfl⟩
          obtain ⟨fs, hfs⟩ : ∃ y, dS X f = y := ⟨_, rfl⟩
          obtain ⟨ft, hft⟩ : ∃ y, dT X f = y := ⟨_, rfl⟩
          obtain ⟨fh, hfh⟩ : ∃ y, dH X f = y := ⟨_, rfl⟩
          have q1 : W.cell? ⟨g, m' * 6 + 1, none⟩ = some (.int .i64 t) := HCL.out 1 (by omega)
          have q2 : W.cell? ⟨g, m' * 6 + 2, none⟩ = some (.int .i64 fo) := by rw [← hfo]; exact HCL.out 2 (by omega)
          have q3 : W.cell? ⟨g, m' * 6 + 2 + 1, none⟩ = some (.int .i64 fs) := by rw [← hfs]; exact HCL.out 3 (by omega)
          have q4 : W.cell? ⟨g, m' * 6 + 2 + 2, none⟩ = some (.int .i64 ft) := by rw [← hft]; exact HCL.out 4 (by omega)
          have q5 : W.cell? ⟨g, m' * 6 + 2 + 3, none⟩ = some (.bool fh) := by rw [← hfh]; exact HCL.out 5 (by omega)
          have HDS : Hid (dsame X f k = (fo == po && (fs == ps && (ft == pt && fh == ph)))) := Lib.hid (by
            unfold dsame
            rw [hfo, hfs, hft, hfh, HPD.out.1, HPD.out.2.1, HPD.out.2.2.1, HPD.out.2.2.2])
          have hgl := (HO.out.lt g rfl).2
          have j0' : (0 : Int) ≤ (m' : Int) := by omega
          have j1' : (m' : Int) < (nn : Int) := by omega
          clear hfo hfs hft hfh
          have d2 : ((t : Int) == (k : Int)) = true := by simp; dsimp only at hte; omega
          obtain ⟨b, hb⟩ : ∃ b, (fo == po && (fs == ps && (ft == pt && fh == ph))) = b := ⟨_, rfl⟩
          have heq : ∀ W : World, Sem.run Tryd.prog (binOp .eql 23 (dsV fo fs ft fh) (dsV po ps pt ph)) W = .ok (.bool b) W := fun W => by rw [← hb]; exact eql_descB _ _ _ _ _ _ _ _ _
          have HTX : Hid (t = k) := Lib.hid hte
          have HMB : Hid (mergB X L k = b) := Lib.hid (by rw [hmg, HDS.out, hb])
          have HM6 := Lib.hid hm
          clear hways hmg hte hm hb
          go_wp2_with fail
          go_quiet (fail)
          by_cases hb1 : b = true
          · subst hb1
            obtain ⟨V, hV⟩ : ∃ V, W.drewN nq = V := ⟨_, rfl⟩
            have hbv := below_draw W nq
            rw [hV] at hbv ⊢
            have HMV := Lib.hid (HO5.out.below hbv)
            have hO' := HMV.out.ow
            rw [HLL.out, HLN.out] at hO'
            have HO' := Lib.hid hO'
            have HMG : Hid (rnsL X (wL X 0 (k + 1)) = L.set m' (f, k + 1)) := Lib.hid (by
              rw [HSN.out]; unfold rnStep; rw [if_pos HMB.out]
              have e : L.length - 1 = m' := by rw [HLN.out, HM6.out]; omega
              unfold lastG
              rw [e, HLST.out])
            have qb1 : V.cell? ⟨g, m' * 6 + 1, none⟩ = some (.int .i64 t) := (hbv.cell (p := ⟨g, m' * 6 + 1, none⟩) hgl).trans q1
            have qf1 := hO'.frozenAt (m' * 6 + 1)
            have hgB := (hO'.lt g rfl).1
            have HGB := Lib.hid hgB
            have hst := (hO'.stored (m' * 6 + 1) (.int .i64 ((k + 1 : Nat) : Int))).1
            rw [rcL_set X L m' (k + 1) (by rw [HLN.out, HM6.out]; omega), HLST.out] at hst
            have HON : Hid (RuR w (V.setCell ⟨g, m' * 6 + 1, none⟩ (.int .i64 ((k + 1 : Nat) : Int))) m a n c X (k + 1) (.slice (some ⟨g, 0, none⟩) nn vc)) := Lib.hid (by
              refine ⟨?_, ?_, HMV.out.k.setCell (by dsimp only; omega) _⟩
              · exact (Below.heap_setCell _ _ _ _ (by dsimp only; omega)).trans HMV.out.bx
              · rw [HMG.out, List.length_set, HLN.out]
                exact hst)
            clear hV hbv hO' k0 k1 k2 k3 q1 q2 q3 q4 q5 lkx heq d2 hst hgB
            go_wp2
            go_roundw
            case rel => exact ⟨k + 1, _, rfl, by omega, by go_num, HON⟩
            case measure => simp [intOf]; omega
          obtain rfl : b = false := by simpa using hb1
          have HMG : Hid (rnsL X (wL X 0 (k + 1)) = L ++ [(k, k + 1)]) := Lib.hid (by rw [HSN.out]; unfold rnStep; rw [if_neg (by rw [HMB.out]; exact Bool.false_ne_true)])
          clear hb1 heq
        all_goals
          obtain ⟨V, hV⟩ : ∃ V, W.drewN nq = V := ⟨_, rfl⟩
          have hbv := below_draw W nq
          rw [hV] at hbv ⊢
          have HMV := Lib.hid (HO5.out.below hbv)
          have hO' := HMV.out.ow
          rw [HLL.out, HLN.out] at hO'
          have HO' := Lib.hid hO'
          have hBV := (hbv.block _ (blk_lt HB.out)).trans HB.out
          have kb0 : V.cell? ⟨Bx, 0, none⟩ = some (.int .i64 po) := by rw [cell_of_block hBV]; rfl
          have kb1 : V.cell? ⟨Bx, 1, none⟩ = some (.int .i64 ps) := by rw [cell_of_block hBV]; rfl
          have kb2 : V.cell? ⟨Bx, 2, none⟩ = some (.int .i64 pt) := by rw [cell_of_block hBV]; rfl
          have kb3 : V.cell? ⟨Bx, 3, none⟩ = some (.bool ph) := by rw [cell_of_block hBV]; rfl
          have lkv := blk_lt HMV.out.bx
          have lkb := blk_lt hBV
          clear hV hbv hO' hBV k0 k1 k2 k3 lkx
          try clear q1 q2 q3 q4 q5 d2
          go_wp2_with (at_builtin; refine wpList_append_own _ rfl (.tmp 51) (.tmp 57) 47 rfl (w.heap.size + 1) 56 i0 (.agg #[.int .i64 0, .int .i64 0, .int .i64 0, .int .i64 0, .int .i64 0, .bool false]) 6 48 Tryd.underlying47 hi0 hz0 hz1 hz2' rfl (by decide) _ _ _ rfl (HO'.out.alloc _) ⟨V.heap.size, 0, none⟩ 1 1 [.int .i64 k, .int .i64 ((k : Int) + 1), .int .i64 po, .int .i64 ps, .int .i64 pt, .bool ph] rfl rfl (six_at V _ _ _ _ _ _ _) (one6 _ _ _ _ _ _) (by unfold maxLen; omega) (by omega) (by simp; omega) ?_)
          intro v9 w9 hown hg _
          obtain ⟨va9, vc9, rfl⟩ := own_slice' hown
          have HON : Hid (RuR w w9 m a n c X (k + 1) (.slice va9 (nn + 1) vc9)) := Lib.hid (by
            have hne := own_ne7 HO'.out
            refine ⟨?_, ?_, ?_⟩
            · rw [hg.block _ (by simp; omega) (hne _ (by omega)), Below.heap_alloc _ _ _ lkv]
              exact HMV.out.bx
            · rw [HMG.out, List.length_append, HLN.out, rcL_snoc]
              unfold rgC
              rw [HPD.out.1, HPD.out.2.1, HPD.out.2.2.1, HPD.out.2.2.2]
              exact hown
            · exact (HMV.out.k.alloc HMV.out.k.size _).grown hg (by have := HMV.out.k.size; simp; omega) (fun r e => by have := (HO'.out.lt r e).1; omega))
          clear hown hg
          go_wp2
          go_roundw
          case rel => exact ⟨k + 1, _, rfl, by omega, by go_num, HON⟩
          case measure => simp [intOf]; omega
    · obtain rfl : k = 1024 := by omega
      have hO := HO.out.ow
      obtain ⟨va, vc, rfl⟩ := own_slice' hO
      have HRD := Lib.hid (RdU.of_own hO rfl)
      clear k0 k1 hO
      go_wp2
      go_ret
      exact ⟨va, vc, rfl, HRD.out, HO.out.k⟩
end
end Go.Proofs.YtfmclbacoffdaaaDoor

namespace Go.Proofs.YtfmclbacoffdaaaDoor
open Go.RowKit Go.Sort Go.Joins
attribute [local go_sem] cell_grow frozen_grow size_grow
theorem u_us : (24 : Nat) ≠ 45 := by decide
/-- what lies in memory: the map X, the reference's state Y in a box -/
structure DoM (w W : World) (p q b Z g n c : Nat) (m : Int) (X Y : RM) : Prop where
  t : TM W w.heap.size p q X.st X.m X.r
  bx : W.heap[b]? = some (.cells #[.int .i64 m, .slice (some ⟨g, 0, none⟩) n c] 45 (0, 0))
  st : ∃ K L, OSt W Z (.slice (some ⟨g, 0, none⟩) n c) K L (stS Y)
  k : Below w.heap.size w W
  hp : p < Z
  hq : q < Z
  zw : Z ≤ W.heap.size
  pb : p < b
  qb : q < b
section
variable {w W W' : World} {p q b Z Z' g n c g' c' : Nat} {m : Int} {X X' Y Y' : RM}
theorem DoM.below (h : DoM w W p q b Z g n c m X Y) (hb : Below W.heap.size W W') : DoM w W' p q b Z g n c m X Y := by
  obtain ⟨K, L, hs⟩ := h.st
  exact ⟨h.t.below hb, (hb.block _ (blk_lt h.bx)).trans h.bx, ⟨K, L, hs.below hb⟩, below_tr h.k hb, h.hp, h.hq, Nat.le_trans h.zw hb.size, h.pb, h.qb⟩
theorem DoM.fr (h : DoM w W p q b Z g n c m X Y) (f : Fr p q W W') (t : TM W' w.heap.size p q X'.st X'.m X'.r) : DoM w W' p q b Z g n c m X' Y := by
  obtain ⟨K, L, hs⟩ := h.st
  have hpb := h.pb
  have hqb := h.qb
  exact ⟨t, (f.block _ (blk_lt h.bx) (by omega) (by omega)).trans h.bx, ⟨K, L, hs.fr f h.hp h.hq⟩, Fr.below h.k f h.t.hp h.t.hq h.k.size, h.hp, h.hq, Nat.le_trans h.zw f.size, h.pb, h.qb⟩
theorem TM.setBox {B : Nat} {st : List Nd} {mm : Nat} {r : Nat → Bool} (h : TM W B p q st mm r) {o : Nat} {cs : Array Value} (hb : W.heap[b]? = some (.cells cs 45 (0, 0))) (hpb : p ≠ b) (hqb : q ≠ b) (u : Value) : TM (W.setCell ⟨b, o, none⟩ u) B p q st mm r := by
  obtain ⟨ra, rcap, h1, h2⟩ := h.tbl
  exact ⟨h.hp, h.hq, h.ne, h.n1, h.n2, ⟨ra, rcap, (Below.heap_setCell _ _ _ _ hpb).trans h1, ownsRow_setCell_other h2 (by have := own_ne h2 hb u_us; simpa using this) _⟩, (Below.heap_setCell _ _ _ _ hqb).trans h.nodes, h.rb⟩
/-- the state is stored -/
theorem DoM.put (h : DoM w W p q b Z g n c m X Y) (hs : ∃ K L, OSt W Z' (.slice (some ⟨g', 0, none⟩) n c') K L (stS Y')) (hZ : Z ≤ Z') :
    DoM w ((W.setCell ⟨b, 0, none⟩ (.int .i64 m)).setCell ⟨b, 1, none⟩ (.slice (some ⟨g', 0, none⟩) n c')) p q b Z g' n c' m X Y' := by
  obtain ⟨K, L, hs⟩ := hs
  have hpb := h.pb
  have hqb := h.qb
  have hpw := h.t.hp
  have hb1 : (W.setCell ⟨b, 0, none⟩ (.int .i64 m)).heap[b]? = some (.cells #[.int .i64 m, .slice (some ⟨g, 0, none⟩) n c] 45 (0, 0)) := by rw [setCell_block h.bx]; simp
  refine ⟨(h.t.setBox h.bx (by omega) (by omega) _).setBox hb1 (by omega) (by omega) _, ?_, ⟨K, L, ((hs.le hZ).setBox h.bx _).setBox hb1 _⟩, (h.k.setCell (p := ⟨b, 0, none⟩) (by dsimp only; omega) _).setCell (p := ⟨b, 1, none⟩) (by dsimp only; omega) _, h.hp, h.hq, by simpa using h.zw, h.pb, h.qb⟩
  rw [setCell_block hb1]; simp
/-- what a call does -/
def doC (X : RM) (x : Cl) : RM := if x.wh % 4 = 2 then clrX X x.f x.t else if x.wh % 4 = 3 then X else setX X x.f x.t x.o x.s x.c x.g
abbrev clV (x : Cl) : Value := .agg #[.int .u8 (x.wh : Int), .int .i64 x.f, .int .i64 x.t, .int .i64 x.o, .int .i64 x.s, .int .i64 x.c, .bool x.g]
/-! the reference's calls on a state of its own -/
theorem rclear_st (hs : ∃ K L, OSt W Z (.slice (some ⟨g, 0, none⟩) n c) K L (stS X)) (hZ : Z ≤ W.heap.size) (hG : RGood X) (hn : n = X.st.length) (hn2 : n ≤ 145) (f t : Int) :
    Calls Tryd.prog 56 #[.agg #[.int .i64 m, .slice (some ⟨g, 0, none⟩) n c], .int .i64 f, .int .i64 t] W fun e w' => ∃ g' c', e = .returned (.tuple #[.agg #[.int .i64 m, .slice (some ⟨g', 0, none⟩) n c'], .int .i64 (paE f t)]) ∧
      (∃ K L, OSt w' Z (.slice (some ⟨g', 0, none⟩) n c') K L (stS (clrX X f t))) ∧ Below W.heap.size W w' := by
  obtain ⟨K, L, hs⟩ := hs
  refine (rclear_ok hs.str hG hn hn2 f t).mono fun e w' ⟨hb, he⟩ => ?_
  rcases he with ⟨h1, g', c', rfl, K', L', h2⟩ | ⟨h1, rfl⟩
  · exact ⟨g', c', by rw [h1], ⟨K', L', h2.le hZ⟩, hb⟩
  · exact ⟨g, c, rfl, ⟨K, L, by unfold clrX; rw [if_neg h1]; exact hs.below hb⟩, hb⟩
theorem rset_st (hs : ∃ K L, OSt W Z (.slice (some ⟨g, 0, none⟩) n c) K L (stS X)) (hZ : Z ≤ W.heap.size) (hG : RGood X) (hn : n = X.st.length) (hn2 : n ≤ 145) (f t o s d : Int) (z : Bool) :
    Calls Tryd.prog 59 #[.agg #[.int .i64 m, .slice (some ⟨g, 0, none⟩) n c], .int .i64 f, .int .i64 t, dsV o s d z] W fun e w' => ∃ g' c', e = .returned (.tuple #[.agg #[.int .i64 m, .slice (some ⟨g', 0, none⟩) n c'], .int .i64 (setE X f t o s d)]) ∧
      (∃ K L, OSt w' Z (.slice (some ⟨g', 0, none⟩) n c') K L (stS (setX X f t o s d z))) ∧ Below W.heap.size W w' := by
  obtain ⟨K, L, hs⟩ := hs
  refine (rset_ok hs.str hG hn hn2 f t).mono fun e w' ⟨hb, he⟩ => ?_
  rcases he with ⟨h1, g', c', rfl, K', L', h2⟩ | ⟨h1, rfl⟩
  · exact ⟨g', c', by rw [h1], ⟨K', L', h2.le hZ⟩, hb⟩
  · exact ⟨g, c, rfl, ⟨K, L, by unfold setX; rw [if_neg h1]; exact hs.below hb⟩, hb⟩
theorem lay_box {G : Prop} {W w' : World} {a b : Value} {T : TypeId} (hb : Below (W.alloc (.cells #[a, b] T)).drew.heap.size (W.alloc (.cells #[a, b] T)).drew w')
    (k : w'.heap[W.heap.size]? = some (.cells #[a, b] T (0, 0)) → w'.cell? ⟨W.heap.size, 0, none⟩ = some a → w'.cell? ⟨W.heap.size, 1, none⟩ = some b → (∀ j, w'.frozen? ⟨W.heap.size, j, none⟩ = false) → G) : G := by
  have h : w'.heap[W.heap.size]? = some (.cells #[a, b] T (0, 0)) := (hb.block _ (by simp)).trans (heap_alloc_new W _)
  exact k h (by rw [cell_of_block h]; rfl) (by rw [cell_of_block h]; rfl) (fun j => unfrozen_of_block h j)
/-- what a call of the reference leaves: the answer in a box -/
structure CtM (W wx : World) (Z gx g n c : Nat) (m : Int) (Y : RM) : Prop where
  hx : wx.heap[gx]? = some (.cells #[.int .i64 m, .slice (some ⟨g, 0, none⟩) n c] 45 (0, 0))
  st : ∃ K L, OSt wx Z (.slice (some ⟨g, 0, none⟩) n c) K L (stS Y)
  k : Below W.heap.size W wx
theorem CtM.new {W1 : World} (hs : ∃ K L, OSt W1 Z (.slice (some ⟨g, 0, none⟩) n c) K L (stS Y)) (hk : Below W.heap.size W W1) : CtM W (W1.alloc (.cells #[.int .i64 m, .slice (some ⟨g, 0, none⟩) n c] 45)) Z W1.heap.size g n c m Y := by
  obtain ⟨K, L, hs⟩ := hs
  have bb := below_box0 W1 (.cells #[.int .i64 m, .slice (some ⟨g, 0, none⟩) n c] 45)
  exact ⟨heap_alloc_new W1 _, ⟨K, L, hs.below bb⟩, below_tr hk bb⟩
theorem CtM.old {W1 : World} {gx : Nat} {u v : Value} (hx : W1.heap[gx]? = some (.cells #[u, v] 45 (0, 0))) (hg : W.heap.size ≤ gx) (hs : ∃ K L, OSt W1 Z (.slice (some ⟨g, 0, none⟩) n c) K L (stS Y)) (hk : Below W.heap.size W W1) :
    CtM W ((W1.setCell ⟨gx, 0, none⟩ (.int .i64 m)).setCell ⟨gx, 1, none⟩ (.slice (some ⟨g, 0, none⟩) n c)) Z gx g n c m Y := by
  obtain ⟨K, L, hs⟩ := hs
  have hx1 : (W1.setCell ⟨gx, 0, none⟩ (.int .i64 m)).heap[gx]? = some (.cells #[.int .i64 m, v] 45 (0, 0)) := by rw [setCell_block hx]; simp
  refine ⟨?_, ⟨K, L, (hs.setBox hx _).setBox hx1 _⟩, (hk.setCell (p := ⟨gx, 0, none⟩) hg _).setCell (p := ⟨gx, 1, none⟩) hg _⟩
  rw [setCell_block hx1]; simp
theorem DoM.cut (h : DoM w W p q b Z g n c m X Y) {gx : Nat} (k : CtM W W' Z gx g' n c' m Y') : DoM w ((W'.setCell ⟨b, 0, none⟩ (.int .i64 m)).setCell ⟨b, 1, none⟩ (.slice (some ⟨g', 0, none⟩) n c')) p q b Z g' n c' m X Y' :=
  (h.below k.k).put k.st (Nat.le_refl _)
set_option maxRecDepth 100000 in
set_option maxHeartbeats 6400000 in
theorem do_clr (h : DoM w W p q b Z g n c m X X) (hG : RGood X) (hn : n = X.st.length) (x : Cl) (hwh : x.wh % 4 = 2) :
    Calls Tryd.prog 35 #[.pointer (some ⟨p, 0, none⟩), .pointer (some ⟨b, 0, none⟩), clV x] W fun e w' => e = .returned (.bool true) ∧ ∃ g' c', DoM w w' p q b Z g' n c' m (clrX X x.f x.t) (clrX X x.f x.t) := by
  obtain ⟨wh, f, t, o, s, d, z⟩ := x
  dsimp only at hwh ⊢
  have bb := below_box0 W (.cells #[.int .u8 (wh : Int), .int .i64 f, .int .i64 t, .int .i64 o, .int .i64 s, .int .i64 d, .bool z] 73)
  have hcx := heap_alloc_new W (.cells #[.int .u8 (wh : Int), .int .i64 f, .int .i64 t, .int .i64 o, .int .i64 s, .int .i64 d, .bool z] 73)
  have H0 := Lib.hid (h.below bb)
  have HCX := Lib.hid hcx
  have HG := Lib.hid hG
  have HNN := Lib.hid hn
  have n2 := h.t.n2
  have hbcx := blk_lt h.bx
  have dw : ((wh : Int) % 4 == 2) = true := by simp; omega
  clear h bb hcx hG hn
  go_enter Tryd.func35, Tryd.ntmps35
  go_upto_region 3 with fail
  obtain ⟨cx, hcx⟩ : ∃ y, W.heap.size = y := ⟨_, rfl⟩
  rw [hcx] at HCX hbcx ⊢
  generalize World.alloc _ _ = W0 at H0 HCX ⊢
  clear hcx
  have hcl := blk_lt HCX.out
  obtain ⟨ev, hev⟩ : ∃ y, paE f t = y := ⟨_, rfl⟩
  have HR : Hid (∀ W', Below W0.heap.size W0 W' → Calls Tryd.prog 56 #[.agg #[.int .i64 m, .slice (some ⟨g, 0, none⟩) n c], .int .i64 f, .int .i64 t] W' fun e w' => ∃ g' c', e = .returned (.tuple #[.agg #[.int .i64 m, .slice (some ⟨g', 0, none⟩) n c'], .int .i64 ev]) ∧
      (∃ K L, OSt w' Z (.slice (some ⟨g', 0, none⟩) n c') K L (stS (clrX X f t))) ∧ Below W'.heap.size W' w') := Lib.hid (fun W' hb => by
    obtain ⟨K, L, hs⟩ := H0.out.st
    have := rclear_st (m := m) ⟨K, L, hs.below hb⟩ (Nat.le_trans H0.out.zw hb.size) HG.out HNN.out (by rw [HNN.out]; exact n2) f t
    rw [hev] at this
    exact this)
  have a1 : W0.cell? ⟨cx, 1, none⟩ = some (.int .i64 f) := by rw [cell_of_block HCX.out]; rfl
  have a2 : W0.cell? ⟨cx, 2, none⟩ = some (.int .i64 t) := by rw [cell_of_block HCX.out]; rfl
  have a3 : W0.cell? ⟨b, 0, none⟩ = some (.int .i64 m) := by rw [cell_of_block H0.out.bx]; rfl
  have a4 : W0.cell? ⟨b, 1, none⟩ = some (.slice (some ⟨g, 0, none⟩) n c) := by rw [cell_of_block H0.out.bx]; rfl
  have HEV := Lib.hid hev
  clear hev
  go_cut [7, 8] (fun s7 s8 wx => ∃ gx g' c', s7 = .pointer (some ⟨gx, 0, none⟩) ∧ s8 = .int .i64 ev ∧ Hid (CtM W0 wx Z gx g' n c' m (clrX X f t)))
  case first =>
    have HC : Hid (∀ w', Below W0.heap.size W0 w' → w'.cell? ⟨cx, 1, none⟩ = some (.int .i64 f) ∧ w'.cell? ⟨cx, 2, none⟩ = some (.int .i64 t) ∧ w'.cell? ⟨b, 0, none⟩ = some (.int .i64 m) ∧ w'.cell? ⟨b, 1, none⟩ = some (.slice (some ⟨g, 0, none⟩) n c)) := Lib.hid (fun w' h => ⟨cell_later h a1, cell_later h a2, cell_later h a3, cell_later h a4⟩)
    go_region_held3 (fun w' => Below W0.heap.size W0 w' ∧ w'.cell? ⟨cx, 1, none⟩ = some (.int .i64 f) ∧ w'.cell? ⟨cx, 2, none⟩ = some (.int .i64 t) ∧ w'.cell? ⟨b, 0, none⟩ = some (.int .i64 m) ∧ w'.cell? ⟨b, 1, none⟩ = some (.slice (some ⟨g, 0, none⟩) n c))
      ((refine keepN HC ?_; first | exact (Below.refl _ _).drew | exact bel_alloc (by assumption) _ | exact bel_call (by assumption) (by assumption) | exact bel_realloc (by assumption) (by first | omega | (simp; omega) | simp) _ | exact bel_set2 (by assumption) (by first | omega | (simp; omega) | simp) _ _))
      (first | (go_at_call 56; refine (HR.out _ (And.left (by assumption))).mono ?_; rintro e w4 ⟨g', c', rfl, hs4, b4⟩; have hbW : Below W0.heap.size W0 w4 := bel_call (W := W0) (by assumption) b4; have hsz : W0.heap.size ≤ w4.heap.size := hbW.size; first | (refine lay_box b4 (fun hq q0 q1 q2 => ?_)) | skip))
    · go_wp2_with fail
      go_meet
      exact ⟨_, g', c', rfl, rfl, Lib.hid (CtM.new hs4 hbW)⟩
    · go_wp2_with fail
      go_meet
      exact ⟨_, g', c', rfl, rfl, Lib.hid (CtM.old hq (Nat.le_refl _) hs4 hbW)⟩
  case rest =>
    obtain ⟨gx, g', c', rfl, rfl, HCT⟩ := hcut
    have e0 : wc.cell? ⟨gx, 0, none⟩ = some (.int .i64 m) := by rw [cell_of_block HCT.out.hx]; rfl
    have e1 : wc.cell? ⟨gx, 1, none⟩ = some (.slice (some ⟨g', 0, none⟩) n c') := by rw [cell_of_block HCT.out.hx]; rfl
    have hbx := (H0.out.below HCT.out.k).bx
    have b0 : wc.cell? ⟨b, 0, none⟩ = some (.int .i64 m) := by rw [cell_of_block hbx]; rfl
    have b1 : wc.cell? ⟨b, 1, none⟩ = some (.slice (some ⟨g, 0, none⟩) n c) := by rw [cell_of_block hbx]; rfl
    have bf : ∀ j, wc.frozen? ⟨b, j, none⟩ = false := fun j => unfrozen_of_block hbx j
    have HD := Lib.hid (H0.out.cut HCT.out)
    have hc5 : ((wc.setCell ⟨b, 0, none⟩ (.int .i64 m)).setCell ⟨b, 1, none⟩ (.slice (some ⟨g', 0, none⟩) n c')).heap[cx]? = some (.cells #[.int .u8 (wh : Int), .int .i64 f, .int .i64 t, .int .i64 o, .int .i64 s, .int .i64 d, .bool z] 73 (0, 0)) :=
      (Below.heap_setCell _ _ _ _ (by dsimp only; omega)).trans ((Below.heap_setCell _ _ _ _ (by dsimp only; omega)).trans ((HCT.out.k.block _ hcl).trans HCX.out))
    have HC5 := Lib.hid hc5
    clear hbx hc5 a1 a2 a3 a4 HR HCT H0 HCX hcl
    go_upto_region 5 with fail
    generalize World.setCell _ _ _ = W5 at HD HC5 ⊢
    clear e0 e1 b0 b1 bf
    have f1 : W5.cell? ⟨cx, 1, none⟩ = some (.int .i64 f) := by rw [cell_of_block HC5.out]; rfl
    have f2 : W5.cell? ⟨cx, 2, none⟩ = some (.int .i64 t) := by rw [cell_of_block HC5.out]; rfl
    have HCL := Lib.hid (clear_ok HD.out.t HG.out.a HD.out.k.size f t)
    rw [HEV.out] at HCL
    have de : (ev == ev) = true := by simp
    go_wp2_with fail
    refine HCL.out.mono ?_
    rintro e w6 ⟨rfl, t6, f6⟩
    have HD6 := Lib.hid (HD.out.fr f6 t6)
    clear t6 f6 f1 f2 HD HC5 HCL
    go_wp2
    go_ret
    exact ⟨rfl, g', c', HD6.out⟩
end
end Go.Proofs.YtfmclbacoffdaaaDoor

namespace Go.Proofs.YtfmclbacoffdaaaDoor
open Go.RowKit Go.Sort Go.Joins
attribute [local go_sem] cell_grow frozen_grow size_grow
section
variable {w W W' : World} {p q b Z Z' g n c g' c' : Nat} {m : Int} {X X' Y Y' : RM}
set_option maxRecDepth 100000 in
set_option maxHeartbeats 6400000 in
theorem do_set (h : DoM w W p q b Z g n c m X X) (hG : RGood X) (hn : n = X.st.length) (x : Cl) (hw2 : x.wh % 4 ≠ 2) (hw3 : x.wh % 4 ≠ 3) (hT : Tab w) :
    Calls Tryd.prog 35 #[.pointer (some ⟨p, 0, none⟩), .pointer (some ⟨b, 0, none⟩), clV x] W fun e w' => e = .returned (.bool true) ∧ ∃ g' c', DoM w w' p q b Z g' n c' m (setX X x.f x.t x.o x.s x.c x.g) (setX X x.f x.t x.o x.s x.c x.g) := by
  obtain ⟨wh, f, t, o, s, d, z⟩ := x
  dsimp only at hw2 hw3 ⊢
  have bb := below_box0 W (.cells #[.int .u8 (wh : Int), .int .i64 f, .int .i64 t, .int .i64 o, .int .i64 s, .int .i64 d, .bool z] 73)
  have hcx := heap_alloc_new W (.cells #[.int .u8 (wh : Int), .int .i64 f, .int .i64 t, .int .i64 o, .int .i64 s, .int .i64 d, .bool z] 73)
  have H0 := Lib.hid (h.below bb)
  have HCX := Lib.hid hcx
  have HG := Lib.hid hG
  have HNN := Lib.hid hn
  have n2 := h.t.n2
  have hbcx := blk_lt h.bx
  have dw : ((wh : Int) % 4 == 2) = false := by simp; omega
  have dw3 : ((wh : Int) % 4 == 3) = false := by simp; omega
  have HT := Lib.hid hT
  clear h bb hcx hG hn hT
  go_enter Tryd.func35, Tryd.ntmps35
  go_upto_region 12 with fail
  obtain ⟨cx, hcx⟩ : ∃ y, W.heap.size = y := ⟨_, rfl⟩
  rw [hcx] at HCX hbcx ⊢
  generalize World.alloc _ _ = W0 at H0 HCX ⊢
  clear hcx
  have hcl := blk_lt HCX.out
  obtain ⟨ev, hev⟩ : ∃ y, setE X f t o s d = y := ⟨_, rfl⟩
  have HR : Hid (∀ W', Below W0.heap.size W0 W' → Calls Tryd.prog 59 #[.agg #[.int .i64 m, .slice (some ⟨g, 0, none⟩) n c], .int .i64 f, .int .i64 t, dsV o s d z] W' fun e w' => ∃ g' c', e = .returned (.tuple #[.agg #[.int .i64 m, .slice (some ⟨g', 0, none⟩) n c'], .int .i64 ev]) ∧
      (∃ K L, OSt w' Z (.slice (some ⟨g', 0, none⟩) n c') K L (stS (setX X f t o s d z))) ∧ Below W'.heap.size W' w') := Lib.hid (fun W' hb => by
    obtain ⟨K, L, hs⟩ := H0.out.st
    have := rset_st (m := m) ⟨K, L, hs.below hb⟩ (Nat.le_trans H0.out.zw hb.size) HG.out HNN.out (by rw [HNN.out]; exact n2) f t o s d z
    rw [hev] at this
    exact this)
  have a1 : W0.cell? ⟨cx, 1, none⟩ = some (.int .i64 f) := by rw [cell_of_block HCX.out]; rfl
  have a2 : W0.cell? ⟨cx, 2, none⟩ = some (.int .i64 t) := by rw [cell_of_block HCX.out]; rfl
  have a5 : W0.cell? ⟨cx, 3, none⟩ = some (.int .i64 o) := by rw [cell_of_block HCX.out]; rfl
  have a6 : W0.cell? ⟨cx, 3 + 1, none⟩ = some (.int .i64 s) := by rw [cell_of_block HCX.out]; rfl
  have a7 : W0.cell? ⟨cx, 3 + 2, none⟩ = some (.int .i64 d) := by rw [cell_of_block HCX.out]; rfl
  have a8 : W0.cell? ⟨cx, 3 + 3, none⟩ = some (.bool z) := by rw [cell_of_block HCX.out]; rfl
  have a3 : W0.cell? ⟨b, 0, none⟩ = some (.int .i64 m) := by rw [cell_of_block H0.out.bx]; rfl
  have a4 : W0.cell? ⟨b, 1, none⟩ = some (.slice (some ⟨g, 0, none⟩) n c) := by rw [cell_of_block H0.out.bx]; rfl
  have HEV := Lib.hid hev
  clear hev
  go_cut [17, 18] (fun s7 s8 wx => ∃ gx g' c', s7 = .pointer (some ⟨gx, 0, none⟩) ∧ s8 = .int .i64 ev ∧ Hid (CtM W0 wx Z gx g' n c' m (setX X f t o s d z)))
  case first =>
    have HC : Hid (∀ w', Below W0.heap.size W0 w' → w'.cell? ⟨cx, 1, none⟩ = some (.int .i64 f) ∧ w'.cell? ⟨cx, 2, none⟩ = some (.int .i64 t) ∧ w'.cell? ⟨cx, 3, none⟩ = some (.int .i64 o) ∧ w'.cell? ⟨cx, 4, none⟩ = some (.int .i64 s) ∧ w'.cell? ⟨cx, 5, none⟩ = some (.int .i64 d) ∧ w'.cell? ⟨cx, 6, none⟩ = some (.bool z) ∧ w'.cell? ⟨b, 0, none⟩ = some (.int .i64 m) ∧ w'.cell? ⟨b, 1, none⟩ = some (.slice (some ⟨g, 0, none⟩) n c)) := Lib.hid (fun w' h => ⟨cell_later h a1, cell_later h a2, cell_later h a5, cell_later h a6, cell_later h a7, cell_later h a8, cell_later h a3, cell_later h a4⟩)
    go_region_held3 (fun w' => Below W0.heap.size W0 w' ∧ w'.cell? ⟨cx, 1, none⟩ = some (.int .i64 f) ∧ w'.cell? ⟨cx, 2, none⟩ = some (.int .i64 t) ∧ w'.cell? ⟨cx, 3, none⟩ = some (.int .i64 o) ∧ w'.cell? ⟨cx, 4, none⟩ = some (.int .i64 s) ∧ w'.cell? ⟨cx, 5, none⟩ = some (.int .i64 d) ∧ w'.cell? ⟨cx, 6, none⟩ = some (.bool z) ∧ w'.cell? ⟨b, 0, none⟩ = some (.int .i64 m) ∧ w'.cell? ⟨b, 1, none⟩ = some (.slice (some ⟨g, 0, none⟩) n c))
      ((refine keepN HC ?_; first | exact (Below.refl _ _).drew | exact bel_alloc (by assumption) _ | exact bel_call (by assumption) (by assumption) | exact bel_realloc (by assumption) (by first | omega | (simp; omega) | simp) _ | exact bel_set2 (by assumption) (by first | omega | (simp; omega) | simp) _ _))
      (first | (go_at_call 59; refine (HR.out _ (And.left (by assumption))).mono ?_; rintro e w4 ⟨g', c', rfl, hs4, b4⟩; have hbW : Below W0.heap.size W0 w4 := bel_call (W := W0) (by assumption) b4; have hsz : W0.heap.size ≤ w4.heap.size := hbW.size; first | (refine lay_box b4 (fun hq q0 q1 q2 => ?_)) | skip))
    · go_wp2_with fail
      go_meet
      exact ⟨_, g', c', rfl, rfl, Lib.hid (CtM.new hs4 hbW)⟩
    · go_wp2_with fail
      go_meet
      exact ⟨_, g', c', rfl, rfl, Lib.hid (CtM.old hq (Nat.le_refl _) hs4 hbW)⟩
  case rest =>
    obtain ⟨gx, g', c', rfl, rfl, HCT⟩ := hcut
    have e0 : wc.cell? ⟨gx, 0, none⟩ = some (.int .i64 m) := by rw [cell_of_block HCT.out.hx]; rfl
    have e1 : wc.cell? ⟨gx, 1, none⟩ = some (.slice (some ⟨g', 0, none⟩) n c') := by rw [cell_of_block HCT.out.hx]; rfl
    have hbx := (H0.out.below HCT.out.k).bx
    have b0 : wc.cell? ⟨b, 0, none⟩ = some (.int .i64 m) := by rw [cell_of_block hbx]; rfl
    have b1 : wc.cell? ⟨b, 1, none⟩ = some (.slice (some ⟨g, 0, none⟩) n c) := by rw [cell_of_block hbx]; rfl
    have bf : ∀ j, wc.frozen? ⟨b, j, none⟩ = false := fun j => unfrozen_of_block hbx j
    have HD := Lib.hid (H0.out.cut HCT.out)
    have hc5 : ((wc.setCell ⟨b, 0, none⟩ (.int .i64 m)).setCell ⟨b, 1, none⟩ (.slice (some ⟨g', 0, none⟩) n c')).heap[cx]? = some (.cells #[.int .u8 (wh : Int), .int .i64 f, .int .i64 t, .int .i64 o, .int .i64 s, .int .i64 d, .bool z] 73 (0, 0)) :=
      (Below.heap_setCell _ _ _ _ (by dsimp only; omega)).trans ((Below.heap_setCell _ _ _ _ (by dsimp only; omega)).trans ((HCT.out.k.block _ hcl).trans HCX.out))
    have HC5 := Lib.hid hc5
    clear hbx hc5 a1 a2 a3 a4 a5 a6 a7 a8 HR HCT H0 HCX hcl
    go_upto_region 14 with fail
    generalize World.setCell _ _ _ = W5 at HD HC5 ⊢
    clear e0 e1 b0 b1 bf
    have f1 : W5.cell? ⟨cx, 1, none⟩ = some (.int .i64 f) := by rw [cell_of_block HC5.out]; rfl
    have f2 : W5.cell? ⟨cx, 2, none⟩ = some (.int .i64 t) := by rw [cell_of_block HC5.out]; rfl
    have f3 : W5.cell? ⟨cx, 3, none⟩ = some (.int .i64 o) := by rw [cell_of_block HC5.out]; rfl
    have f4 : W5.cell? ⟨cx, 3 + 1, none⟩ = some (.int .i64 s) := by rw [cell_of_block HC5.out]; rfl
    have f5 : W5.cell? ⟨cx, 3 + 2, none⟩ = some (.int .i64 d) := by rw [cell_of_block HC5.out]; rfl
    have f6 : W5.cell? ⟨cx, 3 + 3, none⟩ = some (.bool z) := by rw [cell_of_block HC5.out]; rfl
    have hlt := HT.out.lt
    have hpp := HD.out.t.hp
    have hqq := HD.out.t.hq
    have HCL := Lib.hid (set_ok (by omega) (by omega) (HT.out.below HD.out.k) HD.out.t HG.out.a HD.out.k.size f t o s d z)
    rw [HEV.out] at HCL
    have de : (ev == ev) = true := by simp
    go_wp2_with fail
    refine HCL.out.mono ?_
    rintro e w6 ⟨rfl, t6, fr6⟩
    have HD6 := Lib.hid (HD.out.fr fr6 t6)
    clear t6 fr6 f1 f2 f3 f4 f5 f6 hlt hpp hqq HD HC5 HCL
    go_wp2
    go_ret
    exact ⟨rfl, g', c', HD6.out⟩
end
end Go.Proofs.YtfmclbacoffdaaaDoor

namespace Go.Proofs.YtfmclbacoffdaaaDoor
open Go.RowKit Go.Sort Go.Joins
attribute [local go_sem] cell_grow frozen_grow size_grow
/-- how many pages Owned tells, and which -/
def owN (X : RM) (o : Int) : Nat := if owE o = 0 then (owL X o (wL X 0 1024)).length else 0
def owF (X : RM) (o : Int) (j : Nat) : Int := (((owL X o (wL X 0 1024)).getD j 0 : Nat) : Int)
theorem owN_le (X : RM) (o : Int) : owN X o ≤ 1024 := by
  unfold owN
  split
  · exact owL_len X o 1024
  · exact Nat.zero_le _
theorem owE_ways (o : Int) : (owE o = 0 ∧ 0 ≤ o ∧ o ≤ 4095) ∨ (owE o = 7 ∧ (o < 0 ∨ 4095 < o)) := by
  unfold owE
  by_cases h : o < 0 ∨ 4095 < o
  · exact .inr ⟨if_pos h, h⟩
  · exact .inl ⟨if_neg h, by omega, by omega⟩
theorem owned_rd {w : World} {B p q : Nat} {X : RM} (h : TM w B p q X.st X.m X.r) (hG : RGood X) (o : Int) :
    Calls Tryd.prog 27 #[.pointer (some ⟨p, 0, none⟩), .int .i64 o] w fun e w' => ∃ a c, e = .returned (.tuple #[.slice a (owN X o) c, .int .i64 (owE o)]) ∧ RdV w' a (owN X o) (owF X o) ∧ Below w.heap.size w w' := by
  rcases owE_ways o with ⟨h1, h2, h3⟩ | ⟨h1, h2⟩
  · have hn : owN X o = (owL X o (wL X 0 1024)).length := by unfold owN; rw [if_pos h1]
    rw [h1, hn]
    refine (owned_in h hG o h2 h3).mono fun e w' ⟨a, c, he, ho, hb⟩ => ⟨a, c, he, RdV.of_own ho rfl, hb⟩
  · have hn : owN X o = 0 := by unfold owN; rw [if_neg (by rw [h1]; decide)]
    rw [h1, hn]
    exact (owned_bad h o h2).mono fun e w' ⟨he, hb⟩ => ⟨none, 0, he, .inl rfl, hb⟩
theorem rowned_rd {w : World} {a : Option Addr} {X : RM} {n c : Nat} {m : Int} (h : StR w a (stS X)) (hG : RGood X) (hn : n = X.st.length) (hn2 : n ≤ 145) (o : Int) :
    Calls Tryd.prog 58 #[.agg #[.int .i64 m, .slice a n c], .int .i64 o] w fun e w' => ∃ b d, e = .returned (.tuple #[.slice b (owN X o) d, .int .i64 (owE o)]) ∧ RdV w' b (owN X o) (owF X o) ∧ Below w.heap.size w w' := by
  rcases owE_ways o with ⟨h1, h2, h3⟩ | ⟨h1, h2⟩
  · have hn' : owN X o = (owL X o (wL X 0 1024)).length := by unfold owN; rw [if_pos h1]
    rw [h1, hn']
    exact rowned_in h hG hn hn2 h2 h3
  · have hn' : owN X o = 0 := by unfold owN; rw [if_neg (by rw [h1]; decide)]
    rw [h1, hn']
    exact (rowned_bad h2 w).mono fun e w' ⟨he, hb⟩ => ⟨none, 0, he, .inl rfl, hb⟩
theorem lay_box4 {G : Prop} {W w' : World} {a b c d : Value} {T : TypeId} (hb : Below (W.alloc (.cells #[a, b, c, d] T)).drew.heap.size (W.alloc (.cells #[a, b, c, d] T)).drew w')
    (k : w'.heap[W.heap.size]? = some (.cells #[a, b, c, d] T (0, 0)) → w'.cell? ⟨W.heap.size, 0, none⟩ = some a → w'.cell? ⟨W.heap.size, 1, none⟩ = some b → w'.cell? ⟨W.heap.size, 2, none⟩ = some c → w'.cell? ⟨W.heap.size, 3, none⟩ = some d → (∀ j, w'.frozen? ⟨W.heap.size, j, none⟩ = false) → G) : G := by
  have h : w'.heap[W.heap.size]? = some (.cells #[a, b, c, d] T (0, 0)) := (hb.block _ (by simp)).trans (heap_alloc_new W _)
  exact k h (by rw [cell_of_block h]; rfl) (by rw [cell_of_block h]; rfl) (by rw [cell_of_block h]; rfl) (by rw [cell_of_block h]; rfl) (fun j => unfrozen_of_block h j)
theorem bel_set4 {W cur : World} {C : Prop} (h : Below W.heap.size W cur ∧ C) {g : Nat} (hg : W.heap.size ≤ g) (u v x y : Value) : Below W.heap.size W ((((cur.setCell ⟨g, 0, none⟩ u).setCell ⟨g, 1, none⟩ v).setCell ⟨g, 2, none⟩ x).setCell ⟨g, 3, none⟩ y) :=
  (((h.1.setCell (p := ⟨g, 0, none⟩) hg u).setCell (p := ⟨g, 1, none⟩) hg v).setCell (p := ⟨g, 2, none⟩) hg x).setCell (p := ⟨g, 3, none⟩) hg y
/-- a description in a box -/
structure DxM (W wx : World) (gx : Nat) (o s t : Int) (z : Bool) : Prop where
  hx : wx.heap[gx]? = some (.cells #[.int .i64 o, .int .i64 s, .int .i64 t, .bool z] 23 (0, 0))
  k : Below W.heap.size W wx
theorem DxM.new {W W1 : World} {o s t : Int} {z : Bool} (hk : Below W.heap.size W W1) : DxM W (W1.alloc (.cells #[.int .i64 o, .int .i64 s, .int .i64 t, .bool z] 23)) W1.heap.size o s t z :=
  ⟨heap_alloc_new W1 _, below_tr hk (below_box0 W1 _)⟩
theorem DxM.old {W W1 : World} {gx : Nat} {a b c d : Value} {o s t : Int} {z : Bool} (hx : W1.heap[gx]? = some (.cells #[a, b, c, d] 23 (0, 0))) (hg : W.heap.size ≤ gx) (hk : Below W.heap.size W W1) :
    DxM W ((((W1.setCell ⟨gx, 0, none⟩ (.int .i64 o)).setCell ⟨gx, 1, none⟩ (.int .i64 s)).setCell ⟨gx, 2, none⟩ (.int .i64 t)).setCell ⟨gx, 3, none⟩ (.bool z)) gx o s t z := by
  have h1 : (W1.setCell ⟨gx, 0, none⟩ (.int .i64 o)).heap[gx]? = some (.cells #[.int .i64 o, b, c, d] 23 (0, 0)) := by rw [setCell_block hx]; simp
  have h2 : ((W1.setCell ⟨gx, 0, none⟩ (.int .i64 o)).setCell ⟨gx, 1, none⟩ (.int .i64 s)).heap[gx]? = some (.cells #[.int .i64 o, .int .i64 s, c, d] 23 (0, 0)) := by rw [setCell_block h1]; simp
  have h3 : (((W1.setCell ⟨gx, 0, none⟩ (.int .i64 o)).setCell ⟨gx, 1, none⟩ (.int .i64 s)).setCell ⟨gx, 2, none⟩ (.int .i64 t)).heap[gx]? = some (.cells #[.int .i64 o, .int .i64 s, .int .i64 t, d] 23 (0, 0)) := by rw [setCell_block h2]; simp
  refine ⟨?_, bel_set4 ⟨hk, trivial⟩ hg _ _ _ _⟩
  rw [setCell_block h3]; simp
section
variable {w W W' : World} {p q b Z Z' g n c g' c' : Nat} {m : Int} {X X' Y Y' : RM}
set_option maxRecDepth 100000 in
set_option maxHeartbeats 6400000 in
theorem do_ask (h : DoM w W p q b Z g n c m X X) (hG : RGood X) (hn : n = X.st.length) (x : Cl) (hw3 : x.wh % 4 = 3) :
    Calls Tryd.prog 35 #[.pointer (some ⟨p, 0, none⟩), .pointer (some ⟨b, 0, none⟩), clV x] W fun e w' => e = .returned (.bool true) ∧ ∃ g' c', DoM w w' p q b Z g' n c' m X X := by
  obtain ⟨wh, f, t, o, s, d, z⟩ := x
  dsimp only at hw3 ⊢
  have bb := below_box0 W (.cells #[.int .u8 (wh : Int), .int .i64 f, .int .i64 t, .int .i64 o, .int .i64 s, .int .i64 d, .bool z] 73)
  have hcx := heap_alloc_new W (.cells #[.int .u8 (wh : Int), .int .i64 f, .int .i64 t, .int .i64 o, .int .i64 s, .int .i64 d, .bool z] 73)
  have H0 := Lib.hid (h.below bb)
  have HCX := Lib.hid hcx
  have HG := Lib.hid hG
  have HNN := Lib.hid hn
  have n2 := h.t.n2
  have hbcx := blk_lt h.bx
  have dw : ((wh : Int) % 4 == 2) = false := by simp; omega
  have dw3 : ((wh : Int) % 4 == 3) = true := by simp; omega
  clear h bb hcx hG hn
  go_enter Tryd.func35, Tryd.ntmps35
  go_upto_region 7 with fail
  obtain ⟨cx, hcx⟩ : ∃ y, W.heap.size = y := ⟨_, rfl⟩
  rw [hcx] at HCX hbcx ⊢
  generalize World.alloc _ _ = W0 at H0 HCX ⊢
  clear hcx
  obtain ⟨vo, vs, vt, vg, hv⟩ := getV_dsv X f
  obtain ⟨ev, hev⟩ : ∃ y, getE X f = y := ⟨_, rfl⟩
  have a1 : W0.cell? ⟨cx, 1, none⟩ = some (.int .i64 f) := by rw [cell_of_block HCX.out]; rfl
  have HGP := Lib.hid (get_ok H0.out.t HG.out.a HG.out.w f)
  rw [hv, hev] at HGP
  have HV := Lib.hid hv
  have HEV := Lib.hid hev
  clear hv hev
  go_wp2_with fail
  refine HGP.out.mono ?_
  rintro e w1 ⟨rfl, b1⟩
  have bb1 := below_tr b1 (below_box0 w1 (.cells #[.int .i64 vo, .int .i64 vs, .int .i64 vt, .bool vg] 23))
  have H1 := Lib.hid (H0.out.below bb1)
  have HC1 := Lib.hid ((bb1.block _ (blk_lt HCX.out)).trans HCX.out)
  have HY1 := Lib.hid (heap_alloc_new w1 (.cells #[.int .i64 vo, .int .i64 vs, .int .i64 vt, .bool vg] 23))
  clear b1 bb1 a1 HGP H0 HCX
  go_upto_region 8 with fail
  obtain ⟨gy, hgy⟩ : ∃ y, w1.heap.size = y := ⟨_, rfl⟩
  rw [hgy] at HY1 ⊢
  generalize World.alloc _ _ = W1 at H1 HC1 HY1 ⊢
  clear hgy
  have HR : Hid (∀ W', Below W1.heap.size W1 W' → Calls Tryd.prog 57 #[.agg #[.int .i64 m, .slice (some ⟨g, 0, none⟩) n c], .int .i64 f] W' fun e w' => e = .returned (.tuple #[dsV vo vs vt vg, .int .i64 ev]) ∧ Below W'.heap.size W' w') := Lib.hid (fun W' hb => by
    obtain ⟨K, L, hs⟩ := H1.out.st
    have := rget_ok7 (m := m) (c := c) (hs.below hb).str HG.out HNN.out (by rw [HNN.out]; exact n2) f
    rw [HV.out, HEV.out] at this
    exact this)
  have a1 : W1.cell? ⟨cx, 1, none⟩ = some (.int .i64 f) := by rw [cell_of_block HC1.out]; rfl
  have a3 : W1.cell? ⟨b, 0, none⟩ = some (.int .i64 m) := by rw [cell_of_block H1.out.bx]; rfl
  have a4 : W1.cell? ⟨b, 1, none⟩ = some (.slice (some ⟨g, 0, none⟩) n c) := by rw [cell_of_block H1.out.bx]; rfl
  go_cut [11, 12] (fun s7 s8 wx => ∃ gx, s7 = .pointer (some ⟨gx, 0, none⟩) ∧ s8 = .int .i64 ev ∧ Hid (DxM W1 wx gx vo vs vt vg))
  case first =>
    have HC : Hid (∀ w', Below W1.heap.size W1 w' → w'.cell? ⟨cx, 1, none⟩ = some (.int .i64 f) ∧ w'.cell? ⟨b, 0, none⟩ = some (.int .i64 m) ∧ w'.cell? ⟨b, 1, none⟩ = some (.slice (some ⟨g, 0, none⟩) n c)) := Lib.hid (fun w' h => ⟨cell_later h a1, cell_later h a3, cell_later h a4⟩)
    go_region_held3 (fun w' => Below W1.heap.size W1 w' ∧ w'.cell? ⟨cx, 1, none⟩ = some (.int .i64 f) ∧ w'.cell? ⟨b, 0, none⟩ = some (.int .i64 m) ∧ w'.cell? ⟨b, 1, none⟩ = some (.slice (some ⟨g, 0, none⟩) n c))
      ((refine keepN HC ?_; first | exact (Below.refl _ _).drew | exact bel_alloc (by assumption) _ | exact bel_call (by assumption) (by assumption) | exact bel_realloc (by assumption) (by first | omega | (simp; omega) | simp) _ | exact bel_set4 (by assumption) (by first | omega | (simp; omega) | simp) _ _ _ _))
      (first | (go_at_call 57; refine (HR.out _ (And.left (by assumption))).mono ?_; rintro e w4 ⟨rfl, b4⟩; have hbW : Below W1.heap.size W1 w4 := bel_call (W := W1) (by assumption) b4; have hsz : W1.heap.size ≤ w4.heap.size := hbW.size; first | (refine lay_box4 b4 (fun hq q0 q1 q2 q3 q4 => ?_)) | skip))
    · go_wp2_with fail
      go_meet
      exact ⟨_, rfl, rfl, Lib.hid (DxM.new hbW)⟩
    · go_wp2_with fail
      go_meet
      exact ⟨_, rfl, rfl, Lib.hid (DxM.old hq (Nat.le_refl _) hbW)⟩
  case rest =>
    obtain ⟨gx, rfl, rfl, HDX⟩ := hcut
    have H2 := Lib.hid (H1.out.below HDX.out.k)
    have HC2 := Lib.hid ((HDX.out.k.block _ (blk_lt HC1.out)).trans HC1.out)
    have HY2 := Lib.hid ((HDX.out.k.block _ (blk_lt HY1.out)).trans HY1.out)
    have HX2 := Lib.hid HDX.out.hx
    have f2 : wc.cell? ⟨cx, 2, none⟩ = some (.int .i64 t) := by rw [cell_of_block HC2.out]; rfl
    obtain ⟨on, hon⟩ : ∃ y, owN X t = y := ⟨_, rfl⟩
    obtain ⟨oe, hoe⟩ : ∃ y, owE t = y := ⟨_, rfl⟩
    have hle : on ≤ 1024 := by rw [← hon]; exact owN_le X t
    have HO := Lib.hid (owned_rd H2.out.t HG.out t)
    rw [hon, hoe] at HO
    have HRO : Hid (∀ W', Below wc.heap.size wc W' → Calls Tryd.prog 58 #[.agg #[.int .i64 m, .slice (some ⟨g, 0, none⟩) n c], .int .i64 t] W' fun e w' => ∃ b d, e = .returned (.tuple #[.slice b on d, .int .i64 oe]) ∧ RdV w' b on (owF X t) ∧ Below W'.heap.size W' w') := Lib.hid (fun W' hb => by
      obtain ⟨K, L, hs⟩ := H2.out.st
      have := rowned_rd (m := m) (c := c) (hs.below hb).str HG.out HNN.out (by rw [HNN.out]; exact n2) t
      rw [hon, hoe] at this
      exact this)
    clear a1 a3 a4 HR HDX H1 HC1 HY1 hon hoe
    go_wp2_with fail
    refine HO.out.mono ?_
    rintro e w5 ⟨oa, oc, rfl, r5, b5⟩
    have H5 := Lib.hid (H2.out.below b5)
    have HC5 := Lib.hid ((b5.block _ (blk_lt HC2.out)).trans HC2.out)
    have HY5 := Lib.hid ((b5.block _ (blk_lt HY2.out)).trans HY2.out)
    have HX5 := Lib.hid ((b5.block _ (blk_lt HX2.out)).trans HX2.out)
    have R5 := Lib.hid r5
    have B5 := Lib.hid b5
    have a1 : w5.cell? ⟨cx, 2, none⟩ = some (.int .i64 t) := by rw [cell_of_block HC5.out]; rfl
    have a3 : w5.cell? ⟨b, 0, none⟩ = some (.int .i64 m) := by rw [cell_of_block H5.out.bx]; rfl
    have a4 : w5.cell? ⟨b, 1, none⟩ = some (.slice (some ⟨g, 0, none⟩) n c) := by rw [cell_of_block H5.out.bx]; rfl
    clear r5 b5 f2 HO H2 HC2 HY2 HX2
    go_upto_region 10 with fail
    have HC : Hid (∀ w', Below w5.heap.size w5 w' → w'.cell? ⟨cx, 2, none⟩ = some (.int .i64 t) ∧ w'.cell? ⟨b, 0, none⟩ = some (.int .i64 m) ∧ w'.cell? ⟨b, 1, none⟩ = some (.slice (some ⟨g, 0, none⟩) n c)) := Lib.hid (fun w' h => ⟨cell_later h a1, cell_later h a3, cell_later h a4⟩)
    go_region_held3 (fun w' => Below w5.heap.size w5 w' ∧ w'.cell? ⟨cx, 2, none⟩ = some (.int .i64 t) ∧ w'.cell? ⟨b, 0, none⟩ = some (.int .i64 m) ∧ w'.cell? ⟨b, 1, none⟩ = some (.slice (some ⟨g, 0, none⟩) n c))
      ((refine keepN HC ?_; first | exact (Below.refl _ _).drew | exact bel_call (by assumption) (by assumption)))
      (first | (go_at_call 58; refine (HRO.out _ (below_tr B5.out (And.left (by assumption)))).mono ?_; rintro e w6 ⟨pa, pc, rfl, r6, b6⟩; have hbW : Below w5.heap.size w5 w6 := bel_call (W := w5) (by assumption) b6))
    rename_i hheld
    clear hheld
    have H6 := Lib.hid (H5.out.below hbW)
    have hy6 := (hbW.block _ (blk_lt HY5.out)).trans HY5.out
    have hx6 := (hbW.block _ (blk_lt HX5.out)).trans HX5.out
    have y0 : w6.cell? ⟨gy, 0, none⟩ = some (.int .i64 vo) := by rw [cell_of_block hy6]; rfl
    have y1 : w6.cell? ⟨gy, 1, none⟩ = some (.int .i64 vs) := by rw [cell_of_block hy6]; rfl
    have y2 : w6.cell? ⟨gy, 2, none⟩ = some (.int .i64 vt) := by rw [cell_of_block hy6]; rfl
    have y3 : w6.cell? ⟨gy, 3, none⟩ = some (.bool vg) := by rw [cell_of_block hy6]; rfl
    have x0 : w6.cell? ⟨gx, 0, none⟩ = some (.int .i64 vo) := by rw [cell_of_block hx6]; rfl
    have x1 : w6.cell? ⟨gx, 1, none⟩ = some (.int .i64 vs) := by rw [cell_of_block hx6]; rfl
    have x2 : w6.cell? ⟨gx, 2, none⟩ = some (.int .i64 vt) := by rw [cell_of_block hx6]; rfl
    have x3 : w6.cell? ⟨gx, 3, none⟩ = some (.bool vg) := by rw [cell_of_block hx6]; rfl
    have HSM := Lib.hid (same_ok7 (c := oc) (d := pc) (R5.out.below hbW) r6 (by omega))
    have heq : ∀ W : World, Sem.run Tryd.prog (binOp .eql 23 (dsV vo vs vt vg) (dsV vo vs vt vg)) W = .ok (.bool true) W := fun W => by
      rw [eql_descB]
      simp
    have de : (ev == ev) = true := by simp
    have doe : (oe == oe) = true := by simp
    clear a1 a3 a4 hy6 hx6 hbW r6 b6 HC HRO B5 R5 HC5 HY5 HX5 H5
    go_wp2_with fail
    refine HSM.out.mono ?_
    rintro e w7 ⟨rfl, b7⟩
    have H7 := Lib.hid (H6.out.below b7)
    clear b7 H6 HSM y0 y1 y2 y3 x0 x1 x2 x3
    go_wp2
    go_ret
    exact ⟨rfl, g, c, H7.out⟩
/-- a call of the law, on both -/
theorem do_ok (h : DoM w W p q b Z g n c m X X) (hG : RGood X) (hn : n = X.st.length) (hT : Tab w) (x : Cl) :
    Calls Tryd.prog 35 #[.pointer (some ⟨p, 0, none⟩), .pointer (some ⟨b, 0, none⟩), clV x] W fun e w' => e = .returned (.bool true) ∧ ∃ g' c', DoM w w' p q b Z g' n c' m (doC X x) (doC X x) := by
  unfold doC
  by_cases h2 : x.wh % 4 = 2
  · rw [if_pos h2]
    exact do_clr h hG hn x h2
  · rw [if_neg h2]
    by_cases h3 : x.wh % 4 = 3
    · rw [if_pos h3]
      exact do_ask h hG hn x h3
    · rw [if_neg h3]
      exact do_set h hG hn x h2 h3 hT
theorem RGood.doC (h : RGood X) (x : Cl) : RGood (doC X x) := by
  unfold Go.Proofs.YtfmclbacoffdaaaDoor.doC
  split
  · exact h.clrX _ _
  · split
    · exact h
    · exact h.setX _ _ _ _ _ _
end
end Go.Proofs.YtfmclbacoffdaaaDoor
