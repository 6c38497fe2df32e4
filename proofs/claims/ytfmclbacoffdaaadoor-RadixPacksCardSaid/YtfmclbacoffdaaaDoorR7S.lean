/- The radix map: Set. -/
import Derived.Test.YtfmclbacoffdaaaDoorR7C
import Derived.Test.YtfmclbacoffdaaaDoorR7GU
import Derived.Test.YtfmclbacoffdaaaDoorR7New
namespace Go.Proofs.YtfmclbacoffdaaaDoor
open Go.RowKit Go.Sort Go.Joins
attribute [local go_sem] cell_grow frozen_grow size_grow
/-- a page may be put -/
structure PutP (X : RM) (p : Nat) : Prop where
  ok : putOk X p = true
  a : mdI X.st p = 0 → frI X ≠ 0 ∧ -1 ≤ (X.N 0).lv ∧ (X.N 0).lv ≤ 2 ∧ (X.N 0).mn ≤ 1000
  b : lfI X.st p = 0 → frI (putA X p) ≠ putAI X p ∧ -1 ≤ ((putA X p).N (putAI X p)).lv ∧ ((putA X p).N (putAI X p)).lv ≤ 2 ∧ ((putA X p).N (putAI X p)).mn ≤ 1000
  c : ((putB X p).N (putBI X p)).mn ≤ 1000
  m : X.m ≤ 1000
theorem quiet_more {P : Program} {f : FuncId} {args : Array Value} {w : World} {n : Nat} {v : Value}
    (h : Calls P f args (w.drewN n) fun e w' => e = .returned v ∧ ∃ m, w' = (w.drewN n).drewN m) : Calls P f args (w.drewN n) fun e w'' => e = .returned v ∧ ∃ m, w'' = w.drewN m :=
  h.mono fun _ _ ⟨he, m, hm⟩ => ⟨he, n + m, by rw [hm, World.drewN_drewN]⟩
theorem putA_m (X : RM) (p : Nat) : (putA X p).m ≤ X.m + 1 := by
  unfold putA
  split
  · exact Nat.le_refl _
  · exact Nat.le_succ _
theorem Tab.fr {p q : Nat} {w w' : World} (h : Tab w) (k : Fr p q w w') (hp : 0 ≠ p) (hq : 0 ≠ q) : Tab w' := fun i hi => by
  have h0 := World.block_lt_of_cell? _ _ (h i hi)
  rw [World.cell?_of_block (w := w) (k.block 0 h0 hp hq)]
  exact h i hi
section
variable {w : World} {B p q : Nat}
set_option maxRecDepth 100000 in
set_option maxHeartbeats 6400000 in
theorem set_in (htp : 0 ≠ p) (htq : 0 ≠ q) (hT : Tab w) {X : RM} (h : TM w B p q X.st X.m X.r) (hB : B ≤ w.heap.size) {f t : Nat} (hft : f ≤ t) (ht : t ≤ 1024) (hk : ∀ k, k < 16 → (X.st.getD 0 ndZ).kd k < X.st.length) (o s c : Int) (g : Bool) (hE : pkE o s c = 0)
    (hroom : X.m + needF X.st (t - f) f (-1) (-1) ≤ X.st.length) (hP : ∀ j, j < t - f → PutP (setM (pkW o s c g).toNat j X f) (f + j)) (hm : X.m ≤ 1000) :
    Calls Tryd.prog 32 #[.pointer (some ⟨p, 0, none⟩), .int .i64 f, .int .i64 t, dsV o s c g] w fun e w' => e = .returned (.int .i64 0) ∧
      TM w' B p q (setM (pkW o s c g).toNat (t - f) X f).st (setM (pkW o s c g).toNat (t - f) X f).m (setM (pkW o s c g).toNat (t - f) X f).r ∧ Fr p q w w' := by
  have b0 := below_box0 w (.cells #[.int .i64 o, .int .i64 s, .int .i64 c, .bool g] 23)
  have HF0 := Lib.hid (Fr.of_below (p := p) (q := q) b0)
  have h0 := h.below b0
  have H0 := Lib.hid h0
  have HPa := Lib.hid (part_ok h0 f t)
  have hpa : paE f t = 0 := by unfold paE; rw [if_neg (by omega)]
  rw [hpa] at HPa
  have HPk := Lib.hid (pack_ok o s c g)
  rw [pkV_ok hE, hE] at HPk
  have hb := pkW_bd (h := g) hE
  obtain ⟨x, hx⟩ : ∃ x : Nat, (pkW o s c g).toNat = x := ⟨_, rfl⟩
  have hxi : pkW o s c g = (x : Int) := by omega
  rw [hx] at hP ⊢
  rw [hxi] at HPk
  have HPP := Lib.hid hP
  have HN := Lib.hid (fun (W : World) (hb : Below (w.alloc (.cells #[.int .i64 o, .int .i64 s, .int .i64 c, .bool g] 23)).heap.size (w.alloc (.cells #[.int .i64 o, .int .i64 s, .int .i64 c, .bool g] 23)) W) => needed_ok (h0.below hb) hft ht hk)
  obtain ⟨nd, hnd⟩ : ∃ z, needF X.st (t - f) f (-1) (-1) = z := ⟨_, rfl⟩
  rw [hnd] at HN hroom
  have n2 := h0.n2
  have hroomi : decide ((X.st.length : Int) < (X.m : Int) + (nd : Int)) = false := decide_eq_false (by omega)
  have hwn : IntKind.i64.wrap ((X.m : Int) + (nd : Int)) = (X.m : Int) + (nd : Int) := IntWalk.i64_in _ (by omega)
  have HK := Lib.hid hk
  have HTW := Lib.hid hT
  have HBB := Lib.hid hB
  clear b0 h0 h hpa hb hx hxi hP hnd hk hT hE hB hroom
  go_enter Tryd.func32, Tryd.ntmps32
  go_wp2_with fail
  refine HPa.out.mono ?_
  rintro e w1 ⟨rfl, rfl⟩
  go_wp2_with fail
  refine (HPk.out _).mono ?_
  rintro e w2 ⟨rfl, b2⟩
  have B2 := Lib.hid b2
  have H2 := Lib.hid (H0.out.below b2)
  have c0 := H2.out.c0
  have c3 := H2.out.c3
  clear b2
  go_wp2_with fail
  go_quiet (first | (go_at_call 54; exact quiet_more (HN.out (w2.drewN _) (below_tr B2.out (below_draw _ _)))))
  go_wp2
  go_loopw [12] (fun i wr => ∃ pg : Nat, i = .int .i64 pg ∧ f ≤ pg ∧ pg ≤ t ∧ Hid (TM wr B p q (setM x (pg - f) X f).st (setM x (pg - f) X f).m (setM x (pg - f) X f).r) ∧ Hid (Fr p q w wr)) (fun i _ => t - (intOf i).toNat)
  case atStart =>
    refine ⟨f, rfl, Nat.le_refl _, hft, Lib.hid ?_, Lib.hid ?_⟩
    · rw [Nat.sub_self]; exact H2.out.below (below_draw _ _)
    · exact HF0.out.trans (Fr.of_below (below_tr B2.out (below_draw _ _)))
  case round =>
    obtain ⟨pg, rfl, hp1, hp2, HT, HF⟩ := hrel
    by_cases hlt : pg < t
    · have hPj := HPP.out (pg - f) (by omega)
      rw [show f + (pg - f) = pg by omega] at hPj
      have HNX : Hid (setM x (pg + 1 - f) X f = putM (setM x (pg - f) X f) x pg) := Lib.hid (by
        rw [show pg + 1 - f = (pg - f) + 1 by omega]
        show putM (setM x (pg - f) X f) x (f + (pg - f)) = _
        rw [show f + (pg - f) = pg by omega])
      obtain ⟨Y, hY⟩ : ∃ Y, setM x (pg - f) X f = Y := ⟨_, rfl⟩
      rw [hY] at hPj HT HNX
      obtain ⟨o1, o2, o3, o4, o5, o6⟩ := putOk_parts hPj.ok
      have hpg : pg < 1024 := by omega
      have HL := Lib.hid (leaf_ok HT.out pg hpg o1)
      have HP := Lib.hid hPj
      have hwp : IntKind.i64.wrap ((pg : Int) + 1) = (pg : Int) + 1 := IntWalk.i64_in _ (by omega)
      have i0 : (pg : Int) < (t : Int) := by omega
      have ip0 : (0 : Int) ≤ (pg : Int) := by omega
      have hb3 := and7s hpg
      have hb7 := and7 pg hpg
      have hn2 := HT.out.n2
      have eY : (putA Y pg).st.length = Y.st.length := putA_len Y pg
      have eZ : (putB Y pg).st.length = Y.st.length := putB_len Y pg
      have hmm := hPj.m
      have hmA := putA_m Y pg
      -- the contracts of grow
      have hG1 : mdI Y.st pg = 0 → ∀ W, Fr p q w W → TM W B p q Y.st Y.m Y.r → Calls Tryd.prog 55 #[.pointer (some ⟨p, 0, none⟩), .int .i64 0, .int .i64 ((pg : Int) / 64)] W fun e w' => e = .returned (.int .i64 (putAI Y pg)) ∧ TM w' B p q (putA Y pg).st (putA Y pg).m (putA Y pg).r ∧ Fr p q w w' := fun hz W hF hW => by
        obtain ⟨a1, a2, a3, a4⟩ := HP.out.a hz
        have := grow_ok (HTW.out.fr hF htp htq) hW (Nat.le_trans HBB.out hF.size) (i := 0) (k := pg / 64) (by omega) (by omega) (o2 hz) a1 a2 a3 a4 (by omega)
        rw [show ((pg / 64 : Nat) : Int) = (pg : Int) / 64 by omega] at this
        refine this.mono ?_
        rintro e w' ⟨g1, g2, g3⟩
        refine ⟨?_, ?_, hF.trans g3⟩
        · rw [g1]; unfold putAI; rw [if_pos hz]
        · unfold putA; rw [if_pos hz]; exact g2
      have hG2 : lfI Y.st pg = 0 → ∀ W, Fr p q w W → TM W B p q (putA Y pg).st (putA Y pg).m (putA Y pg).r → Calls Tryd.prog 55 #[.pointer (some ⟨p, 0, none⟩), .int .i64 (putAI Y pg), .int .i64 ((pg : Int) / 8 % 8)] W fun e w' => e = .returned (.int .i64 (putBI Y pg)) ∧ TM w' B p q (putB Y pg).st (putB Y pg).m (putB Y pg).r ∧ Fr p q w w' := fun hz W hF hW => by
        obtain ⟨a1, a2, a3, a4⟩ := HP.out.b hz
        have := grow_ok (HTW.out.fr hF htp htq) hW (Nat.le_trans HBB.out hF.size) (i := putAI Y pg) (k := pg / 8 % 8) (by omega) (by omega) (by rw [eY]; exact o5 hz) a1 a2 a3 a4 (by omega)
        rw [show ((pg / 8 % 8 : Nat) : Int) = (pg : Int) / 8 % 8 by omega] at this
        refine this.mono ?_
        rintro e w' ⟨g1, g2, g3⟩
        refine ⟨?_, ?_, hF.trans g3⟩
        · rw [g1]; unfold putBI; rw [if_pos hz]
        · unfold putB; rw [if_pos hz]; exact g2
      have hmz : mdI Y.st pg = 0 → lfI Y.st pg = 0 := fun hz => by unfold lfI; rw [if_pos hz]
      have hA0 : mdI Y.st pg ≠ 0 → putA Y pg = Y ∧ putAI Y pg = mdI Y.st pg := fun hz => by unfold putA putAI; rw [if_neg hz, if_neg hz]; exact ⟨rfl, rfl⟩
      have hB0 : lfI Y.st pg ≠ 0 → putB Y pg = putA Y pg ∧ putBI Y pg = lfI Y.st pg := fun hz => by unfold putB putBI; rw [if_neg hz, if_neg hz]; exact ⟨rfl, rfl⟩
      have hcm := hPj.c
      obtain ⟨md, hmd⟩ : ∃ z, mdI Y.st pg = z := ⟨_, rfl⟩
      obtain ⟨lf, hlf⟩ : ∃ z, lfI Y.st pg = z := ⟨_, rfl⟩
      obtain ⟨a, hia⟩ : ∃ z, putAI Y pg = z := ⟨_, rfl⟩
      obtain ⟨l, hil⟩ : ∃ z, putBI Y pg = z := ⟨_, rfl⟩
      obtain ⟨A, hA⟩ : ∃ z, putA Y pg = z := ⟨_, rfl⟩
      obtain ⟨Z, hZ⟩ : ∃ z, putB Y pg = z := ⟨_, rfl⟩
      have hM : putM Y x pg = { Z with st := Z.st.set l (wordN (Z.N l) (pg % 8) x) } := by rw [← hZ, ← hil]; rfl
      rw [hM] at HNX
      rw [hmd, hlf] at HL
      rw [hmd, hia, hA] at hG1
      rw [hlf, hia, hil, hA, hZ] at hG2
      rw [hmd, hlf] at hmz
      rw [hmd, hA, hia] at hA0
      rw [hlf, hZ, hil, hA] at hB0
      rw [hil] at o6 hcm
      rw [hZ] at eZ hcm
      have G1 := Lib.hid hG1
      have G2 := Lib.hid hG2
      have HMZ := Lib.hid hmz
      have HA0 := Lib.hid hA0
      have HB0 := Lib.hid hB0
      have hlZ : l < Z.st.length := by omega
      clear hG1 hG2 hmz hA0 hB0 hPj HP o1 o2 o3 o4 o5 o6 hmd hlf hia hil hA hZ hM hY hmA eY hmm
      go_wp2_with fail
      refine HL.out.mono ?_
      rintro e w4 ⟨rfl, n4, hn4⟩
      have HT4 : Hid (TM w4 B p q Y.st Y.m Y.r) := Lib.hid (by rw [hn4]; exact HT.out.below (below_draw _ _))
      have HF4 : Hid (Fr p q w w4) := Lib.hid (by rw [hn4]; exact HF.out.trans (Fr.of_below (below_draw _ _)))
      clear hn4 HL
      have hways : md = 0 ∨ (md ≠ 0 ∧ lf = 0) ∨ (md ≠ 0 ∧ lf ≠ 0) := by
        by_cases h1 : md = 0
        · exact .inl h1
        · by_cases h2 : lf = 0
          · exact .inr (.inl ⟨h1, h2⟩)
          · exact .inr (.inr ⟨h1, h2⟩)
      refine hways.elim ?wa (fun hways2 => hways2.elim ?wb ?wc)
      case' wa =>
        intro hz
        clear hways
        have hl0 := HMZ.out hz
        have G1' := Lib.hid (G1.out hz _ HF4.out HT4.out)
        have dz : ((md : Int) == 0) = true := by simp; omega
        have dl : ((lf : Int) == 0) = true := by simp; omega
        have HL0 := Lib.hid hl0
        clear hz hl0
        go_wp2_with fail
        refine G1'.out.mono ?_
        rintro e w5 ⟨rfl, h5, f5⟩
        have G2' := Lib.hid (G2.out HL0.out _ f5 h5)
        clear h5 f5 G1'
        go_wp2_with fail
        refine G2'.out.mono ?_
        rintro e w6 ⟨rfl, h6, f6⟩
        have HT6 := Lib.hid h6
        have HF6 := Lib.hid f6
        clear h6 f6 G2' dz dl
        go_upto_region 17 with fail
      case' wb =>
        rintro ⟨hz, hl0⟩
        clear hways
        obtain ⟨eA, ea⟩ := HA0.out hz
        have HTA : Hid (TM w4 B p q A.st A.m A.r) := Lib.hid (by rw [eA]; exact HT4.out)
        have G2' := Lib.hid (G2.out hl0 _ HF4.out HTA.out)
        rw [ea] at G2'
        have dz : ((md : Int) == 0) = false := by simp; omega
        have dl : ((lf : Int) == 0) = true := by simp; omega
        clear hz hl0 eA ea HTA
        go_wp2_with fail
        refine G2'.out.mono ?_
        rintro e w6 ⟨rfl, h6, f6⟩
        have HT6 := Lib.hid h6
        have HF6 := Lib.hid f6
        clear h6 f6 G2' dz dl
        go_upto_region 17 with fail
      case' wc =>
        rintro ⟨hz, hl0⟩
        clear hways
        obtain ⟨eA, ea⟩ := HA0.out hz
        obtain ⟨eZ2, el⟩ := HB0.out hl0
        have HT6 : Hid (TM w4 B p q Z.st Z.m Z.r) := Lib.hid (by rw [eZ2, eA]; exact HT4.out)
        have HF6 := Lib.hid HF4.out
        subst el
        have dz : ((md : Int) == 0) = false := by simp; omega
        have dl : ((l : Int) == 0) = false := by simp; omega
        clear hz hl0 eA ea eZ2
        go_upto_region 17 with fail
        clear dz dl
      all_goals
        clear G1 G2 HMZ HA0 HB0 HT4 HF4
        have d0 := HT6.out.c0
        have s0 := HT6.out.wd hlZ (show pg % 8 < 8 by omega)
        have s1 := HT6.out.mn hlZ
        have fq := HT6.out.fq
        have lq := HT6.out.lq
        have j0 : (0 : Int) ≤ (l : Int) := by omega
        have j1 : (l : Int) < (Z.st.length : Int) := by omega
        obtain ⟨z, hzz⟩ : ∃ z, (Z.st.getD l ndZ).wd (pg % 8) = z := ⟨_, rfl⟩
        obtain ⟨mm, hmm⟩ : ∃ z, (Z.st.getD l ndZ).mn = z := ⟨_, rfl⟩
        have hcm' : mm ≤ 1000 := by rw [← hmm]; exact hcm
        rw [hzz] at s0
        rw [hmm] at s1
        have hwm : IntKind.i64.wrap ((mm : Int) + 1) = (mm : Int) + 1 := IntWalk.i64_in _ (by omega)
        have h7 := HT6.out.cellS hlZ (j := 1) (v := .int .i64 ((mm + 1 : Nat) : Int)) (y := { Z.st.getD l ndZ with mn := mm + 1 }) (by omega) (ndc_setMn _ (mm + 1))
        have hx7 : (Z.st.set l { Z.st.getD l ndZ with mn := mm + 1 }).getD l ndZ = { Z.st.getD l ndZ with mn := mm + 1 } := by rw [N_set hlZ, if_pos rfl]
        have h8 := h7.1.cellS (i := l) (j := 18 + pg % 8) (v := .int .u64 (x : Int)) (y := { Z.st.getD l ndZ with mn := mm + 1, wd := upd (Z.st.getD l ndZ).wd (pg % 8) x }) (by rw [List.length_set]; exact hlZ) (by omega) (by rw [hx7]; exact ndc_setWd _ (pg % 8) x)
        rw [List.set_set, show ((mm + 1 : Nat) : Int) = (mm : Int) + 1 by omega, ← Nat.add_assoc] at h8
        rw [show ((mm + 1 : Nat) : Int) = (mm : Int) + 1 by omega] at h7
        have h9 := HT6.out.cellS hlZ (j := 18 + pg % 8) (v := .int .u64 (x : Int)) (y := { Z.st.getD l ndZ with wd := upd (Z.st.getD l ndZ).wd (pg % 8) x }) (by omega) (ndc_setWd _ (pg % 8) x)
        rw [← Nat.add_assoc] at h9
        have K8 := Lib.hid h8.1
        have F8 := Lib.hid (HF6.out.trans (h7.2.trans h8.2))
        have K9 := Lib.hid h9.1
        have F9 := Lib.hid (HF6.out.trans h9.2)
        have HZZ := Lib.hid hzz
        have HMM := Lib.hid hmm
        clear h7 hx7 h8 h9 hzz hmm hcm hcm'
        by_cases hz0 : z = 0
        · have dw : ((z : Int) == 0) = true := by simp; omega
          have HWN : Hid (wordN (Z.N l) (pg % 8) x = { Z.st.getD l ndZ with mn := mm + 1, wd := upd (Z.st.getD l ndZ).wd (pg % 8) x }) := Lib.hid (by unfold wordN; rw [show (Z.N l).wd (pg % 8) = z from HZZ.out, if_pos hz0, show (Z.N l).mn = mm from HMM.out])
          clear hz0
          go_wp2
          go_roundw
          case rel => exact ⟨pg + 1, by go_num, by omega, by omega, Lib.hid (by rw [HNX.out, HWN.out]; exact K8.out), F8⟩
          case measure => simp [intOf]; omega
        · have dw : ((z : Int) == 0) = false := by simp; omega
          have HWN : Hid (wordN (Z.N l) (pg % 8) x = { Z.st.getD l ndZ with wd := upd (Z.st.getD l ndZ).wd (pg % 8) x }) := Lib.hid (by unfold wordN; rw [show (Z.N l).wd (pg % 8) = z from HZZ.out, if_neg hz0]; rfl)
          clear hz0
          go_wp2
          go_roundw
          case rel => exact ⟨pg + 1, by go_num, by omega, by omega, Lib.hid (by rw [HNX.out, HWN.out]; exact K9.out), F9⟩
          case measure => simp [intOf]; omega
    · obtain rfl : pg = t := by omega
      have i0 : ¬ ((pg : Int) < (pg : Int)) := by omega
      go_wp2
      go_ret
      exact ⟨rfl, HT.out, HF.out⟩
end
end Go.Proofs.YtfmclbacoffdaaaDoor
