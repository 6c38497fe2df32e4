/- The radix map, plain: the bounds that the walk of Clear, Set and Get need. | The radix map, plain: each page of Set may be put. | The radix map: Set that finds no room, Get of a page without a description; the awake calls. | The radix map: give. | The radix map: Clear. -/
import Derived.Test.YtfmclbacoffdaaaDoorRZ6
import Derived.Test.YtfmclbacoffdaaaDoorRZ8
import Derived.Test.YtfmclbacoffdaaaDoorRZ7
namespace Go.Proofs.YtfmclbacoffdaaaDoor
theorem sum01_le (f : Nat → Nat) : ∀ n, sumN (fun j => if f j = 0 then 0 else 1) n ≤ n
  | 0 => Nat.le_refl _
  | n + 1 => by
    have := sum01_le f n
    simp only [sumN]
    split <;> omega
section
variable {X : RM}
theorem RInv.m_bd (h : RInv X) : 1 ≤ X.m ∧ X.m ≤ X.st.length := by
  constructor
  · rw [h.tree]; unfold treeC; omega
  · rw [h.cn]; exact cnt_le _ _ _
theorem RInv.md_lt (h : RInv X) {p : Nat} (hp : p < 1024) : mdI X.st p < X.st.length := by
  by_cases e : mdI X.st p = 0
  · rw [e]; exact h.n1
  · exact (h.k0 (p / 64) (by omega) e).1
theorem RInv.lf_lt (h : RInv X) {p : Nat} (hp : p < 1024) : lfI X.st p < X.st.length := by
  by_cases e : lfI X.st p = 0
  · rw [e]; exact h.n1
  · exact (h.leaf hp e).2.2.2.2.1
theorem RInv.k0_lt (h : RInv X) : ∀ k, k < 16 → (X.st.getD 0 ndZ).kd k < X.st.length := fun k hk => by
  by_cases e : (X.N 0).kd k = 0
  · show (X.N 0).kd k < _
    rw [e]; exact h.n1
  · exact (h.k0 k hk e).1
/-- what Clear of a page with a word needs -/
structure ClrS (X : RM) (p : Nat) : Prop where
  l : lfI X.st p < X.st.length
  l0 : lfI X.st p ≠ 0
  n1 : 1 ≤ (X.N (lfI X.st p)).mn
  n2 : (X.N (lfI X.st p)).mn ≤ 1000
  w : (X.N (lfI X.st p)).wd (p % 8) ≠ 0
  m1 : 1 ≤ X.m
  m2 : X.m ≤ 1000
  i : mdI X.st p < X.st.length
  k : ((clrW X p).N (mdI X.st p)).kd (p / 8 % 8) = lfI X.st p
  ne : lfI X.st p ≠ mdI X.st p
  a1 : 1 ≤ ((clrW X p).N (mdI X.st p)).mn
  a2 : ((clrW X p).N (mdI X.st p)).mn ≤ 1000
  b : ((clrW X p).N (lfI X.st p)).mn = 0 → ((clrL X p).N 0).kd (p / 64) = mdI X.st p ∧ mdI X.st p ≠ 0 ∧ 1 ≤ ((clrL X p).N 0).mn ∧ ((clrL X p).N 0).mn ≤ 1000 ∧ 1 ≤ (clrL X p).m ∧ (clrL X p).m ≤ 1000 ∧ ((clrL X p).N (mdI X.st p)).mn ≤ 1000
theorem kid_bd (hm : RMn X) {i k : Nat} (hi : i < X.st.length) (h1 : (X.N i).lv = 1) (hk : k < 8) (h0 : (X.N i).kd k ≠ 0) : 1 ≤ (X.N i).mn ∧ (X.N i).mn ≤ 1000 := by
  have a := hm.m1 i hi h1
  unfold kidC at a
  have b := sum01_le (X.N i).kd 8
  have c := sum_down (f := (X.N i).kd) hk h0
  omega
theorem root_bd (hm : RMn X) {k : Nat} (hk : k < 16) (h0 : (X.N 0).kd k ≠ 0) : 1 ≤ (X.N 0).mn ∧ (X.N 0).mn ≤ 1000 := by
  have a := hm.m0
  unfold rootC at a
  have b := sum01_le (X.N 0).kd 16
  have c := sum_down (f := (X.N 0).kd) hk h0
  omega
theorem word_bd (hm : RMn X) {i k : Nat} (hi : i < X.st.length) (h1 : (X.N i).lv = 2) (hk : k < 8) (h0 : (X.N i).wd k ≠ 0) : 1 ≤ (X.N i).mn ∧ (X.N i).mn ≤ 1000 := by
  have a := hm.m2 i hi h1
  unfold wordC at a
  have b := sum01_le (X.N i).wd 8
  have c := sum_down (f := (X.N i).wd) hk h0
  omega
theorem RAll.clrS (h : RAll X) {p : Nat} (hp : p < 1024) (hn : X.st.length ≤ 145) (hw : wdI X.st p ≠ 0) : ClrS X p := by
  have hl0 : lfI X.st p ≠ 0 := fun e => hw (by unfold wdI; rw [if_pos e])
  obtain ⟨a1, a2, a3, a4, a5, a6⟩ := h.i.leaf hp hl0
  have hwd : (X.N (lfI X.st p)).wd (p % 8) ≠ 0 := by
    unfold wdI at hw
    rw [if_neg hl0] at hw; exact hw
  obtain ⟨w1, w2⟩ := word_bd h.m a5 a6 (show p % 8 < 8 by omega) hwd
  obtain ⟨i1, m1, r1⟩ := clrW_all h hp hw
  have len1 : (clrW X p).st.length = X.st.length := by simp [clrW]
  obtain ⟨b1, b2, b3⟩ := r1 p hp
  obtain ⟨c1, c2, c3, c4, c5, c6⟩ := i1.leaf hp (by rw [b2]; exact hl0)
  rw [b1] at c1 c2 c3
  rw [b2] at c5 c6
  have hlk : ((clrW X p).N (mdI X.st p)).kd (p / 8 % 8) = lfI X.st p := by
    have := c4
    rw [b1, b2] at this
    exact this.symm
  obtain ⟨k1, k2⟩ := kid_bd m1 c2 c3 (show p / 8 % 8 < 8 by omega) (by rw [hlk]; exact hl0)
  obtain ⟨mb1, mb2⟩ := h.i.m_bd
  refine ⟨a5, hl0, w1, w2, hwd, mb1, by omega, a2, hlk, fun e => by rw [e] at a6; omega, k1, k2, fun hz => ?_⟩
  have hak : ((clrW X p).N 0).kd (p / 64) = mdI X.st p := b1
  have i2 : RInv (clrL X p) := i1.give1 (show p / 64 < 16 by omega) hak c1 (by omega) (by rw [hlk]; exact hl0)
  have m2 : RMn (clrL X p) := m1.give1 i1 (show p / 64 < 16 by omega) hak c1 (by omega) (by rw [hlk]; exact hl0)
  have hs := m1.m2 _ c5 c6
  rw [hz] at hs
  have hz8 : ∀ j, j < 8 → ((clrW X p).N (lfI X.st p)).wd j = 0 := fun j hj => sum_none (f := ((clrW X p).N (lfI X.st p)).wd) hs.symm hj
  have hkp : ((clrL X p).N 0).kd (p / 64) = mdI X.st p :=
    (i1.give1_rd (show p / 64 < 16 by omega) hak c1 (show p / 8 % 8 < 8 by omega) (by rw [hlk]; exact hl0) (by rw [hlk]; exact hz8) p hp).1.trans b1
  obtain ⟨r1', r2'⟩ := root_bd m2 (show p / 64 < 16 by omega) (by rw [hkp]; exact c1)
  have len2 : (clrL X p).st.length = X.st.length := by unfold clrL; rw [giveM_len, len1]
  obtain ⟨mb3, mb4⟩ := i2.m_bd
  have hc2 := i2.k0 (p / 64) (by omega) (by rw [hkp]; exact c1)
  rw [hkp] at hc2
  have q1 := m2.m1 _ hc2.1 hc2.2
  have q2 := sum01_le ((clrL X p).N (mdI X.st p)).kd 8
  unfold kidC at q1
  exact ⟨hkp, c1, r1', r2', mb3, by omega, by omega⟩
end
end Go.Proofs.YtfmclbacoffdaaaDoor

namespace Go.Proofs.YtfmclbacoffdaaaDoor
theorem needF_mono (st : List Nd) : ∀ (n j p : Nat) (b s : Int), j ≤ n → needF st j p b s ≤ needF st n p b s
  | 0, j, p, b, s, h => by obtain rfl : j = 0 := by omega
                           exact Nat.le_refl _
  | n + 1, 0, p, b, s, _ => Nat.zero_le _
  | n + 1, j + 1, p, b, s, h => by
    simp only [needF]
    exact Nat.add_le_add_left (needF_mono st n j _ _ _ (by omega)) _
section
variable {X : RM}
theorem kids_le (hm : RMn X) {i : Nat} (hi : i < X.st.length) (h1 : (X.N i).lv = 1) : (X.N i).mn ≤ 1000 := by
  have a := hm.m1 i hi h1
  unfold kidC at a
  have b := sum01_le (X.N i).kd 8
  omega
theorem root_le (hm : RMn X) : (X.N 0).mn ≤ 1000 := by
  have a := hm.m0
  unfold rootC at a
  have b := sum01_le (X.N 0).kd 16
  omega
theorem words_le (hm : RMn X) {i : Nat} (hi : i < X.st.length) (h1 : (X.N i).lv = 2) : (X.N i).mn ≤ 1000 := by
  have a := hm.m2 i hi h1
  unfold wordC at a
  have b := sum01_le (X.N i).wd 8
  omega
theorem RAll.putP (h : RAll X) {p : Nat} (hp : p < 1024) (hn : X.st.length ≤ 145) (ho : putOk X p = true) : PutP X p := by
  obtain ⟨o1, o2, o3, o4, o5, o6⟩ := putOk_parts ho
  have hm := h.i.m_bd
  have hroot := root_le h.m
  have hlv := h.i.root
  -- the map after the middle node is made
  have hA : RInv (putA X p) ∧ (lfI X.st p = 0 → putAI X p < (putA X p).st.length ∧ ((putA X p).N (putAI X p)).lv = 1 ∧ ((putA X p).N (putAI X p)).mn ≤ 1000) := by
    unfold putA putAI
    by_cases hz : mdI X.st p = 0
    · rw [if_pos hz, if_pos hz]
      have hf := o2 hz
      obtain ⟨q1, q2⟩ := h.i.fr hf
      refine ⟨h.i.grow0 hf (by omega) hz, fun _ => ⟨by rw [growM_len]; exact hf, ?_, ?_⟩⟩
      · rw [growM_N h.i.n1 hf q2, if_neg q2, if_pos rfl, hlv]; rfl
      · rw [growM_N h.i.n1 hf q2, if_neg q2, if_pos rfl]; exact Nat.zero_le _
    · rw [if_neg hz, if_neg hz]
      obtain ⟨q1, q2⟩ := h.i.k0 (p / 64) (by omega) hz
      exact ⟨h.i, fun _ => ⟨q1, q2, kids_le h.m q1 q2⟩⟩
  obtain ⟨hI, hK⟩ := hA
  have hb : lfI X.st p = 0 → frI (putA X p) ≠ putAI X p ∧ -1 ≤ ((putA X p).N (putAI X p)).lv ∧ ((putA X p).N (putAI X p)).lv ≤ 2 ∧ ((putA X p).N (putAI X p)).mn ≤ 1000 := fun hz => by
    obtain ⟨k1, k2, k3⟩ := hK hz
    obtain ⟨q1, q2⟩ := hI.fr (by rw [putA_len]; exact o5 hz)
    refine ⟨fun e => ?_, by omega, by omega, k3⟩
    rw [e] at q1
    omega
  refine ⟨ho, fun hz => ⟨(h.i.fr (o2 hz)).2, by omega, by omega, hroot⟩, hb, ?_, by omega⟩
  unfold putB putBI
  by_cases hz : lfI X.st p = 0
  · rw [if_pos hz, if_pos hz]
    obtain ⟨k1, k2, k3⟩ := hK hz
    obtain ⟨b1, _⟩ := hb hz
    rw [growM_N k1 (by rw [putA_len]; exact o5 hz) b1, if_neg b1, if_pos rfl]
    exact Nat.zero_le _
  · rw [if_neg hz, if_neg hz]
    obtain ⟨a1, a2, a3, a4, a5, a6⟩ := h.i.leaf hp hz
    unfold putA
    rw [if_neg a1]
    exact words_le h.m a5 a6
/-- each page of Set may be put -/
theorem RAll.putPs (h : RAll X) {x n p : Nat} (hx : x ≠ 0) (hp : p + n ≤ 1024) (hn : X.st.length ≤ 145) (hr : X.m + needF X.st n p (-1) (-1) ≤ X.st.length) : ∀ j, j < n → PutP (setM x j X p) (p + j) := fun j hj => by
  have hmono := needF_mono X.st n j p (-1) (-1) (by omega)
  obtain ⟨g1, _, _⟩ := h.sets hx (show p + j ≤ 1024 by omega) (by omega)
  obtain ⟨_, g2, _⟩ := h.sets hx hp hr
  exact g1.putP (by omega) (by rw [setM_len]; exact hn) (setOk_at g2 hj)
end
end Go.Proofs.YtfmclbacoffdaaaDoor

namespace Go.Proofs.YtfmclbacoffdaaaDoor
open Go.RowKit Go.Sort Go.Joins
attribute [local go_sem] cell_grow frozen_grow size_grow
section
variable {w : World} {B p q : Nat}
set_option maxRecDepth 100000 in
set_option maxHeartbeats 3200000 in
theorem set_full {X : RM} (h : TM w B p q X.st X.m X.r) {f t : Nat} (hft : f ≤ t) (ht : t ≤ 1024) (hk : ∀ k, k < 16 → (X.st.getD 0 ndZ).kd k < X.st.length) (o s c : Int) (g : Bool) (hE : pkE o s c = 0)
    (hroom : X.st.length < X.m + needF X.st (t - f) f (-1) (-1)) (hm : X.m ≤ 1000) :
    Calls Tryd.prog 32 #[.pointer (some ⟨p, 0, none⟩), .int .i64 f, .int .i64 t, dsV o s c g] w fun e w' => e = .returned (.int .i64 5) ∧ Below w.heap.size w w' := by
  have b0 := below_box0 w (.cells #[.int .i64 o, .int .i64 s, .int .i64 c, .bool g] 23)
  have h0 := h.below b0
  have H0 := Lib.hid h0
  have HPa := Lib.hid (part_ok h0 f t)
  have hpa : paE f t = 0 := by unfold paE; rw [if_neg (by omega)]
  rw [hpa] at HPa
  have HPk := Lib.hid (pack_ok o s c g)
  rw [pkV_ok hE, hE] at HPk
  have HN := Lib.hid (fun (W : World) (hb : Below (w.alloc (.cells #[.int .i64 o, .int .i64 s, .int .i64 c, .bool g] 23)).heap.size (w.alloc (.cells #[.int .i64 o, .int .i64 s, .int .i64 c, .bool g] 23)) W) => needed_ok (h0.below hb) hft ht hk)
  have hle := needF_le X.st (t - f) f (-1) (-1)
  obtain ⟨nd, hnd⟩ : ∃ z, needF X.st (t - f) f (-1) (-1) = z := ⟨_, rfl⟩
  rw [hnd] at HN hroom hle
  have hroomi : decide ((X.st.length : Int) < (X.m : Int) + (nd : Int)) = true := decide_eq_true (by omega)
  have hwn : IntKind.i64.wrap ((X.m : Int) + (nd : Int)) = (X.m : Int) + (nd : Int) := IntWalk.i64_in _ (by omega)
  have HB0 := Lib.hid b0
  clear b0 h0 h hpa hk hE hroom hnd
  go_enter Tryd.func32, Tryd.ntmps32
  go_wp2_with fail
  refine HPa.out.mono ?_
  rintro e w1 ⟨rfl, rfl⟩
  go_wp2_with fail
  refine (HPk.out _).mono ?_
  rintro e w2 ⟨rfl, b2⟩
  have B2 := Lib.hid b2
  have H2 := Lib.hid (H0.out.below b2)
  have c0 := H2.out.c0
  have c3 := H2.out.c3
  clear b2
  go_wp2_with fail
  go_quiet (first | (go_at_call 54; exact quiet_more (HN.out (w2.drewN _) (below_tr B2.out (below_draw _ _)))))
  go_wp2
  go_ret
  exact ⟨rfl, below_tr (below_tr HB0.out B2.out) (below_draw _ _)⟩
set_option maxRecDepth 100000 in
set_option maxHeartbeats 3200000 in
theorem get_none {st : List Nd} {m : Nat} {r : Nat → Bool} (h : TM w B p q st m r) {pg : Nat} (hp : pg < 1024) (hm : mdI st pg < st.length) (hl : lfI st pg < st.length) (hz : wdI st pg = 0) :
    Calls Tryd.prog 19 #[.pointer (some ⟨p, 0, none⟩), .int .i64 pg] w fun e w' => e = .returned (.tuple #[dsV 0 0 0 false, .int .i64 4]) ∧ Below w.heap.size w w' := by
  have b0 := below_box0 w (.cells #[.int .i64 0, .int .i64 0, .int .i64 0, .bool false] 23)
  have h0 := h.below b0
  have H0 := Lib.hid h0
  have hx : (w.alloc (.cells #[.int .i64 0, .int .i64 0, .int .i64 0, .bool false] 23)).heap[w.heap.size]? = some (.cells #[.int .i64 0, .int .i64 0, .int .i64 0, .bool false] 23 (0, 0)) := heap_alloc_new w _
  have HX := Lib.hid hx
  have HB0 := Lib.hid b0
  have HM := Lib.hid (made_ok h0)
  have HL := Lib.hid (leaf_ok h0 pg hp hm)
  have i0 : (0 : Int) ≤ (pg : Int) := by omega
  have d1 : decide ((pg : Int) < 0) = false := decide_eq_false (by omega)
  have d2 : decide (1024 ≤ (pg : Int)) = false := decide_eq_false (by omega)
  have hb7 := and7 pg hp
  obtain ⟨md, hmd⟩ : ∃ z, mdI st pg = z := ⟨_, rfl⟩
  have hww : lfI st pg ≠ 0 → (st.getD (lfI st pg) ndZ).wd (pg % 8) = 0 := fun hne => by
    unfold wdI at hz
    rw [if_neg hne] at hz; exact hz
  obtain ⟨lf, hlf⟩ : ∃ z, lfI st pg = z := ⟨_, rfl⟩
  rw [hmd, hlf] at HL
  rw [hlf] at hl hww
  have HW := Lib.hid hww
  have j0 : (0 : Int) ≤ (lf : Int) := by omega
  have j1 : (lf : Int) < (st.length : Int) := by omega
  clear b0 h0 h hx hm hmd hlf hz hww
  go_enter Tryd.func19, Tryd.ntmps19
  go_wp2_with fail
  refine HM.out.mono ?_
  rintro e w1 ⟨rfl, rfl⟩
  go_wp2_with fail
  refine HL.out.mono ?_
  rintro e w2 ⟨rfl, n2, hn2⟩
  have hb2 : Below (w.alloc (.cells #[.int .i64 0, .int .i64 0, .int .i64 0, .bool false] 23)).heap.size (w.alloc (.cells #[.int .i64 0, .int .i64 0, .int .i64 0, .bool false] 23)) w2 := by rw [hn2]; exact below_draw _ _
  have HB2 := Lib.hid (below_tr HB0.out hb2)
  have H2 := Lib.hid (H0.out.below hb2)
  have hx2 := (hb2.block _ (blk_lt HX.out)).trans HX.out
  have y0 : w2.cell? ⟨w.heap.size, 0, none⟩ = some (.int .i64 0) := by rw [cell_of_block hx2]; rfl
  have y1 : w2.cell? ⟨w.heap.size, 1, none⟩ = some (.int .i64 0) := by rw [cell_of_block hx2]; rfl
  have y2 : w2.cell? ⟨w.heap.size, 2, none⟩ = some (.int .i64 0) := by rw [cell_of_block hx2]; rfl
  have y3 : w2.cell? ⟨w.heap.size, 3, none⟩ = some (.bool false) := by rw [cell_of_block hx2]; rfl
  have yf : ∀ j, w2.frozen? ⟨w.heap.size, j, none⟩ = false := fun j => unfrozen_of_block hx2 j
  have c0 := H2.out.c0
  have s0 := H2.out.wd hl (show pg % 8 < 8 by omega)
  have HS4 : Hid (∀ a b c d, Below w.heap.size w ((((w2.setCell ⟨w.heap.size, 0, none⟩ a).setCell ⟨w.heap.size, 1, none⟩ b).setCell ⟨w.heap.size, 2, none⟩ c).setCell ⟨w.heap.size, 3, none⟩ d)) := Lib.hid (fun a b c d => (((HB2.out.setCell (p := ⟨w.heap.size, 0, none⟩) (Nat.le_refl _) a).setCell (p := ⟨w.heap.size, 1, none⟩) (Nat.le_refl _) b).setCell (p := ⟨w.heap.size, 2, none⟩) (Nat.le_refl _) c).setCell (p := ⟨w.heap.size, 3, none⟩) (Nat.le_refl _) d)
  clear hn2 hb2 hx2
  by_cases hz : lf = 0
  · have dz : ((lf : Int) == 0) = true := by simp; omega
    clear hz
    go_wp2
    exact bodyPost_ret (v := .tuple #[dsV 0 0 0 false, .int .i64 4]) (by simp [results, Tryd.results19, go_sem, y0, y1, y2, y3]) rfl ⟨rfl, HS4.out _ _ _ _⟩
  · have dz : ((lf : Int) == 0) = false := by simp; omega
    rw [HW.out hz] at s0
    clear hz
    go_wp2
    exact bodyPost_ret (v := .tuple #[dsV 0 0 0 false, .int .i64 4]) (by simp [results, Tryd.results19, go_sem, y0, y1, y2, y3]) rfl ⟨rfl, HS4.out _ _ _ _⟩
set_option maxRecDepth 100000 in
theorem five_ok (w : World) : Calls Tryd.prog 33 #[] w fun e w' => e = .returned (dsV 5 1 3 false) ∧ Below w.heap.size w w' := by
  have HB := Lib.hid (below_box0 w (.cells #[.int .i64 5, .int .i64 1, .int .i64 3, .bool false] 23))
  go_enter Tryd.func33, Tryd.ntmps33
  go_wp2
  exact bodyPost_ret (v := dsV 5 1 3 false) (by simp [results, Tryd.results33, go_sem]) rfl ⟨rfl, HB.out⟩
end
end Go.Proofs.YtfmclbacoffdaaaDoor

namespace Go.Proofs.YtfmclbacoffdaaaDoor
open Go.RowKit Go.Sort Go.Joins
attribute [local go_sem] cell_grow frozen_grow size_grow
section
variable {w : World} {B p q : Nat}
set_option maxRecDepth 100000 in
set_option maxHeartbeats 3200000 in
theorem give_ok {X : RM} (h : TM w B p q X.st X.m X.r) (hB : B ≤ w.heap.size) {i k : Nat} (hi : i < X.st.length) (hk : k < 16) (hkid : (X.N i).kd k < X.st.length) (hne : (X.N i).kd k ≠ i) (hn1 : 1 ≤ (X.N i).mn) (hn2 : (X.N i).mn ≤ 1000) (hm1 : 1 ≤ X.m) (hm2 : X.m ≤ 1000) :
    Calls Tryd.prog 46 #[.pointer (some ⟨p, 0, none⟩), .int .i64 i, .int .i64 k] w fun e w' => e = .returned (.tuple #[]) ∧ TM w' B p q (giveM X i k).st (giveM X i k).m (giveM X i k).r ∧ Fr p q w w' := by
  have c0 := h.c0
  have n2 := h.n2
  have fq := h.fq
  have lq := h.lq
  have s1 := h.kd hi hk
  obtain ⟨f, hf⟩ : ∃ f, (X.N i).kd k = f := ⟨_, rfl⟩
  have e0 : (X.st.getD i ndZ).kd k = f := hf
  rw [e0] at s1
  rw [hf] at hkid hne
  have HF := Lib.hid hf
  have HNE := Lib.hid hne
  have i0 : (0 : Int) ≤ (i : Int) := by omega
  have i1 : (i : Int) < (X.st.length : Int) := by omega
  have k0 : (0 : Int) ≤ (k : Int) := by omega
  have k1 : (k : Int) < 16 := by omega
  have f0 : (0 : Int) ≤ (f : Int) := by omega
  have f1 : (f : Int) < (X.st.length : Int) := by omega
  have hwr : IntKind.i64.wrap ((f : Int) + 1) = (f : Int) + 1 := IntWalk.i64_in _ (by omega)
  have H := Lib.hid h
  have ht : w.there q (f * 26) (ndc (nd0 (-1))).toArray.size := fun j hj => ⟨by rw [h.at_ hkid (by simpa [ndc_length] using hj), List.getElem?_eq_getElem (by rw [ndc_length]; simpa [ndc_length] using hj)]; rfl, fq _⟩
  have HT := Lib.hid ht
  have HI : Hid ((Tryd.prog.info? 90).map (·.size) = some (ndc (nd0 (-1))).toArray.size) := Lib.hid (by rw [List.size_toArray, ndc_length]; kernel_rfl)
  have H1 := Lib.hid (all_oneCell_toArray (ndc_one (nd0 (-1))))
  clear h ht e0 hf hne
  go_enter Tryd.func46, Tryd.ntmps46
  go_upto_region 2 with (refine wpList_store_mid rfl 90 (.tmp 23) (.tmp 22) rfl q (f * 26) (ndc (nd0 (-1))).toArray rfl rfl HT.out HI.out H1.out ?_)
  have HT1 := Lib.hid (H.out.node hkid (nd0 (-1)))
  have HF1 : Hid (Fr p q w (w.setCells q (f * 26) (ndc (nd0 (-1))))) := Lib.hid (Fr.setsQ _ _ _)
  have hB1 : B ≤ (w.setCells q (f * 26) (ndc (nd0 (-1)))).heap.size := Nat.le_trans hB HF1.out.size
  have hl1 : (X.st.set f (nd0 (-1))).length = X.st.length := List.length_set
  obtain ⟨W1, hW1⟩ : ∃ W, w.setCells q (f * 26) (ndc (nd0 (-1))) = W := ⟨_, rfl⟩
  rw [hW1] at HT1 HF1 hB1 ⊢
  have hL1 := Lib.hid hl1
  clear hW1 c0 fq lq HT HI H1 H hB hl1 s1
  have k1' := HT1.out.c1
  obtain ⟨ra, rcap, k2, hsl⟩ := HT1.out.c2
  have k3 := HT1.out.c3
  have k4 := HT1.out.c0
  have hc := HT1.out.chk0
  have fp := HT1.out.fp
  have lp := HT1.out.lp
  rw [hL1.out] at k1' k2 hsl hc k4
  have HS := Lib.hid (bSet_ok X.st.length f (f + 1) false ra ((X.st.length + 63) / 64) rcap _ W1 hsl (pack_lt _ _) hc (by omega) (by omega))
  have e1 : ((f + 1 : Nat) : Int) = (f : Int) + 1 := by omega
  rw [e1] at HS
  clear hsl hc e1 k4
  go_wp2_with fail
  refine HS.out.mono ?_
  rintro e w2 ⟨a', cap', rfl, hown, hbl⟩
  have hN := HT1.out.noted (i := f) (b := false) (by rw [hL1.out]; exact hkid) hB1 hbl (by rw [hL1.out]; exact hown)
  rw [hL1.out] at hN
  have p1 : w2.cell? ⟨p, 1, none⟩ = some (.int .i64 (X.st.length : Int)) := cell_later hbl k1'
  have p2 : w2.cell? ⟨p, 2, none⟩ = some (.slice ra ((X.st.length + 63) / 64) rcap) := cell_later hbl k2
  have p3 : w2.cell? ⟨p, 3, none⟩ = some (.int .i64 (X.m : Int)) := cell_later hbl k3
  have pf : ∀ j, w2.frozen? ⟨p, j, none⟩ = false := fun j => (hbl.frozen (p := ⟨p, j, none⟩) lp).trans (fp j)
  have hwm : IntKind.i64.wrap ((X.m : Int) - 1) = (X.m : Int) - 1 := IntWalk.i64_in _ (by omega)
  have hM := hN.1.many (X.m - 1)
  rw [show ((X.m - 1 : Nat) : Int) = (X.m : Int) - 1 by omega] at hM
  have HM := Lib.hid hM
  have HFM := Lib.hid (HF1.out.trans (hN.2.trans (Fr.setP _ 3 (.int .i64 ((X.m : Int) - 1)))))
  clear hN hM hown hbl k1' k2 k3 fp
  go_upto_region 4 with fail
  obtain ⟨w3, hw3⟩ : ∃ W, (((w2.setCell ⟨p, 1, none⟩ (.int .i64 (X.st.length : Int))).setCell ⟨p, 2, none⟩ (.slice a' ((X.st.length + 63) / 64) cap')).setCell ⟨p, 3, none⟩ (.int .i64 ((X.m : Int) - 1))) = W := ⟨_, rfl⟩
  rw [hw3] at HM HFM ⊢
  clear hw3 p1 p2 p3 pf HT1 HF1 lp hB1
  have hi2 : i < (X.st.set f (nd0 (-1))).length := by rw [List.length_set]; exact hi
  have hx : (X.st.set f (nd0 (-1))).getD i ndZ = X.N i := by rw [N_set hkid, if_neg (fun e => HNE.out e.symm)]
  have d0 := HM.out.c0
  rw [List.length_set] at d0
  have s1 := HM.out.kd hi2 hk
  rw [hx] at s1
  have fq := HM.out.fq
  have lq := HM.out.lq
  have h3 := HM.out.cellS hi2 (j := 2 + k) (v := .int .i64 0) (y := { X.N i with kd := upd (X.N i).kd k 0 }) (by omega) (by rw [hx]; exact ndc_setKd (X.N i) hk 0)
  rw [← Nat.add_assoc] at h3
  have HT3 := Lib.hid h3.1
  have HF3 := Lib.hid (HFM.out.trans h3.2)
  clear h3
  go_upto_region 5 with fail
  obtain ⟨w4, hw4⟩ : ∃ W, w3.setCell ⟨q, i * 26 + 2 + k, none⟩ (.int .i64 0) = W := ⟨_, rfl⟩
  rw [hw4] at HT3 HF3 ⊢
  clear hw4 d0 s1 fq lq HM HFM hi2
  have hi3 : i < ((X.st.set f (nd0 (-1))).set i { X.N i with kd := upd (X.N i).kd k 0 }).length := by rw [List.length_set, List.length_set]; exact hi
  have hx3 : ((X.st.set f (nd0 (-1))).set i { X.N i with kd := upd (X.N i).kd k 0 }).getD i ndZ = { X.N i with kd := upd (X.N i).kd k 0 } := by rw [N_set (by rw [List.length_set]; exact hi), if_pos rfl]
  have d0 := HT3.out.c0
  rw [List.length_set, List.length_set] at d0
  have s2 := HT3.out.mn hi3
  rw [hx3] at s2
  dsimp only at s2
  have fq := HT3.out.fq
  have lq := HT3.out.lq
  obtain ⟨mm, hmm⟩ : ∃ z, (X.N i).mn = z := ⟨_, rfl⟩
  rw [hmm] at hn1 hn2
  have e2 : (X.st.getD i ndZ).mn = mm := hmm
  rw [e2] at s2
  have hwn : IntKind.i64.wrap ((mm : Int) - 1) = (mm : Int) - 1 := IntWalk.i64_in _ (by omega)
  have h4 := HT3.out.cellS hi3 (j := 1) (y := { X.N i with kd := upd (X.N i).kd k 0, mn := mm - 1 }) (by omega) (by rw [hx3]; exact ndc_setMn _ (mm - 1))
  rw [show ((mm - 1 : Nat) : Int) = (mm : Int) - 1 by omega] at h4
  have HT4 := Lib.hid h4.1
  have HF4 := Lib.hid (HF3.out.trans h4.2)
  have HMM := Lib.hid hmm
  have HX := Lib.hid hx
  clear h4 hx hx3 e2 hmm
  go_wp2
  go_end0
  refine ⟨rfl, ?_, HF4.out⟩
  have hg : (giveM X i k).st = ((X.st.set f (nd0 (-1))).set i { X.N i with kd := upd (X.N i).kd k 0 }).set i { X.N i with kd := upd (X.N i).kd k 0, mn := mm - 1 } := by
    unfold giveM
    dsimp only
    rw [HF.out, HX.out, List.set_set]
    unfold kidZ
    rw [HMM.out]
  have hr : (giveM X i k).r = filled X.r f (f + 1) false := by rw [← HF.out]; rfl
  rw [hg, hr]
  exact HT4.out
end
end Go.Proofs.YtfmclbacoffdaaaDoor

namespace Go.Proofs.YtfmclbacoffdaaaDoor
open Go.RowKit Go.Sort Go.Joins
attribute [local go_sem] cell_grow frozen_grow size_grow
section
variable {w : World} {B p q : Nat}
set_option maxRecDepth 100000 in
set_option maxHeartbeats 6400000 in
theorem clear_ok {X : RM} (h : TM w B p q X.st X.m X.r) (hA : RAll X) (hB : B ≤ w.heap.size) (f0 t0 : Int) :
    Calls Tryd.prog 22 #[.pointer (some ⟨p, 0, none⟩), .int .i64 f0, .int .i64 t0] w fun e w' => e = .returned (.int .i64 (paE f0 t0)) ∧
      TM w' B p q (clrX X f0 t0).st (clrX X f0 t0).m (clrX X f0 t0).r ∧ Fr p q w w' := by
  have HPa := Lib.hid (part_ok h f0 t0)
  by_cases hpz : paE f0 t0 = 0
  · obtain ⟨p1, p2, p3⟩ := paE_zero hpz
    obtain ⟨f, rfl⟩ := Int.eq_ofNat_of_zero_le p1
    obtain ⟨t, rfl⟩ := Int.eq_ofNat_of_zero_le (show 0 ≤ t0 by omega)
    have hft : f ≤ t := by omega
    have ht : t ≤ 1024 := by omega
    have hX : clrX X (f : Int) (t : Int) = clrN (t - f) X f := by
      unfold clrX
      rw [if_pos hpz, show ((t : Int) - (f : Int)).toNat = t - f by omega, Int.toNat_natCast]
    have HX := Lib.hid hX
    rw [hpz] at HPa ⊢
    have HA := Lib.hid hA
    have HBB := Lib.hid hB
    have H := Lib.hid h
    clear p1 p2 p3 hX hpz hA hB h
    go_enter Tryd.func22, Tryd.ntmps22
    go_wp2_with fail
    refine HPa.out.mono ?_
    rintro e w1 ⟨rfl, rfl⟩
    go_wp2
    go_loopw [8] (fun i wr => ∃ pg : Nat, i = .int .i64 pg ∧ f ≤ pg ∧ pg ≤ t ∧ Hid (TM wr B p q (clrN (pg - f) X f).st (clrN (pg - f) X f).m (clrN (pg - f) X f).r) ∧ Hid (Fr p q w wr)) (fun i _ => t - (intOf i).toNat)
    case atStart => exact ⟨f, rfl, Nat.le_refl _, hft, Lib.hid (by rw [Nat.sub_self]; exact H.out), Lib.hid (Fr.refl p q w)⟩
    case round =>
      obtain ⟨pg, rfl, hp1, hp2, HT, HF⟩ := hrel
      by_cases hlt : pg < t
      · have HNX : Hid (clrN (pg + 1 - f) X f = clrM (clrN (pg - f) X f) pg) := Lib.hid (by
          rw [show pg + 1 - f = (pg - f) + 1 by omega]
          show clrM (clrN (pg - f) X f) (f + (pg - f)) = _
          rw [show f + (pg - f) = pg by omega])
        have hAY : RAll (clrN (pg - f) X f) := (HA.out.clrs f (pg - f) (by omega)).1
        obtain ⟨Y, hY⟩ : ∃ Y, clrN (pg - f) X f = Y := ⟨_, rfl⟩
        rw [hY] at HT HNX hAY
        have hpg : pg < 1024 := by omega
        have hn2 := HT.out.n2
        have hml := hAY.i.md_lt hpg
        have hll := hAY.i.lf_lt hpg
        have HL := Lib.hid (leaf_ok HT.out pg hpg hml)
        have HS : Hid (wdI Y.st pg ≠ 0 → ClrS Y pg) := Lib.hid (fun hw => hAY.clrS hpg hn2 hw)
        have hwp : IntKind.i64.wrap ((pg : Int) + 1) = (pg : Int) + 1 := IntWalk.i64_in _ (by omega)
        have i0 : (pg : Int) < (t : Int) := by omega
        have ip0 : (0 : Int) ≤ (pg : Int) := by omega
        have hb3 := and7s hpg
        have hb7 := and7 pg hpg
        have hwd : wdI Y.st pg = if lfI Y.st pg = 0 then 0 else (Y.N (lfI Y.st pg)).wd (pg % 8) := rfl
        have hMZ : wdI Y.st pg = 0 → clrM Y pg = Y := fun e => by unfold clrM; rw [if_pos e]
        have HMZ := Lib.hid hMZ
        have HWD := Lib.hid hwd
        clear hAY hY hMZ hwd
        go_wp2_with fail
        refine HL.out.mono ?_
        rintro e w4 ⟨rfl, n4, hn4⟩
        have HT4 : Hid (TM w4 B p q Y.st Y.m Y.r) := Lib.hid (by rw [hn4]; exact HT.out.below (below_draw _ _))
        have HF4 : Hid (Fr p q w w4) := Lib.hid (by rw [hn4]; exact HF.out.trans (Fr.of_below (below_draw _ _)))
        clear hn4 HL HT HF
        have d0 := HT4.out.c0
        have s0 := HT4.out.wd hll (show pg % 8 < 8 by omega)
        have j0 : (0 : Int) ≤ (lfI Y.st pg : Int) := by omega
        have j1 : (lfI Y.st pg : Int) < (Y.st.length : Int) := by omega
        by_cases hl0 : lfI Y.st pg = 0
        · have HZ : Hid (clrM Y pg = Y) := Lib.hid (HMZ.out (by rw [HWD.out, if_pos hl0]))
          obtain ⟨l, hlf⟩ : ∃ z, lfI Y.st pg = z := ⟨_, rfl⟩
          rw [hlf] at hl0 s0 j0 j1 ⊢
          have dl : ((l : Int) == 0) = true := by simp; omega
          clear hl0 s0 HWD HMZ HS hlf hll hml
          go_wp2
          go_roundw
          case rel => exact ⟨pg + 1, by go_num, by omega, by omega, Lib.hid (by rw [HNX.out, HZ.out]; exact HT4.out), HF4⟩
          case measure => simp [intOf]; omega
        · by_cases hw0 : (Y.N (lfI Y.st pg)).wd (pg % 8) = 0
          · have HZ : Hid (clrM Y pg = Y) := Lib.hid (HMZ.out (by rw [HWD.out, if_neg hl0]; exact hw0))
            have e0 : (Y.st.getD (lfI Y.st pg) ndZ).wd (pg % 8) = 0 := hw0
            rw [e0] at s0
            obtain ⟨l, hlf⟩ : ∃ z, lfI Y.st pg = z := ⟨_, rfl⟩
            rw [hlf] at hl0 s0 j0 j1 ⊢
            have dl : ((l : Int) == 0) = false := by simp; omega
            clear hl0 hw0 HWD HMZ HS hlf hll e0 hml
            go_wp2
            go_roundw
            case rel => exact ⟨pg + 1, by go_num, by omega, by omega, Lib.hid (by rw [HNX.out, HZ.out]; exact HT4.out), HF4⟩
            case measure => simp [intOf]; omega
          · have hwne : wdI Y.st pg ≠ 0 := by rw [HWD.out, if_neg hl0]; exact hw0
            have S := Lib.hid (HS.out hwne)
            have HW0 := Lib.hid hwne
            obtain ⟨z, hz⟩ : ∃ z, (Y.st.getD (lfI Y.st pg) ndZ).wd (pg % 8) = z := ⟨_, rfl⟩
            have hw0' : z ≠ 0 := by rw [← hz]; exact hw0
            have dw : ((z : Int) == 0) = false := by simp; omega
            rw [hz] at s0
            obtain ⟨l, hlf⟩ : ∃ z, lfI Y.st pg = z := ⟨_, rfl⟩
            obtain ⟨md, hmd⟩ : ∃ z, mdI Y.st pg = z := ⟨_, rfl⟩
            have hn1 := S.out.n1
            have hn3 := S.out.n2
            have fq := HT4.out.fq
            have lq := HT4.out.lq
            have s1 := HT4.out.mn hll
            rw [hlf] at hl0 s0 s1 j0 j1 hll hn1 hn3 ⊢
            rw [hmd] at hml ⊢
            have dl : ((l : Int) == 0) = false := by simp; omega
            obtain ⟨mm, hmm⟩ : ∃ z, (Y.st.getD l ndZ).mn = z := ⟨_, rfl⟩
            rw [hmm] at s1
            have hn1' : 1 ≤ mm := by rw [← hmm]; exact hn1
            have hn3' : mm ≤ 1000 := by rw [← hmm]; exact hn3
            have hwm : IntKind.i64.wrap ((mm : Int) - 1) = (mm : Int) - 1 := IntWalk.i64_in _ (by omega)
            have h7 := HT4.out.cellS hll (j := 18 + pg % 8) (v := .int .u64 ((0 : Nat) : Int)) (y := { Y.st.getD l ndZ with wd := upd (Y.st.getD l ndZ).wd (pg % 8) 0 }) (by omega) (ndc_setWd _ (pg % 8) 0)
            have hx7 : (Y.st.set l { Y.st.getD l ndZ with wd := upd (Y.st.getD l ndZ).wd (pg % 8) 0 }).getD l ndZ = { Y.st.getD l ndZ with wd := upd (Y.st.getD l ndZ).wd (pg % 8) 0 } := by rw [N_set hll, if_pos rfl]
            have h8 := h7.1.cellS (i := l) (j := 1) (v := .int .i64 ((mm - 1 : Nat) : Int)) (y := { Y.st.getD l ndZ with wd := upd (Y.st.getD l ndZ).wd (pg % 8) 0, mn := mm - 1 }) (by rw [List.length_set]; exact hll) (by omega) (by rw [hx7]; exact ndc_setMn _ (mm - 1))
            rw [List.set_set, show ((mm - 1 : Nat) : Int) = (mm : Int) - 1 by omega, ← Nat.add_assoc] at h8
            have eW : clrW Y pg = { Y with st := Y.st.set l { Y.st.getD l ndZ with wd := upd (Y.st.getD l ndZ).wd (pg % 8) 0, mn := mm - 1 } } := by
              unfold clrW wordZ
              rw [hlf, show (Y.N l).mn = mm from hmm]
            have K8 : Hid (TM ((w4.setCell ⟨q, l * 26 + 18 + pg % 8, none⟩ (.int .u64 0)).setCell ⟨q, l * 26 + 1, none⟩ (.int .i64 ((mm : Int) - 1))) B p q (clrW Y pg).st (clrW Y pg).m (clrW Y pg).r) := Lib.hid (by rw [eW]; exact h8.1)
            have F8 : Hid (Fr p q w ((w4.setCell ⟨q, l * 26 + 18 + pg % 8, none⟩ (.int .u64 0)).setCell ⟨q, l * 26 + 1, none⟩ (.int .i64 ((mm : Int) - 1)))) := Lib.hid (HF4.out.trans (by
              have a := h7.2
              rw [← Nat.add_assoc] at a
              exact a.trans h8.2))
            have hMN : ((clrW Y pg).N l).mn = mm - 1 := by
              rw [eW]
              show ((Y.st.set l _).getD l ndZ).mn = _
              rw [N_set hll, if_pos rfl]
            have hcl : clrM Y pg = if mm - 1 ≠ 0 then clrW Y pg else if ((clrL Y pg).N md).mn ≠ 0 then clrL Y pg else giveM (clrL Y pg) 0 (pg / 64) := by
              unfold clrM
              rw [if_neg hwne, hlf, hmd, hMN]
            have hWl : (clrW Y pg).st.length = Y.st.length := by simp [clrW]
            have HCL := Lib.hid hcl
            have HMN := Lib.hid hMN
            have HLF := Lib.hid hlf
            have HMD := Lib.hid hmd
            clear hcl hMN hlf hmd eW h8 h7 hx7 hmm hz hw0 hwne HWD HMZ HS hl0 hw0' hn1 hn3
            by_cases hm1 : mm - 1 ≠ 0
            · have HR : Hid (clrM Y pg = clrW Y pg) := Lib.hid (by rw [HCL.out, if_pos hm1])
              have dm : (1 : Int) < (mm : Int) := by omega
              clear hm1 HCL
              go_wp2
              go_roundw
              case rel => exact ⟨pg + 1, by go_num, by omega, by omega, Lib.hid (by rw [HNX.out, HR.out]; exact K8.out), F8⟩
              case measure => simp [intOf]; omega
            · have dm : (mm : Int) ≤ 1 := by omega
              have hz0 : ((clrW Y pg).N (lfI Y.st pg)).mn = 0 := by rw [HLF.out, HMN.out]; omega
              have HB2 := Lib.hid (S.out.b hz0)
              have HR : Hid (clrM Y pg = if ((clrL Y pg).N md).mn ≠ 0 then clrL Y pg else giveM (clrL Y pg) 0 (pg / 64)) := Lib.hid (by rw [HCL.out, if_neg hm1])
              have hk1 := S.out.k
              rw [HLF.out, HMD.out] at hk1
              have hne1 := S.out.ne
              rw [HLF.out, HMD.out] at hne1
              have ha1 := S.out.a1
              have ha2 := S.out.a2
              rw [HMD.out] at ha1 ha2
              have hG := give_ok K8.out (Nat.le_trans HBB.out F8.out.size) (i := md) (k := pg / 8 % 8) (by rw [hWl]; exact hml) (by omega) (by rw [hk1, hWl]; exact hll) (by rw [hk1]; exact hne1) ha1 ha2 S.out.m1 S.out.m2
              rw [show ((pg / 8 % 8 : Nat) : Int) = (pg : Int) / 8 % 8 by omega, show giveM (clrW Y pg) md (pg / 8 % 8) = clrL Y pg by unfold clrL; rw [HMD.out]] at hG
              have HG := Lib.hid hG
              clear hm1 HCL hz0 hk1 hne1 ha1 ha2 hG
              go_wp2_with fail
              refine HG.out.mono ?_
              rintro e w5 ⟨rfl, h5, f5⟩
              have HT5 := Lib.hid h5
              have HF5 := Lib.hid (F8.out.trans f5)
              have hLl : (clrL Y pg).st.length = Y.st.length := by unfold clrL; rw [giveM_len, hWl]
              clear h5 f5 HG K8 F8 d0 s0 s1 fq lq
              have d5 := HT5.out.c0
              rw [hLl] at d5
              have s5 := HT5.out.mn (i := md) (by rw [hLl]; exact hml)
              have jm0 : (0 : Int) ≤ (md : Int) := by omega
              have jm1 : (md : Int) < (Y.st.length : Int) := by omega
              obtain ⟨m2, hm2⟩ : ∃ z, ((clrL Y pg).st.getD md ndZ).mn = z := ⟨_, rfl⟩
              rw [hm2] at s5
              by_cases hmz : m2 ≠ 0
              · have dz : ((m2 : Int) == 0) = false := by simp; omega
                have HR2 : Hid (clrM Y pg = clrL Y pg) := Lib.hid (by rw [HR.out, if_pos (show ((clrL Y pg).N md).mn ≠ 0 by rw [show ((clrL Y pg).N md).mn = m2 from hm2]; exact hmz)])
                clear hmz hm2 HR HB2
                go_wp2
                go_roundw
                case rel => exact ⟨pg + 1, by go_num, by omega, by omega, Lib.hid (by rw [HNX.out, HR2.out]; exact HT5.out), HF5⟩
                case measure => simp [intOf]; omega
              · have dz : ((m2 : Int) == 0) = true := by simp; omega
                have HR2 : Hid (clrM Y pg = giveM (clrL Y pg) 0 (pg / 64)) := Lib.hid (by rw [HR.out, if_neg (show ¬ ((clrL Y pg).N md).mn ≠ 0 by rw [show ((clrL Y pg).N md).mn = m2 from hm2]; exact hmz)])
                obtain ⟨q1, q2, q3, q4, q5, q6, _⟩ := HB2.out
                rw [HMD.out] at q1 q2
                have hG := give_ok HT5.out (Nat.le_trans HBB.out HF5.out.size) (i := 0) (k := pg / 64) (by omega) (by omega) (by rw [q1, hLl]; exact hml) (by rw [q1]; exact q2) q3 q4 q5 q6
                rw [show ((pg / 64 : Nat) : Int) = (pg : Int) / 64 by omega] at hG
                have HG := Lib.hid hG
                clear hmz hm2 HR HB2 q1 q2 q3 q4 q5 q6 hG
                go_wp2_with fail
                refine HG.out.mono ?_
                rintro e w6 ⟨rfl, h6, f6⟩
                have HT6 := Lib.hid h6
                have HF6 := Lib.hid (HF5.out.trans f6)
                clear h6 f6 HG d5 s5
                go_wp2
                go_roundw
                case rel => exact ⟨pg + 1, by go_num, by omega, by omega, Lib.hid (by rw [HNX.out, HR2.out]; exact HT6.out), HF6⟩
                case measure => simp [intOf]; omega
      · obtain rfl : pg = t := by omega
        have i0 : ¬ ((pg : Int) < (pg : Int)) := by omega
        go_wp2
        go_ret
        exact ⟨rfl, by rw [HX.out]; exact HT.out, HF.out⟩
  · have hp7 : paE f0 t0 = 7 := by
      unfold paE at hpz ⊢
      split
      · rfl
      · rename_i hc; rw [if_neg hc] at hpz; exact absurd rfl hpz
    have hX : clrX X f0 t0 = X := by unfold clrX; rw [if_neg hpz]
    rw [hX]
    rw [hp7] at HPa ⊢
    have H := Lib.hid h
    clear h hX hp7 hpz
    go_enter Tryd.func22, Tryd.ntmps22
    go_wp2_with fail
    refine HPa.out.mono ?_
    rintro e w1 ⟨rfl, rfl⟩
    go_wp2
    go_ret
    exact ⟨rfl, H.out, Fr.refl p q w⟩
end
end Go.Proofs.YtfmclbacoffdaaaDoor
