/- The radix map: Set of anything, Get of anything. | The radix map: Get of anything. | The radix map: the calls of a law (a slice of Call in memory), plain and in memory. | The radix map: the awake calls. | The radix map: made of the law. | The radix map: rows of bools beside it; which sets of pages hold words. -/
import Derived.Test.YtfmclbacoffdaaaDoorRZ9
import Derived.Deep.RegionWith
namespace Go.Proofs.YtfmclbacoffdaaaDoor
open Go.RowKit Go.Sort Go.Joins
attribute [local go_sem] cell_grow frozen_grow size_grow
section
variable {w : World} {B p q : Nat}
set_option maxRecDepth 100000 in
set_option maxHeartbeats 3200000 in
/-- Set of a part that is none -/
theorem set_part {X : RM} (h : TM w B p q X.st X.m X.r) {f t : Int} (o s c : Int) (g : Bool) (hE : paE f t ≠ 0) :
    Calls Tryd.prog 32 #[.pointer (some ⟨p, 0, none⟩), .int .i64 f, .int .i64 t, dsV o s c g] w fun e w' => e = .returned (.int .i64 7) ∧ Below w.heap.size w w' := by
  have b0 := below_box0 w (.cells #[.int .i64 o, .int .i64 s, .int .i64 c, .bool g] 23)
  have h0 := h.below b0
  have HPa := Lib.hid (part_ok h0 f t)
  have hpa : paE f t = 7 := by
    unfold paE at hE ⊢
    split
    · rfl
    · rename_i hc; rw [if_neg hc] at hE; exact absurd rfl hE
  rw [hpa] at HPa
  have HB0 := Lib.hid b0
  clear b0 h0 h hpa hE
  go_enter Tryd.func32, Tryd.ntmps32
  go_wp2_with fail
  refine HPa.out.mono ?_
  rintro e w1 ⟨rfl, rfl⟩
  go_wp2
  go_ret
  exact ⟨rfl, HB0.out⟩
set_option maxRecDepth 100000 in
set_option maxHeartbeats 3200000 in
/-- Set of a description that is none -/
theorem set_arg {X : RM} (h : TM w B p q X.st X.m X.r) {f t : Int} (o s c : Int) (g : Bool) (hE : paE f t = 0) (hE2 : pkE o s c = 2) :
    Calls Tryd.prog 32 #[.pointer (some ⟨p, 0, none⟩), .int .i64 f, .int .i64 t, dsV o s c g] w fun e w' => e = .returned (.int .i64 2) ∧ Below w.heap.size w w' := by
  have b0 := below_box0 w (.cells #[.int .i64 o, .int .i64 s, .int .i64 c, .bool g] 23)
  have h0 := h.below b0
  have HPa := Lib.hid (part_ok h0 f t)
  rw [hE] at HPa
  have HPk := Lib.hid (pack_ok o s c g)
  rw [hE2] at HPk
  have HB0 := Lib.hid b0
  clear b0 h0 h hE hE2
  go_enter Tryd.func32, Tryd.ntmps32
  go_wp2_with fail
  refine HPa.out.mono ?_
  rintro e w1 ⟨rfl, rfl⟩
  go_wp2_with fail
  refine (HPk.out _).mono ?_
  rintro e w2 ⟨rfl, b2⟩
  have B2 := Lib.hid (below_tr HB0.out b2)
  clear b2
  go_wp2
  go_ret
  exact ⟨rfl, B2.out⟩
/-- Set of anything -/
theorem set_ok (htp : 0 ≠ p) (htq : 0 ≠ q) (hT : Tab w) {X : RM} (h : TM w B p q X.st X.m X.r) (hA : RAll X) (hB : B ≤ w.heap.size) (f t o s c : Int) (g : Bool) :
    Calls Tryd.prog 32 #[.pointer (some ⟨p, 0, none⟩), .int .i64 f, .int .i64 t, dsV o s c g] w fun e w' => e = .returned (.int .i64 (setE X f t o s c)) ∧
      TM w' B p q (setX X f t o s c g).st (setX X f t o s c g).m (setX X f t o s c g).r ∧ Fr p q w w' := by
  have hn2 := h.n2
  by_cases h1 : paE f t = 0
  · obtain ⟨p1, p2, p3⟩ := paE_zero h1
    by_cases h2 : pkE o s c = 0
    · have hb := pkW_bd (h := g) h2
      have hx : (pkW o s c g).toNat ≠ 0 := by omega
      have hk := hA.i.k0_lt
      have hm := hA.i.m_bd
      obtain ⟨f', hf'⟩ := Int.eq_ofNat_of_zero_le p1
      obtain ⟨t', ht'⟩ := Int.eq_ofNat_of_zero_le (show 0 ≤ t by omega)
      by_cases h3 : X.st.length < X.m + needF X.st (t - f).toNat f.toNat (-1) (-1)
      · have e : setE X f t o s c = 5 := by unfold setE; rw [if_neg (by omega), if_neg (by omega), if_pos h3]
        have e2 : setX X f t o s c g = X := by unfold setX; rw [if_neg (by omega)]
        rw [e, e2]
        subst hf' ht'
        have hd : ((t' : Int) - (f' : Int)).toNat = t' - f' := by omega
        rw [hd, Int.toNat_natCast] at h3
        refine (set_full h (by omega) (by omega) hk o s c g h2 h3 (by omega)).mono ?_
        rintro e w' ⟨he, hbl⟩
        exact ⟨he, h.below hbl, Fr.of_below hbl⟩
      · have e : setE X f t o s c = 0 := by unfold setE; rw [if_neg (by omega), if_neg (by omega), if_neg h3]
        have e2 : setX X f t o s c g = setM (pkW o s c g).toNat (t - f).toNat X f.toNat := by unfold setX; rw [if_pos e]
        rw [e, e2]
        subst hf' ht'
        have hd : ((t' : Int) - (f' : Int)).toNat = t' - f' := by omega
        rw [hd, Int.toNat_natCast] at h3 ⊢
        exact set_in htp htq hT h hB (by omega) (by omega) hk o s c g h2 (by omega) (hA.putPs hx (by omega) hn2 (by omega)) (by omega)
    · have h2' : pkE o s c = 2 := by
        unfold pkE at h2 ⊢
        split
        · rfl
        · rename_i hc; rw [if_neg hc] at h2; exact absurd rfl h2
      have e : setE X f t o s c = 2 := by unfold setE; rw [if_neg (by omega), if_pos h2]
      have e2 : setX X f t o s c g = X := by unfold setX; rw [if_neg (by omega)]
      rw [e, e2]
      refine (set_arg h o s c g h1 h2').mono ?_
      rintro e w' ⟨he, hbl⟩
      exact ⟨he, h.below hbl, Fr.of_below hbl⟩
  · have e : setE X f t o s c = 7 := by unfold setE; rw [if_pos h1]
    have e2 : setX X f t o s c g = X := by unfold setX; rw [if_neg (by omega)]
    rw [e, e2]
    refine (set_part h o s c g h1).mono ?_
    rintro e w' ⟨he, hbl⟩
    exact ⟨he, h.below hbl, Fr.of_below hbl⟩
end
end Go.Proofs.YtfmclbacoffdaaaDoor

namespace Go.Proofs.YtfmclbacoffdaaaDoor
open Go.RowKit Go.Sort Go.Joins
attribute [local go_sem] cell_grow frozen_grow size_grow
/-- what Get answers -/
def getV (X : RM) (p : Int) : Value := if getE X p = 0 then unV (wdI X.st p.toNat : Int) else dsV 0 0 0 false
section
variable {w : World} {B p q : Nat} {st : List Nd} {m : Nat} {r : Nat → Bool}
set_option maxRecDepth 100000 in
set_option maxHeartbeats 3200000 in
theorem get_range (h : TM w B p q st m r) {pg : Int} (hp : pg < 0 ∨ 1023 < pg) :
    Calls Tryd.prog 19 #[.pointer (some ⟨p, 0, none⟩), .int .i64 pg] w fun e w' => e = .returned (.tuple #[dsV 0 0 0 false, .int .i64 7]) ∧ Below w.heap.size w w' := by
  have b0 := below_box0 w (.cells #[.int .i64 0, .int .i64 0, .int .i64 0, .bool false] 23)
  have h0 := h.below b0
  have hx : (w.alloc (.cells #[.int .i64 0, .int .i64 0, .int .i64 0, .bool false] 23)).heap[w.heap.size]? = some (.cells #[.int .i64 0, .int .i64 0, .int .i64 0, .bool false] 23 (0, 0)) := heap_alloc_new w _
  have HX := Lib.hid hx
  have HB0 := Lib.hid b0
  have HM := Lib.hid (made_ok h0)
  clear b0 h0 h hx
  by_cases h1 : pg < 0
  · clear hp
    go_enter Tryd.func19, Tryd.ntmps19
    go_wp2_with fail
    refine HM.out.mono ?_
    rintro e w1 ⟨rfl, rfl⟩
    go_wp2
    exact bodyPost_ret (v := .tuple #[dsV 0 0 0 false, .int .i64 7]) (by simp [results, Tryd.results19, go_sem]) rfl ⟨rfl, HB0.out⟩
  · have h2 : 1024 ≤ pg := by omega
    clear hp
    go_enter Tryd.func19, Tryd.ntmps19
    go_wp2_with fail
    refine HM.out.mono ?_
    rintro e w1 ⟨rfl, rfl⟩
    go_wp2
    exact bodyPost_ret (v := .tuple #[dsV 0 0 0 false, .int .i64 7]) (by simp [results, Tryd.results19, go_sem]) rfl ⟨rfl, HB0.out⟩
set_option maxRecDepth 100000 in
set_option maxHeartbeats 3200000 in
theorem get_word (h : TM w B p q st m r) {pg : Nat} (hp : pg < 1024) (hm : mdI st pg < st.length) (hl : lfI st pg < st.length) (hz : wdI st pg ≠ 0) (hE : unE (wdI st pg : Int) = 0) :
    Calls Tryd.prog 19 #[.pointer (some ⟨p, 0, none⟩), .int .i64 pg] w fun e w' => e = .returned (.tuple #[unV (wdI st pg : Int), .int .i64 0]) ∧ Below w.heap.size w w' := by
  have b0 := below_box0 w (.cells #[.int .i64 0, .int .i64 0, .int .i64 0, .bool false] 23)
  have h0 := h.below b0
  have H0 := Lib.hid h0
  have hx : (w.alloc (.cells #[.int .i64 0, .int .i64 0, .int .i64 0, .bool false] 23)).heap[w.heap.size]? = some (.cells #[.int .i64 0, .int .i64 0, .int .i64 0, .bool false] 23 (0, 0)) := heap_alloc_new w _
  have HX := Lib.hid hx
  have HB0 := Lib.hid b0
  have HM := Lib.hid (made_ok h0)
  have HL := Lib.hid (leaf_ok h0 pg hp hm)
  have i0 : (0 : Int) ≤ (pg : Int) := by omega
  have d1 : decide ((pg : Int) < 0) = false := decide_eq_false (by omega)
  have d2 : decide (1024 ≤ (pg : Int)) = false := decide_eq_false (by omega)
  have hb7 := and7 pg hp
  obtain ⟨md, hmd⟩ : ∃ z, mdI st pg = z := ⟨_, rfl⟩
  have hl0 : lfI st pg ≠ 0 := fun e => hz (by unfold wdI; rw [if_pos e])
  have hww : (st.getD (lfI st pg) ndZ).wd (pg % 8) = wdI st pg := by unfold wdI; rw [if_neg hl0]
  obtain ⟨lf, hlf⟩ : ∃ z, lfI st pg = z := ⟨_, rfl⟩
  obtain ⟨x, hwx⟩ : ∃ z, wdI st pg = z := ⟨_, rfl⟩
  rw [hmd, hlf] at HL
  rw [hlf] at hl hww hl0
  rw [hwx] at hww hz hE ⊢
  have HW := Lib.hid hww
  have hbd : x < 288230376151711744 := by
    unfold unE at hE
    split at hE
    · rename_i hc; omega
    · cases hE
  have HU := Lib.hid (unpack_ok (x : Int) (by omega) (by omega))
  have hu : unV (x : Int) = dsV (unO x) (unS x) (unT x) (unH x) := by unfold unV; rw [if_pos hE]
  rw [hu]
  rw [hE, hu] at HU
  obtain ⟨ao, ha⟩ : ∃ z, unO (x : Int) = z := ⟨_, rfl⟩
  obtain ⟨as', hb⟩ : ∃ z, unS (x : Int) = z := ⟨_, rfl⟩
  obtain ⟨at', hc⟩ : ∃ z, unT (x : Int) = z := ⟨_, rfl⟩
  obtain ⟨ah, hd⟩ : ∃ z, unH (x : Int) = z := ⟨_, rfl⟩
  rw [ha, hb, hc, hd] at HU ⊢
  have j0 : (0 : Int) ≤ (lf : Int) := by omega
  have j1 : (lf : Int) < (st.length : Int) := by omega
  have dz : ((lf : Int) == 0) = false := by simp; omega
  have dx : ((x : Int) == 0) = false := by simp; omega
  clear b0 h0 h hx hm hmd hlf hz hww hu hE hbd ha hb hc hd hwx hl0
  go_enter Tryd.func19, Tryd.ntmps19
  go_wp2_with fail
  refine HM.out.mono ?_
  rintro e w1 ⟨rfl, rfl⟩
  go_wp2_with fail
  refine HL.out.mono ?_
  rintro e w2 ⟨rfl, n2, hn2⟩
  have hb2 : Below (w.alloc (.cells #[.int .i64 0, .int .i64 0, .int .i64 0, .bool false] 23)).heap.size (w.alloc (.cells #[.int .i64 0, .int .i64 0, .int .i64 0, .bool false] 23)) w2 := by rw [hn2]; exact below_draw _ _
  have HB2 := Lib.hid (below_tr HB0.out hb2)
  have H2 := Lib.hid (H0.out.below hb2)
  have HX2 := Lib.hid ((hb2.block _ (blk_lt HX.out)).trans HX.out)
  have c0 := H2.out.c0
  have s0 := H2.out.wd hl (show pg % 8 < 8 by omega)
  rw [HW.out] at s0
  clear hn2 hb2
  go_wp2_with fail
  refine (HU.out _).mono ?_
  clear c0 s0
  rintro e w3 ⟨rfl, b3⟩
  have hx3 := (b3.block _ (blk_lt HX2.out)).trans HX2.out
  have y0 : w3.cell? ⟨w.heap.size, 0, none⟩ = some (.int .i64 0) := by rw [cell_of_block hx3]; rfl
  have y1 : w3.cell? ⟨w.heap.size, 1, none⟩ = some (.int .i64 0) := by rw [cell_of_block hx3]; rfl
  have y2 : w3.cell? ⟨w.heap.size, 2, none⟩ = some (.int .i64 0) := by rw [cell_of_block hx3]; rfl
  have y3 : w3.cell? ⟨w.heap.size, 3, none⟩ = some (.bool false) := by rw [cell_of_block hx3]; rfl
  have yf : ∀ j, w3.frozen? ⟨w.heap.size, j, none⟩ = false := fun j => unfrozen_of_block hx3 j
  have HB3 := Lib.hid (below_tr HB2.out b3)
  have HS4 : Hid (∀ a b c d, Below w.heap.size w ((((w3.setCell ⟨w.heap.size, 0, none⟩ a).setCell ⟨w.heap.size, 1, none⟩ b).setCell ⟨w.heap.size, 2, none⟩ c).setCell ⟨w.heap.size, 3, none⟩ d)) := Lib.hid (fun a b c d => (((HB3.out.setCell (p := ⟨w.heap.size, 0, none⟩) (Nat.le_refl _) a).setCell (p := ⟨w.heap.size, 1, none⟩) (Nat.le_refl _) b).setCell (p := ⟨w.heap.size, 2, none⟩) (Nat.le_refl _) c).setCell (p := ⟨w.heap.size, 3, none⟩) (Nat.le_refl _) d)
  clear b3 hx3
  go_wp2
  exact bodyPost_ret (v := .tuple #[dsV ao as' at' ah, .int .i64 0]) (by simp [results, Tryd.results19, go_sem, y0, y1, y2, y3]) rfl ⟨rfl, HS4.out _ _ _ _⟩
/-- Get of anything -/
theorem get_ok {X : RM} (h : TM w B p q X.st X.m X.r) (hA : RAll X) (hw : RWk X) (pg : Int) :
    Calls Tryd.prog 19 #[.pointer (some ⟨p, 0, none⟩), .int .i64 pg] w fun e w' => e = .returned (.tuple #[getV X pg, .int .i64 (getE X pg)]) ∧ Below w.heap.size w w' := by
  unfold getV getE
  by_cases h1 : pg < 0 ∨ 1023 < pg
  · rw [if_pos h1, if_neg (by decide)]
    exact get_range h h1
  · rw [if_neg h1]
    obtain ⟨n, rfl⟩ := Int.eq_ofNat_of_zero_le (show 0 ≤ pg by omega)
    have hn : n < 1024 := by omega
    rw [Int.toNat_natCast]
    by_cases h2 : wdI X.st n = 0
    · rw [if_pos h2, if_neg (by decide)]
      exact get_none h hn (hA.i.md_lt hn) (hA.i.lf_lt hn) h2
    · rw [if_neg h2, hw n hn h2, if_pos rfl]
      exact get_word h hn (hA.i.md_lt hn) (hA.i.lf_lt hn) h2 (hw n hn h2)
end
end Go.Proofs.YtfmclbacoffdaaaDoor

namespace Go.Proofs.YtfmclbacoffdaaaDoor
open Go.RowKit Go.Sort Go.Joins
/-- a call -/
structure Cl where
  wh : Nat
  f : Int
  t : Int
  o : Int
  s : Int
  c : Int
  g : Bool
instance : Inhabited Cl := ⟨⟨0, 0, 0, 0, 0, 0, false⟩⟩
/-- the cells of a call -/
structure ClAt (w : World) (b o : Nat) (x : Cl) : Prop where
  c0 : w.cell? ⟨b, o, none⟩ = some (.int .u8 (x.wh : Int))
  c1 : w.cell? ⟨b, o + 1, none⟩ = some (.int .i64 x.f)
  c2 : w.cell? ⟨b, o + 2, none⟩ = some (.int .i64 x.t)
  c3 : w.cell? ⟨b, o + 3, none⟩ = some (.int .i64 x.o)
  c4 : w.cell? ⟨b, o + 4, none⟩ = some (.int .i64 x.s)
  c5 : w.cell? ⟨b, o + 5, none⟩ = some (.int .i64 x.c)
  c6 : w.cell? ⟨b, o + 6, none⟩ = some (.bool x.g)
theorem ClAt.below {B b o : Nat} {w w' : World} {x : Cl} (h : ClAt w b o x) (hl : b < B) (hb : Below B w w') : ClAt w' b o x :=
  ⟨(hb.cell (p := ⟨b, o, none⟩) hl).trans h.c0, (hb.cell (p := ⟨b, o + 1, none⟩) hl).trans h.c1, (hb.cell (p := ⟨b, o + 2, none⟩) hl).trans h.c2, (hb.cell (p := ⟨b, o + 3, none⟩) hl).trans h.c3,
    (hb.cell (p := ⟨b, o + 4, none⟩) hl).trans h.c4, (hb.cell (p := ⟨b, o + 5, none⟩) hl).trans h.c5, (hb.cell (p := ⟨b, o + 6, none⟩) hl).trans h.c6⟩
theorem ClAt.lt {b o : Nat} {w : World} {x : Cl} (h : ClAt w b o x) : b < w.heap.size := World.block_lt_of_cell? _ _ h.c0
/-- a slice of calls -/
def SlC (w : World) (a : Option Addr) (n : Nat) (C : Nat → Cl) : Prop := n = 0 ∨ ∃ b o, a = some ⟨b, o, none⟩ ∧ b < w.heap.size ∧ ∀ j, j < n → ClAt w b (o + j * 7) (C j)
/-- .. as it lay in an elder world -/
def SlCB (w : World) (B : Nat) (a : Option Addr) (n : Nat) (C : Nat → Cl) : Prop := n = 0 ∨ ∃ b o, a = some ⟨b, o, none⟩ ∧ b < B ∧ ∀ j, j < n → ClAt w b (o + j * 7) (C j)
theorem SlC.of {w w' : World} {a : Option Addr} {n : Nat} {C : Nat → Cl} (h : SlC w a n C) (hb : Below w.heap.size w w') : SlCB w' w.heap.size a n C := by
  rcases h with h | ⟨b, o, ha, hl, hc⟩
  · exact .inl h
  · exact .inr ⟨b, o, ha, hl, fun j hj => (hc j hj).below hl hb⟩
theorem SlC.below {w w' : World} {a : Option Addr} {n : Nat} {C : Nat → Cl} (h : SlC w a n C) (hb : Below w.heap.size w w') : SlC w' a n C := by
  rcases h with h | ⟨b, o, ha, hl, hc⟩
  · exact .inl h
  · exact .inr ⟨b, o, ha, Nat.lt_of_lt_of_le hl hb.size, fun j hj => (hc j hj).below hl hb⟩
/-- what a call does -/
def stepC (X : RM) (c : Cl) : RM := if c.wh % 4 = 2 then clrX X c.f c.t else setX X c.f c.t c.o c.s c.c c.g
def stepsC (C : Nat → Cl) (X : RM) : Nat → RM
  | 0 => X
  | k + 1 => stepC (stepsC C X k) (C k)
theorem stepC_all {X : RM} (h : RAll X) (hw : RWk X) (c : Cl) : RAll (stepC X c) ∧ RWk (stepC X c) ∧ (stepC X c).st.length = X.st.length := by
  unfold stepC
  split
  · exact h.clrX hw _ _
  · exact h.setX hw _ _ _ _ _ _
theorem stepsC_all {X : RM} (h : RAll X) (hw : RWk X) (C : Nat → Cl) : ∀ k, RAll (stepsC C X k) ∧ RWk (stepsC C X k) ∧ (stepsC C X k).st.length = X.st.length
  | 0 => ⟨h, hw, rfl⟩
  | k + 1 => by
    obtain ⟨g1, g2, g3⟩ := stepsC_all h hw C k
    obtain ⟨f1, f2, f3⟩ := stepC_all g1 g2 (C k)
    exact ⟨f1, f2, f3.trans g3⟩
theorem newM_wk {n : Nat} (hn : 1 ≤ n) : RWk (newM n) := fun q _ h => absurd (newM_wd hn q) h
/-- the map that made returns -/
def mkM (N : Nat) (C : Nat → Cl) (n : Nat) : RM := stepsC C (newM N) n
theorem mkM_all {N : Nat} (hN : 1 ≤ N) (C : Nat → Cl) (n : Nat) : RAll (mkM N C n) ∧ RWk (mkM N C n) ∧ (mkM N C n).st.length = N := by
  obtain ⟨a, b, c⟩ := stepsC_all (newM_all hN) (newM_wk hN) C n
  exact ⟨a, b, c.trans (newM_len N)⟩
end Go.Proofs.YtfmclbacoffdaaaDoor

namespace Go.Proofs.YtfmclbacoffdaaaDoor
open Go.RowKit Go.Sort Go.Joins
attribute [local go_sem] cell_grow frozen_grow size_grow
theorem aw_put : ∀ j, j < 2 → PutP (setM 401419 j (newM 4) 7) (7 + j) := fun j hj => by
  match j, hj with
  | 0, _ => exact ⟨by decide +kernel, by decide +kernel, by decide +kernel, by decide +kernel, by decide +kernel⟩
  | 1, _ => exact ⟨by decide +kernel, by decide +kernel, by decide +kernel, by decide +kernel, by decide +kernel⟩
theorem aw_k0 : ∀ k, k < 16 → ((newM 4).st.getD 0 ndZ).kd k < (newM 4).st.length := by decide +kernel
theorem aw_k1 : ∀ k, k < 16 → (awM.st.getD 0 ndZ).kd k < awM.st.length := by decide +kernel
theorem aw_2 : mdI awM.st 9 < awM.st.length ∧ lfI awM.st 9 < awM.st.length ∧ wdI awM.st 9 = 0 := by decide +kernel
theorem aw_pk : pkE 5 1 3 = 0 ∧ pkV 5 1 3 false = 401419 ∧ (pkW 5 1 3 false).toNat = 401419 := by decide +kernel
section
variable {w : World} {B p q : Nat}
theorem aw_set1 (htp : 0 ≠ p) (htq : 0 ≠ q) (hT : Tab w) (h : TM w B p q (newM 4).st (newM 4).m (newM 4).r) (hB : B ≤ w.heap.size) :
    Calls Tryd.prog 32 #[.pointer (some ⟨p, 0, none⟩), .int .i64 7, .int .i64 9, dsV 5 1 3 false] w fun e w' => e = .returned (.int .i64 0) ∧ TM w' B p q awM.st awM.m awM.r ∧ Fr p q w w' := by
  have h1 := set_in htp htq hT (X := newM 4) h hB (f := 7) (t := 9) (by decide) (by decide) aw_k0 5 1 3 false aw_pk.1 (by have := aw_1.2.1; show (newM 4).m + needF (newM 4).st 2 7 (-1) (-1) ≤ _; rw [this]; decide) (by rw [aw_pk.2.2]; exact aw_put) (by decide)
  rw [aw_pk.2.2] at h1
  exact h1
theorem aw_set2 (h : TM w B p q awM.st awM.m awM.r) :
    Calls Tryd.prog 32 #[.pointer (some ⟨p, 0, none⟩), .int .i64 64, .int .i64 65, dsV 5 1 3 false] w fun e w' => e = .returned (.int .i64 5) ∧ Below w.heap.size w w' := by
  obtain ⟨_, _, h3, h4, h5, _⟩ := aw_1
  have h1 := set_full (X := awM) h (f := 64) (t := 65) (by decide) (by decide) aw_k1 5 1 3 false aw_pk.1 (by show _ < awM.m + needF awM.st 1 64 (-1) (-1); rw [h3, h4, h5]; decide) (by rw [h3]; decide)
  exact h1
theorem aw_get (h : TM w B p q awM.st awM.m awM.r) :
    Calls Tryd.prog 19 #[.pointer (some ⟨p, 0, none⟩), .int .i64 9] w fun e w' => e = .returned (.tuple #[dsV 0 0 0 false, .int .i64 4]) ∧ Below w.heap.size w w' :=
  get_none h (pg := 9) (by decide) aw_2.1 aw_2.2.1 aw_2.2.2
theorem aw_nodes (h : TM w B p q awM.st awM.m awM.r) : Calls Tryd.prog 20 #[.pointer (some ⟨p, 0, none⟩)] w fun e w' => e = .returned (.int .i64 4) ∧ w = w' := by
  have := nodes_ok h
  rw [aw_1.2.2.1] at this
  exact this
theorem aw_pack (w : World) : Calls Tryd.prog 13 #[dsV 5 1 3 false] w fun e w' => e = .returned (.tuple #[.int .u64 401419, .int .i64 0]) ∧ Below w.heap.size w w' := by
  have := pack_ok 5 1 3 false w
  rw [aw_pk.1, aw_pk.2.1] at this
  exact this
theorem Tab.lt {w : World} (h : Tab w) : 0 < w.heap.size := World.block_lt_of_cell? _ _ (h 0 (by decide))
set_option maxRecDepth 100000 in
set_option maxHeartbeats 3200000 in
theorem awake_ok (w : World) (hT : Tab w) : Calls Tryd.prog 17 #[] w fun e w' => e = .returned (.bool true) ∧ Below w.heap.size w w' := by
  have hlt := hT.lt
  have htp : 0 ≠ w.heap.size + 1 := by omega
  have htq : 0 ≠ w.heap.size := by omega
  have HTP := Lib.hid htp
  have HTQ := Lib.hid htq
  have HN : Hid (Calls Tryd.prog 21 #[.int .i64 4] w fun e w' => e = .returned (.tuple #[.pointer (some ⟨w.heap.size + 1, 0, none⟩), .int .i64 0]) ∧ TM w' w.heap.size (w.heap.size + 1) w.heap.size (newM 4).st (newM 4).m (newM 4).r ∧ Below w.heap.size w w') := Lib.hid (newm_ok 4 w (by decide) (by decide))
  have HT := Lib.hid hT
  clear hT hlt htp htq
  go_enter Tryd.func17, Tryd.ntmps17
  go_wp2_with fail
  refine HN.out.mono ?_
  rintro e w1 ⟨rfl, h1, b1⟩
  have H1 := Lib.hid h1
  have B1 := Lib.hid b1
  clear h1 b1 HN
  go_wp2_with fail
  refine (five_ok w1).mono ?_
  rintro e w2 ⟨rfl, b2⟩
  have H2 := Lib.hid (H1.out.below b2)
  have B2 := Lib.hid (below_tr B1.out b2)
  clear b2 H1 B1
  go_wp2_with fail
  refine (aw_pack w2).mono ?_
  rintro e w3 ⟨rfl, b3⟩
  have H3 := Lib.hid (H2.out.below b3)
  have B3 := Lib.hid (below_tr B2.out b3)
  clear b3 H2 B2
  go_wp2_with fail
  refine (five_ok w3).mono ?_
  rintro e w4 ⟨rfl, b4⟩
  have H4 := Lib.hid (H3.out.below b4)
  have B4 := Lib.hid (below_tr B3.out b4)
  clear b4 H3 B3
  go_wp2_with fail
  refine (aw_set1 HTP.out HTQ.out (HT.out.below B4.out) H4.out B4.out.size).mono ?_
  rintro e w5 ⟨rfl, h5, f5⟩
  have H5 := Lib.hid h5
  have B5 := Lib.hid (Fr.below B4.out f5 (by omega) (Nat.le_refl _) B4.out.size)
  clear h5 f5 H4 B4
  go_wp2_with fail
  refine (five_ok w5).mono ?_
  rintro e w6 ⟨rfl, b6⟩
  have H6 := Lib.hid (H5.out.below b6)
  have B6 := Lib.hid (below_tr B5.out b6)
  clear b6 H5 B5
  go_wp2_with fail
  refine (aw_set2 H6.out).mono ?_
  rintro e w7 ⟨rfl, b7⟩
  have H7 := Lib.hid (H6.out.below b7)
  have B7 := Lib.hid (below_tr B6.out b7)
  clear b7 H6 B6
  go_wp2_with fail
  refine (aw_get H7.out).mono ?_
  rintro e w8 ⟨rfl, b8⟩
  have b9 := below_box0 w8 (.cells #[.int .i64 0, .int .i64 0, .int .i64 0, .bool false] 23)
  have H9 := Lib.hid ((H7.out.below b8).below b9)
  have B9 := Lib.hid (below_tr B7.out (below_tr b8 b9))
  clear b8 b9 H7 B7
  go_wp2_with fail
  refine (aw_nodes H9.out).mono ?_
  rintro e w10 ⟨rfl, rfl⟩
  go_wp2
  go_ret
  exact ⟨rfl, B9.out⟩
end
end Go.Proofs.YtfmclbacoffdaaaDoor

namespace Go.Proofs.YtfmclbacoffdaaaDoor
open Go.RowKit Go.Sort Go.Joins
attribute [local go_sem] cell_grow frozen_grow size_grow
section
variable {w : World} {a : Option Addr} {n cap : Nat} {C : Nat → Cl}
set_option maxHeartbeats 1600000 in
theorem mkd_nil (N : Int) (h : N < 1 ∨ 145 < N ∨ 40 < n) : Calls Tryd.prog 18 #[.int .i64 N, .slice a n cap] w fun e w' => e = .returned (.pointer none) ∧ Below w.heap.size w w' := by
  by_cases h1 : N < 1 ∨ 145 < N
  · have HN := Lib.hid (newm_bad N w h1)
    clear h h1
    go_enter Tryd.func18, Tryd.ntmps18
    go_wp2_with fail
    refine HN.out.mono ?_
    rintro e w1 ⟨rfl, rfl⟩
    go_wp2
    go_ret
    exact ⟨rfl, Below.refl _ _⟩
  · obtain ⟨N', rfl⟩ := Int.eq_ofNat_of_zero_le (show 0 ≤ N by omega)
    have HN := Lib.hid (newm_ok N' w (by omega) (by omega))
    have d1 : 40 < (n : Int) := by omega
    clear h h1
    go_enter Tryd.func18, Tryd.ntmps18
    go_wp2_with fail
    refine HN.out.mono ?_
    rintro e w1 ⟨rfl, h1, b1⟩
    have B1 := Lib.hid b1
    clear h1 b1
    go_wp2
    go_ret
    exact ⟨rfl, B1.out⟩
set_option maxRecDepth 100000 in
set_option maxHeartbeats 6400000 in
theorem mkd_ok (N : Nat) (h1 : 1 ≤ N) (h2 : N ≤ 145) (hn : n ≤ 40) (hC : SlC w a n C) (hT : Tab w) :
    Calls Tryd.prog 18 #[.int .i64 N, .slice a n cap] w fun e w' => e = .returned (.pointer (some ⟨w.heap.size + 1, 0, none⟩)) ∧
      TM w' w.heap.size (w.heap.size + 1) w.heap.size (mkM N C n).st (mkM N C n).m (mkM N C n).r ∧ Below w.heap.size w w' := by
  have HN := Lib.hid (newm_ok N w h1 h2)
  have hlt := hT.lt
  have HTP : Hid (0 ≠ w.heap.size + 1) := Lib.hid (by omega)
  have HTQ : Hid (0 ≠ w.heap.size) := Lib.hid (by omega)
  have HT := Lib.hid hT
  have HC := Lib.hid hC
  have HA := Lib.hid (fun k => mkM_all h1 C k)
  have d1 : ¬ (40 < (n : Int)) := by omega
  clear hT hC hlt
  go_enter Tryd.func18, Tryd.ntmps18
  go_wp2_with fail
  refine HN.out.mono ?_
  rintro e w1 ⟨rfl, hm1, b1⟩
  have M1 := Lib.hid hm1
  have B1 := Lib.hid b1
  clear hm1 b1 HN
  go_wp2
  go_loopw [7] (fun i wr => ∃ k : Nat, i = .int .i64 k ∧ k ≤ n ∧ Hid (TM wr w.heap.size (w.heap.size + 1) w.heap.size (mkM N C k).st (mkM N C k).m (mkM N C k).r) ∧ Hid (Below w.heap.size w wr)) (fun i _ => n - (intOf i).toNat)
  case atStart => exact ⟨0, rfl, Nat.zero_le _, M1, B1⟩
  case round =>
    obtain ⟨k, rfl, hk, M, BR⟩ := hrel
    by_cases hlt : k < n
    · obtain ⟨b, o, rfl, hbl, hcs⟩ : ∃ b o, a = some ⟨b, o, none⟩ ∧ b < w.heap.size ∧ ∀ j, j < n → ClAt w b (o + j * 7) (C j) := by
        rcases HC.out with h | h
        · omega
        · exact h
      have hx := (hcs k hlt).below hbl BR.out
      have HX := Lib.hid hx
      have HXD := Lib.hid (hx.below hx.lt (below_tr (Below.refl _ wr).drew (Below.refl _ _)))
      have HAk := HA.out k
      have HNX : Hid (mkM N C (k + 1) = stepC (mkM N C k) (C k)) := Lib.hid rfl
      obtain ⟨Y, hY⟩ : ∃ Y, mkM N C k = Y := ⟨_, rfl⟩
      obtain ⟨x, hx'⟩ : ∃ x, C k = x := ⟨_, rfl⟩
      rw [hY] at HAk HNX M
      rw [hx'] at HX HNX HXD hx
      have HY := Lib.hid HAk
      have MD := Lib.hid (M.out.below (Below.refl _ wr).drew)
      have BD := Lib.hid (below_tr BR.out (Below.refl _ wr).drew)
      have i0 : (0 : Int) ≤ (k : Int) := by omega
      have i1 : (k : Int) < (n : Int) := by omega
      have hwk : IntKind.i64.wrap ((k : Int) + 1) = (k : Int) + 1 := IntWalk.i64_in _ (by omega)
      have c0 := HX.out.c0
      have hcl := hx.lt
      clear hx hcs hY hx' HAk
      have f1 := HXD.out.c1
      have f2 := HXD.out.c2
      have f3 := HXD.out.c3
      have f4 := HXD.out.c4
      have f5 := HXD.out.c5
      have f6 := HXD.out.c6
      have TD := Lib.hid (HT.out.below BD.out)
      by_cases hw : x.wh % 4 = 2
      · have HST : Hid (stepC Y x = clrX Y x.f x.t) := Lib.hid (by unfold stepC; rw [if_pos hw])
        have dw : ((x.wh : Int) % 4 == 2) = true := by simp; omega
        have HCL := Lib.hid (clear_ok MD.out HY.out.1 BD.out.size x.f x.t)
        clear hw
        go_upto_region 8 with fail
        go_region_with (go_at_call 22; refine HCL.out.mono ?_; rintro e w4 ⟨rfl, h4, f4⟩)
        all_goals
          have M4 := Lib.hid h4
          have B4 := Lib.hid (Fr.below BD.out f4 (Nat.le_succ _) (Nat.le_refl _) BD.out.size)
          clear h4 f4
          go_wp2
          go_roundw
          case rel => exact ⟨k + 1, by go_num, by omega, Lib.hid (by rw [HNX.out, HST.out]; exact M4.out), B4⟩
          case measure => simp [intOf]; omega
      · have HST : Hid (stepC Y x = setX Y x.f x.t x.o x.s x.c x.g) := Lib.hid (by unfold stepC; rw [if_neg hw])
        have dw : ((x.wh : Int) % 4 == 2) = false := by simp; omega
        have HCL := Lib.hid (set_ok HTP.out HTQ.out TD.out MD.out HY.out.1 BD.out.size x.f x.t x.o x.s x.c x.g)
        clear hw
        go_upto_region 9 with fail
        go_region_with (go_at_call 32; refine HCL.out.mono ?_; rintro e w4 ⟨rfl, h4, f4⟩)
        all_goals
          have M4 := Lib.hid h4
          have B4 := Lib.hid (Fr.below BD.out f4 (Nat.le_succ _) (Nat.le_refl _) BD.out.size)
          clear h4 f4
          go_wp2
          go_roundw
          case rel => exact ⟨k + 1, by go_num, by omega, Lib.hid (by rw [HNX.out, HST.out]; exact M4.out), B4⟩
          case measure => simp [intOf]; omega
    · obtain rfl : k = n := by omega
      have i1 : ¬ ((k : Int) < (k : Int)) := by omega
      go_wp2
      go_ret
      exact ⟨rfl, M.out, BR.out⟩
end
end Go.Proofs.YtfmclbacoffdaaaDoor

namespace Go.Proofs.YtfmclbacoffdaaaDoor
open Go.RowKit Go.Sort Go.Joins
theorem u_bool : 24 ≠ 4 := by decide
/-- a block of bools -/
def bl7 (n : Nat) (f : Nat → Bool) : Array Value := ((List.range n).map fun k => Value.bool (f k)).toArray
abbrev Bl7 (w : World) (g n : Nat) (f : Nat → Bool) : Prop := w.heap[g]? = some (.cells (bl7 n f) 4 (0, 0))
section
variable {w w' : World} {g n : Nat} {f : Nat → Bool}
theorem Bl7.below (h : Bl7 w g n f) (hb : Below w.heap.size w w') : Bl7 w' g n f := (hb.block _ (blk_lt h)).trans h
theorem Bl7.at_ (h : Bl7 w g n f) {k : Nat} (hk : k < n) : w.cell? ⟨g, k, none⟩ = some (.bool (f k)) := by
  rw [cell_of_block h]; unfold bl7; simp [hk]
theorem Bl7.set (h : Bl7 w g n f) (k : Nat) (b : Bool) : Bl7 (w.setCell ⟨g, k, none⟩ (.bool b)) g n (fun j => if j = k then b else f j) := by
  unfold Bl7
  rw [setCell_block h]
  unfold bl7
  rw [List.setIfInBounds_toArray]
  have e : (Value.bool b) = (fun j => Value.bool (if j = k then b else f j)) k := by simp
  rw [e, map_upd (fun j => Value.bool (f j)) (fun j => Value.bool (if j = k then b else f j)) n k fun j _ hj => by simp [hj]]
theorem Bl7.other (h : Bl7 w g n f) {a : Addr} (hne : a.block ≠ g) (v : Value) : Bl7 (w.setCell a v) g n f := by
  unfold Bl7
  rw [Below.heap_setCell _ _ _ _ (fun e => hne e.symm)]
  exact h
theorem Bl7.congr (h : Bl7 w g n f) {r : Nat → Bool} (hr : ∀ j, j < n → r j = f j) : Bl7 w g n r := by
  have : bl7 n r = bl7 n f := by
    unfold bl7
    rw [List.map_congr_left fun j hj => by rw [hr j (by simpa using hj)]]
  unfold Bl7
  rw [this]; exact h
/-- a store into another block of bools -/
theorem TM.storeB {B p q m : Nat} {st : List Nd} {r : Nat → Bool} {cs : Array Value} (h : TM w B p q st m r) (hg : w.heap[g]? = some (.cells cs 4 (0, 0))) (o : Nat) (v : Value) : TM (w.setCell ⟨g, o, none⟩ v) B p q st m r := by
  obtain ⟨ra, rcap, h1, h2⟩ := h.tbl
  have o1 := own_ne h2 hg u_bool
  have n1 : p ≠ g := fun e => by rw [e, hg] at h1; simp at h1
  have n2 : q ≠ g := fun e => by have := h.nodes; rw [e, hg] at this; simp at this
  refine ⟨h.hp, h.hq, h.ne, h.n1, h.n2, ⟨ra, rcap, ?_, ownsRow_setCell_other h2 o1 v⟩, ?_, h.rb⟩
  · rw [Below.heap_setCell _ _ _ _ n1]; exact h1
  · rw [Below.heap_setCell _ _ _ _ n2]; exact h.nodes
end
theorem run_make_bools (n : Nat) (hn : n ≤ 10000) (w : World) :
    (Instr.makeSlice 35 (.int .i64 (n : Int)) (.int .i64 (n : Int))).run Tryd.prog w = .ok (.slice (some ⟨w.heap.size, 0, none⟩) n n) (w.alloc (.cells (bl7 n fun _ => false) 4)) := by
  obtain ⟨i0, hi, hz0, hz1, hz2⟩ := info_parts (show (Tryd.prog.info? 4).map (fun i => (i.zero, i.size, i.bytes)) = some (some (.bool false), 1, 1) by kernel_rfl)
  have h := run_make (P := Tryd.prog) w 35 4 i0 _ Tryd.underlying35 hi hz0 .i64 .i64 n n (by omega) (by omega) (by rw [hz2]; omega) (by omega)
  have e : madeCells #[.bool false] (n * 1) = bl7 n fun _ => false := by
    rw [Nat.mul_one]
    apply Array.ext'
    rw [toList_madeCells_one]
    unfold bl7
    apply List.ext_getElem?
    intro i
    by_cases hi : i < n
    · simp [hi]
    · rw [List.getElem?_eq_none (by simpa using hi), List.getElem?_eq_none (by simpa using hi)]
  rw [h, Int.toNat_natCast, hz1]
  exact congrArg (fun c => Result.ok (Value.slice (some ⟨w.heap.size, 0, none⟩) n n) (w.alloc (.cells c 4))) e
/-- some page of the first p in set k of d pages holds a word -/
def seenB (X : RM) (d p k : Nat) : Bool := (List.range p).any fun q => q / d == k && wdI X.st q != 0
theorem seenB_step (X : RM) (d p k : Nat) : seenB X d (p + 1) k = (seenB X d p k || (p / d == k && wdI X.st p != 0)) := by
  simp [seenB, List.range_succ, List.any_append]
def seenN (X : RM) (d n : Nat) : Nat := sumN (fun k => if seenB X d 1024 k = true then 1 else 0) n
theorem seenB_iff {X : RM} {d k : Nat} : seenB X d 1024 k = true ↔ ∃ q, q < 1024 ∧ q / d = k ∧ wdI X.st q ≠ 0 := by
  simp [seenB]
theorem RAll.seen {X : RM} (h : RAll X) : X.m = 1 + seenN X 64 16 + seenN X 8 128 := by
  have e1 : sumN (fun k => if mdI X.st (k * 64) = 0 then 0 else 1) 16 = seenN X 64 16 := by
    unfold seenN
    refine sumN_congr 16 fun k hk => ?_
    have := (h.big hk).trans (seenB_iff (X := X) (d := 64) (k := k)).symm
    by_cases e : mdI X.st (k * 64) = 0
    · rw [if_pos e, if_neg (fun h => this.2 h e)]
    · rw [if_neg e, if_pos (this.1 e)]
  have e2 : sumN (fun k => if lfI X.st (k * 8) = 0 then 0 else 1) 128 = seenN X 8 128 := by
    unfold seenN
    refine sumN_congr 128 fun k hk => ?_
    have := (h.small hk).trans (seenB_iff (X := X) (d := 8) (k := k)).symm
    by_cases e : lfI X.st (k * 8) = 0
    · rw [if_pos e, if_neg (fun h => this.2 h e)]
    · rw [if_neg e, if_pos (this.1 e)]
  rw [h.i.count, e1, e2]
theorem sumN_le1 (f : Nat → Bool) : ∀ n, sumN (fun k => if f k = true then 1 else 0) n ≤ n
  | 0 => Nat.le_refl _
  | n + 1 => by
    have := sumN_le1 f n
    simp only [sumN]
    split <;> omega
theorem getE_at {X : RM} (hw : RWk X) {p : Nat} (hp : p < 1024) : getE X p = if wdI X.st p = 0 then 4 else 0 := by
  unfold getE
  rw [if_neg (by omega), Int.toNat_natCast]
  by_cases e : wdI X.st p = 0
  · rw [if_pos e, if_pos e]
  · rw [if_neg e, if_neg e, hw p hp e]
end Go.Proofs.YtfmclbacoffdaaaDoor
