/- The radix map: RadixPacks returns true. | The radix map, plain: what Get answers after Set or Clear; a state that the call has made, when a map is changed. | The frame of a statement of this seat: the table of math/bits as the row lists it. | An argument of type RmDesc, as a row hands it. | The arguments of types []Call and Call of chapter 07, as a row hands them. | The radix map: RadixEmpty returns true. | The radix map: RadixPages returns true. | The radix map: RadixFull returns true. | RadixFull returns true for every input, on every schedule; its arguments read afterwards as they read before. No condition beyond the row's own. -/
import Derived.Test.YtfmclbacoffdaaaDoorRZ10
import Derived.Test.YtfmclbacoffdaaaDoorRSZ5
import Derived.Test.YtfmclbacoffdaaaDoorCards
import Derived.Test.YtfmclbacoffdaaaDoorTie
import Derived.Test.YtfmclbacoffdaaaDoorRZ2
import Derived.ProofKit
import Derived.OpenShut
import Derived.Deep.DeepHandedRow
import Derived.Lib.LaidTab
import Derived.Lib.SmallJoins
import Derived.Deep.Fields
import Derived.Deep.Slices
import Derived.Test.YtfmclbacoffdaaaDoorRSZ1
import Derived.Test.YtfmclbacoffdaaaDoorRSZ2
import Derived.Test.YtfmclbacoffdaaaDoorRSZ4
import Derived.Deep.RegionHeld3
namespace Go.Proofs.YtfmclbacoffdaaaDoor
open Go.RowKit Go.Sort Go.Joins
attribute [local go_sem] cell_grow frozen_grow size_grow
theorem eql_desc (o s t : Int) (g : Bool) (w : World) : Sem.run Tryd.prog (binOp .eql 23 (dsV o s t g) (dsV o s t g)) w = .ok (.bool true) w := by
  have u3 := Tryd.underlying3
  have u2 := Tryd.underlying2
  have u4 := Tryd.underlying4
  have hS : Tryd.prog.underlying 23 = some (.struct (Tryd.prog.fieldsOf 23)) := by kernel_rfl
  have hp : Tryd.prog.stoodInHeld 23 = false := by kernel_rfl
  rw [run_eql_struct, show (10000 : Nat) = 9999 + 1 from rfl, run_equalIn_agg w 9999 23 _ _ hS hp]
  simp only [Program.fieldsOf, Tryd.underlying23]
  go_simp
theorem neq_desc (o s t : Int) (g : Bool) (w : World) : Sem.run Tryd.prog (binOp .neq 23 (dsV o s t g) (dsV o s t g)) w = .ok (.bool false) w := by
  have u3 := Tryd.underlying3
  have u2 := Tryd.underlying2
  have u4 := Tryd.underlying4
  have hS : Tryd.prog.underlying 23 = some (.struct (Tryd.prog.fieldsOf 23)) := by kernel_rfl
  have hp : Tryd.prog.stoodInHeld 23 = false := by kernel_rfl
  rw [run_neq_struct, show (10000 : Nat) = 9999 + 1 from rfl, run_equalIn_agg w 9999 23 _ _ hS hp]
  simp only [Program.fieldsOf, Tryd.underlying23]
  go_simp
theorem guardD : Tryd.prog.eqGuardType Tryd.prog.depth 23 = false := by kernel_rfl
/-- a box that holds a description -/
abbrev BoxD (W : World) (b : Nat) (o s t : Int) (g : Bool) : Prop := W.heap[b]? = some (.cells #[.int .i64 o, .int .i64 s, .int .i64 t, .bool g] 23 (0, 0))
section
variable {W : World} {b : Nat} {o s t : Int} {g : Bool}
theorem BoxD.c0 (h : BoxD W b o s t g) : W.cell? ⟨b, 0, none⟩ = some (.int .i64 o) := by rw [cell_of_block h]; rfl
theorem BoxD.c1 (h : BoxD W b o s t g) : W.cell? ⟨b, 1, none⟩ = some (.int .i64 s) := by rw [cell_of_block h]; rfl
theorem BoxD.c2 (h : BoxD W b o s t g) : W.cell? ⟨b, 2, none⟩ = some (.int .i64 t) := by rw [cell_of_block h]; rfl
theorem BoxD.c3 (h : BoxD W b o s t g) : W.cell? ⟨b, 3, none⟩ = some (.bool g) := by rw [cell_of_block h]; rfl
theorem BoxD.below {W' : World} (h : BoxD W b o s t g) (hb : Below W.heap.size W W') : BoxD W' b o s t g := (hb.block _ (blk_lt h)).trans h
end
theorem unV_ds (x : Int) : ∃ o s t g, unV x = dsV o s t g := by
  unfold unV
  split
  · exact ⟨_, _, _, _, rfl⟩
  · exact ⟨_, _, _, _, rfl⟩
section
variable (o s t : Int) (g : Bool) (x : Int) (w : World)
set_option maxRecDepth 100000 in
set_option maxHeartbeats 6400000 in
theorem law_packs (h0 : 0 ≤ x) (hx : x < 18446744073709551616) (hT : Tab w) :
    Calls Tryd.prog 3 #[dsV o s t g, .int .u64 x] w fun e w' => e = .returned (.bool true) ∧ Below w.heap.size w w' := by
  have b0 := below_box0 w (.cells #[.int .i64 o, .int .i64 s, .int .i64 t, .bool g] 23)
  have HB0 := Lib.hid b0
  have HD0 : Hid (BoxD (w.alloc (.cells #[.int .i64 o, .int .i64 s, .int .i64 t, .bool g] 23)) w.heap.size o s t g) := Lib.hid (heap_alloc_new w _)
  have HT := Lib.hid hT
  have HP := Lib.hid (pack_ok o s t g)
  have HR := Lib.hid (rpack_ok o s t g)
  have HU := Lib.hid (unpack_ok x h0 hx)
  have HV := Lib.hid (runpack_ok x h0 hx)
  obtain ⟨uo, us, ut, ug, hu⟩ := unV_ds x
  obtain ⟨ue, hue⟩ : ∃ z, unE x = z := ⟨_, rfl⟩
  rw [hu, hue] at HU HV
  obtain ⟨pv, hpv⟩ : ∃ z, pkV o s t g = z := ⟨_, rfl⟩
  obtain ⟨pe, hpe⟩ : ∃ z, pkE o s t = z := ⟨_, rfl⟩
  rw [hpv, hpe] at HP HR
  have hw3 : pe = 0 → ∀ W, Calls Tryd.prog 15 #[.int .u64 pv] W fun e w' => e = .returned (.tuple #[dsV o s t g, .int .i64 0]) ∧ Below W.heap.size W w' := fun hz W => by
    rw [hz] at hpe
    obtain ⟨e1, e2, e3, e4, e5⟩ := un_pk (h := g) hpe
    have hb := pkW_bd (h := g) hpe
    have hpw : pv = pkW o s t g := by rw [← hpv, pkV_ok hpe]
    have := unpack_ok (pkW o s t g) (by omega) (by omega) W
    unfold unV at this
    rw [e5, if_pos rfl, e1, e2, e3, e4] at this
    rw [hpw]; exact this
  have HW3 := Lib.hid hw3
  have HNQ := Lib.hid (neq_desc uo us ut ug)
  have HEQ := Lib.hid (eql_desc o s t g)
  clear b0 hT h0 hx hu hue hpv hpe hw3
  go_enter Tryd.func3, Tryd.ntmps3
  go_wp2_with fail
  refine (HP.out _).mono ?_
  rintro e w1 ⟨rfl, b1⟩
  have HB1 := Lib.hid (below_tr HB0.out b1)
  have HD1 := Lib.hid (HD0.out.below b1)
  have d0 := HD1.out.c0
  have d1 := HD1.out.c1
  have d2 := HD1.out.c2
  have d3 := HD1.out.c3
  clear b1 HB0 HD0
  go_wp2_with fail
  refine (HR.out _).mono ?_
  clear d0 d1 d2 d3
  rintro e w2 ⟨rfl, b2⟩
  have HB2 := Lib.hid (below_tr HB1.out b2)
  have HD2 := Lib.hid (HD1.out.below b2)
  clear b2 HB1 HD1
  go_wp2_with fail
  refine (HU.out _).mono ?_
  rintro e w3 ⟨rfl, b3⟩
  have b4 := below_box0 w3 (.cells #[.int .i64 uo, .int .i64 us, .int .i64 ut, .bool ug] 23)
  have HB4 := Lib.hid (below_tr HB2.out (below_tr b3 b4))
  have HD4 := Lib.hid (HD2.out.below (below_tr b3 b4))
  have HE4 : Hid (BoxD (w3.alloc (.cells #[.int .i64 uo, .int .i64 us, .int .i64 ut, .bool ug] 23)) w3.heap.size uo us ut ug) := Lib.hid (heap_alloc_new w3 _)
  have HL4 := Lib.hid (Nat.lt_of_lt_of_le (blk_lt HD2.out) b3.size)
  clear b3 b4 HB2 HD2
  go_wp2_with fail
  obtain ⟨W4, hW4⟩ : ∃ W, w3.alloc (.cells #[.int .i64 uo, .int .i64 us, .int .i64 ut, .bool ug] 23) = W := ⟨_, rfl⟩
  rw [hW4] at HB4 HD4 HE4 ⊢
  obtain ⟨p, hp⟩ : ∃ z, w3.heap.size = z := ⟨_, rfl⟩
  rw [hp] at HE4 HL4 ⊢
  clear hW4 hp
  refine (HV.out _).mono ?_
  rintro e w5 ⟨rfl, b5⟩
  have b6 := below_box0 w5 (.cells #[.int .i64 uo, .int .i64 us, .int .i64 ut, .bool ug] 23)
  have HB6 := Lib.hid (below_tr HB4.out (below_tr b5 b6))
  have HD6 := Lib.hid (HD4.out.below (below_tr b5 b6))
  have HE6 := Lib.hid (HE4.out.below (below_tr b5 b6))
  have HE5 := Lib.hid (HE4.out.below b5)
  have e0 := HE5.out.c0
  have e1 := HE5.out.c1
  have e2 := HE5.out.c2
  have e3 := HE5.out.c3
  have lp := blk_lt HE5.out
  have hnq := HNQ.out
  have hgd := guardD
  have z1 : (pv != pv) = false := by simp
  have z2 : (pe != pe) = false := by simp
  have z3 : (ue != ue) = false := by simp
  clear b5 b6 HB4 HD4 HE4
  by_cases hz : pe = 0
  · have HW := Lib.hid (HW3.out hz)
    have z4 : (pe == 0) = true := by simpa using hz
    clear hz
    go_wp2_with fail
    refine (HW.out _).mono ?_
    clear e0 e1 e2 e3 lp hnq z1 z2 z3
    rintro e w7 ⟨rfl, b7⟩
    have HB7 := Lib.hid (below_tr HB6.out b7)
    have HD7 := Lib.hid (HD6.out.below b7)
    have HE7 := Lib.hid (HE6.out.below b7)
    have d0 := HD7.out.c0
    have d1 := HD7.out.c1
    have d2 := HD7.out.c2
    have d3 := HD7.out.c3
    have e0 := HE7.out.c0
    have e1 := HE7.out.c1
    have e2 := HE7.out.c2
    have e3 := HE7.out.c3
    have fe : ∀ j, w7.frozen? ⟨p, j, none⟩ = false := fun j => unfrozen_of_block HE7.out j
    have lp := blk_lt HE7.out
    have hpd := HL4.out
    have hpd1 : ¬ (w.heap.size = p) := by omega
    have hpd2 : ¬ (p = w.heap.size) := by omega
    have heq := HEQ.out
    have HB8 := Lib.hid ((((HB7.out.setCell (p := ⟨p, 0, none⟩) (Nat.le_of_lt hpd) (.int .i64 o)).setCell (p := ⟨p, 1, none⟩) (Nat.le_of_lt hpd) (.int .i64 s)).setCell (p := ⟨p, 2, none⟩) (Nat.le_of_lt hpd) (.int .i64 t)).setCell (p := ⟨p, 3, none⟩) (Nat.le_of_lt hpd) (.bool g))
    clear b7
    go_wp2_with fail
    refine (awake_ok _ (HT.out.below HB8.out)).mono ?_
    rintro e w9 ⟨rfl, b9⟩
    have HB9 := Lib.hid (below_tr HB8.out b9)
    clear b9
    go_wp2
    go_ret
    exact ⟨rfl, HB9.out⟩
  · have z4 : (pe == 0) = false := by simpa using hz
    clear hz
    go_wp2_with fail
    refine (awake_ok _ (HT.out.below HB6.out)).mono ?_
    rintro e w7 ⟨rfl, b7⟩
    have HB7 := Lib.hid (below_tr HB6.out b7)
    clear b7
    go_wp2
    go_ret
    exact ⟨rfl, HB7.out⟩
end
end Go.Proofs.YtfmclbacoffdaaaDoor

namespace Go.Proofs.YtfmclbacoffdaaaDoor
open Go.RowKit Go.Sort Go.Joins
theorem own_fr {w w' : World} {B p q size n : Nat} {e : TypeId} {v : Value} {xs : List Value} (h : w.ownsRow B e size v n xs) (f : Fr p q w w') (hp : p < B) (hq : q < B) : w'.ownsRow B e size v n xs := by
  obtain ⟨h1, h2⟩ := h
  refine ⟨h1, ?_⟩
  rcases h2 with h2 | ⟨g, cap, cur, hv, hg, hh, r⟩
  · exact Or.inl h2
  · exact Or.inr ⟨g, cap, cur, hv, hg, by rw [f.block _ (blk_lt hh) (by omega) (by omega)]; exact hh, r⟩
theorem OSt.fr {w w' : World} {B p q : Nat} {v : Value} {K L : Nat → Value} {S : List Rn} (h : OSt w B v K L S) (f : Fr p q w w') (hp : p < B) (hq : q < B) : OSt w' B v K L S :=
  ⟨own_fr h.row f hp hq, fun j hj => own_fr (h.kid j hj) f hp hq, fun j hj => own_fr (h.wrd j hj) f hp hq, h.kk, h.ll⟩
section
variable {X : RM}
theorem get_same {Y : RM} {p : Nat} (h : wdI Y.st p = wdI X.st p) : getE Y p = getE X p ∧ getV Y p = getV X p := by
  have e : getE Y p = getE X p := by unfold getE; rw [Int.toNat_natCast, h]
  refine ⟨e, ?_⟩
  unfold getV
  rw [e, Int.toNat_natCast, h]
theorem set_words (h : RGood X) {f t o s c : Int} (g : Bool) (hE : setE X f t o s c = 0) {p : Nat} (hp : p < 1024) : wdI (setX X f t o s c g).st p = if f ≤ (p : Int) ∧ (p : Int) < t then (pkW o s c g).toNat else wdI X.st p := by
  obtain ⟨e1, e2, e3⟩ := setE_zero hE
  obtain ⟨p1, p2, p3⟩ := paE_zero e1
  have hb := pkW_bd (h := g) e2
  have := (h.a.sets (x := (pkW o s c g).toNat) (by omega) (show f.toNat + (t - f).toNat ≤ 1024 by omega) e3).2.2 p hp
  unfold setX
  rw [if_pos hE, this]
  by_cases c1 : f ≤ (p : Int) ∧ (p : Int) < t
  · rw [if_pos c1, if_pos (by omega)]
  · rw [if_neg c1, if_neg (by omega)]
theorem clr_words (h : RGood X) {f t : Int} (hE : paE f t = 0) {p : Nat} (hp : p < 1024) : wdI (clrX X f t).st p = if f ≤ (p : Int) ∧ (p : Int) < t then 0 else wdI X.st p := by
  obtain ⟨p1, p2, p3⟩ := paE_zero hE
  have := (h.a.clrs f.toNat (t - f).toNat (by omega)).2.2 p hp
  unfold clrX
  rw [if_pos hE, this]
  by_cases c1 : f ≤ (p : Int) ∧ (p : Int) < t
  · rw [if_pos c1, if_pos (by omega)]
  · rw [if_neg c1, if_neg (by omega)]
/-- Get of a page that Set has described -/
theorem get_set (h : RGood X) {f t o s c : Int} (g : Bool) (hE : setE X f t o s c = 0) {p : Nat} (hp : p < 1024) (hin : f ≤ (p : Int) ∧ (p : Int) < t) : getE (setX X f t o s c g) p = 0 ∧ getV (setX X f t o s c g) p = dsV o s c g := by
  have e2 := (setE_zero hE).2.1
  have hb := pkW_bd (h := g) e2
  obtain ⟨u1, u2, u3, u4, u5⟩ := un_pk (h := g) e2
  have hw := set_words h g hE hp
  rw [if_pos hin] at hw
  have hE' : getE (setX X f t o s c g) p = 0 := by
    unfold getE
    rw [if_neg (by omega), Int.toNat_natCast, hw, if_neg (by omega), Int.toNat_of_nonneg (by omega), u5]
  refine ⟨hE', ?_⟩
  unfold getV
  rw [if_pos hE', Int.toNat_natCast, hw, Int.toNat_of_nonneg (by omega)]
  unfold unV
  rw [if_pos u5, u1, u2, u3, u4]
theorem get_clr (h : RGood X) {f t : Int} (hE : paE f t = 0) {p : Nat} (hp : p < 1024) (hin : f ≤ (p : Int) ∧ (p : Int) < t) : getE (clrX X f t) p = 4 := by
  have hw := clr_words h hE hp
  rw [if_pos hin] at hw
  unfold getE
  rw [if_neg (by omega), Int.toNat_natCast, hw, if_pos rfl]
theorem get_out {Y : RM} {f t : Int} {u : Nat} {p : Nat} (hw : wdI Y.st p = if f ≤ (p : Int) ∧ (p : Int) < t then u else wdI X.st p) (hin : ¬ (f ≤ (p : Int) ∧ (p : Int) < t)) : getE Y p = getE X p ∧ getV Y p = getV X p := by
  rw [if_neg hin] at hw
  exact get_same hw
theorem getV_dsv (X : RM) (p : Int) : ∃ o s t g, getV X p = dsV o s t g := by
  unfold getV
  split
  · exact unV_ds _
  · exact ⟨_, _, _, _, rfl⟩
end
end Go.Proofs.YtfmclbacoffdaaaDoor

namespace Go.Proofs.YtfmclbacoffdaaaDoor
open Go.ChangeShapes Go.WideShapes Go.ChangeAt Go.RowKit

theorem own : ownKnob Tryd.prog.godebug = none := by kernel_rfl
theorem gTab : Tryd.prog.globalNamed "math/bits.deBruijn64tab" = some 0 := by kernel_rfl
theorem gTabType : (Tryd.prog.globals[0]?).map (·.type) = some 129 := by kernel_rfl
theorem cellsTab : Tryd.prog.cellsOf 129 = 64 := by kernel_rfl
theorem cellsU8 : Tryd.prog.cellsOf 5 = 1 := by kernel_rfl

theorem tab_of {W : World} (h : laidMetH Tryd.prog [("math/bits.deBruijn64tab", Rows.laid_math_bits_deBruijn64tab)] W) : Tab W := by
  have ht : Lib.TabIs Tryd.prog W "math/bits.deBruijn64tab" .u8 (Lib.deBruijn64tab.map fun (x : Nat) => (x : Int)) :=
    Lib.tabIs_of_head (rest := []) gTab gTabType Tryd.underlying129 Tryd.underlying5 cellsU8 cellsTab h
  intro i hi
  have := ht.cell gTab i (by rw [List.length_map]; exact hi)
  rw [this]
  have e : (Lib.deBruijn64tab.map fun (x : Nat) => (x : Int)).getD i 0 = ((Lib.deBruijn64tab.getD i 0 : Nat) : Int) := by
    have h64 : Lib.deBruijn64tab.length = 64 := rfl
    simp [List.getD_eq_getElem?_getD, h64, hi]
  rw [e]

/-- A world for the witness: the settled one, the table holding what its initialiser lays. -/
noncomputable def laidWorld (os : Os) : World :=
  { World.holding Tryd.prog os ⟨#[], #[], []⟩ with heap := (World.holding Tryd.prog os ⟨#[], #[], []⟩).heap.modify 0 fun
      | .cells _ t frozen => .cells (Lib.deBruijn64tab.map fun (x : Nat) => Value.int .u8 (x : Int)).toArray t frozen
      | o => o }
theorem laidOut : laidOutB Tryd.prog = true := by kernel_rfl

theorem trodAll_below {H : Type} {enc : TypeId × Value → H} {W W' : World} (hb : Below W.heap.size W W') (ts : List TypeId) : ∀ (vs : List Value) (ds : List (DataW H)) (ps : List MemPlace),
    (ts.all fun t => Tryd.prog.readableRec t && decide (t < Tryd.prog.types.size)) = true → (∀ x ∈ ps, x.block < W.heap.size) → DataW.TrodAll enc Tryd.prog W 0 (fun _ => true) true ts vs ds ps →
    DataW.TrodAll enc Tryd.prog W' 0 (fun b => decide (b < W.heap.size)) true ts vs ds ps := by
  induction ts with
  | nil =>
    intro vs ds ps _ _ h
    obtain ⟨rfl, rfl, rfl⟩ := trodAll_nil h
    exact trodAll_mk0
  | cons t ts ih =>
    intro vs ds ps hr hlt h
    obtain ⟨v, vs', d, ds', p, q, rfl, rfl, rfl, h1, h2⟩ := trodAll_cons h
    rw [List.all_cons, Bool.and_eq_true, Bool.and_eq_true] at hr
    exact trodAll_cons_mk (Below.trod laidOut hr.1.1 (of_decide_eq_true hr.1.2) h1 hb (fun x hx => hlt x (List.mem_append_left _ hx))) (ih vs' ds' q hr.2 (fun x hx => hlt x (List.mem_append_right _ hx)) h2)

/-- WHAT A LAW's WALK GIVES THE ROW: true, the arguments read as they did. -/
theorem law_post {H : Type} {enc : TypeId × Value → H} {fn : Func} {s : ChangeSpec} {W W' : World} {args : Array Value} {ds gs : List (DataW H)} {before : List MemPlace}
    (hW : DataW.Whole enc Tryd.prog fn.params.toList s.vars false W args.toList ds gs before) (hv : s.vars = []) (hr : (fn.params.toList.all fun t => Tryd.prog.readableRec t && decide (t < Tryd.prog.types.size)) = true) (hrt : fn.resultTypes = #[4])
    (h1 : (s.fn H (ds ++ gs)).results = [.lit (.bool true)]) (h2 : (s.fn H (ds ++ gs)).args = ds) (h3 : (s.fn H (ds ++ gs)).vars = []) (hb : Below W.heap.size W W') :
    s.post enc Tryd.prog fn false true false false W args (.bool true) W' := by
  have hW' := hW
  have hlt := hW.lt
  obtain ⟨p, q, hA, hV, rfl, hfz, hnd⟩ := hW
  refine ⟨ds, gs, p ++ q, [], p, [], hW', ?_, ?_, ?_, hb.frame _, fun h => by cases h⟩
  · rw [h1, hrt]
    exact trodAll_cons_mk (shut_bool Tryd.underlying4 _) trodAll_mk0
  · rw [h2]
    exact trodAll_below hb _ _ _ _ hr (fun x hx => hlt x (List.mem_append_left _ hx)) hA
  · rw [h3, hv]; rfl
end Go.Proofs.YtfmclbacoffdaaaDoor

namespace Go.Proofs.YtfmclbacoffdaaaDoor
open Go.ChangeShapes Go.WideShapes Go.ChangeAt Go.RowKit Go.Joins
set_option maxRecDepth 100000 in
theorem open_desc {H : Type} {enc : TypeId × Value → H} {W : World} {base : Nat} {v : Value} {d : DataW H} {p : List MemPlace} (hv : Value.okWide Tryd.prog W .any base 23 v) (h : DataW.Trod enc Tryd.prog W 0 (fun _ => true) true 23 v d p) :
    ∃ (o s t : Int) (g : Bool), v = .agg #[.int .i64 o, .int .i64 s, .int .i64 t, .bool g] ∧ (-9223372036854775808 ≤ o ∧ o ≤ 9223372036854775807) ∧ (-9223372036854775808 ≤ s ∧ s ≤ 9223372036854775807) ∧ (-9223372036854775808 ≤ t ∧ t ≤ 9223372036854775807) := by
  obtain ⟨cs, rfl, hsz⟩ := okWide_struct Tryd.underlying23 hv
  have hC : Tryd.prog.cellsOf 23 = 4 := by kernel_rfl
  have hk : Tryd.prog.cellsOf 3 = 1 := by kernel_rfl
  have hk6 : Tryd.prog.cellsOf 2 = 1 := by kernel_rfl
  have hkb : Tryd.prog.cellsOf 4 = 1 := by kernel_rfl
  obtain ⟨fuel, hf⟩ := h
  have hl : cs.toList.length = 4 := by simpa using hsz.trans hC
  obtain ⟨ys, n', _, _, _, hyl, hg⟩ := DataW.trod_struct Tryd.underlying23 hf
  have h0 : DataW.trod enc Tryd.prog W 0 (fun _ => true) true n' 3 ((cs.toList.drop 0).take (Tryd.prog.cellsOf 3)) = ys[0]? := hg 0 _ rfl
  have h1 : DataW.trod enc Tryd.prog W 0 (fun _ => true) true n' 3 ((cs.toList.drop 1).take (Tryd.prog.cellsOf 3)) = ys[1]? := hg 1 _ rfl
  have h2 : DataW.trod enc Tryd.prog W 0 (fun _ => true) true n' 2 ((cs.toList.drop 2).take (Tryd.prog.cellsOf 2)) = ys[2]? := hg 2 _ rfl
  have h3 : DataW.trod enc Tryd.prog W 0 (fun _ => true) true n' 4 ((cs.toList.drop 3).take (Tryd.prog.cellsOf 4)) = ys[3]? := hg 3 _ rfl
  rw [hk] at h0 h1
  rw [hk6] at h2
  rw [hkb] at h3
  have e0 : ys[0]? = some (ys[0]'(by rw [hyl]; decide)) := List.getElem?_eq_getElem _
  have e1 : ys[1]? = some (ys[1]'(by rw [hyl]; decide)) := List.getElem?_eq_getElem _
  have e2 : ys[2]? = some (ys[2]'(by rw [hyl]; decide)) := List.getElem?_eq_getElem _
  have e3 : ys[3]? = some (ys[3]'(by rw [hyl]; decide)) := List.getElem?_eq_getElem _
  match hcs : cs.toList, hl with
  | [v0, v1, v2, v3], _ =>
    rw [hcs] at h0 h1 h2 h3
    obtain ⟨x0, f0, _, w0⟩ := DataW.trod_int Tryd.underlying3 (show DataW.trod enc Tryd.prog W 0 (fun _ => true) true n' 3 [v0] = some _ from h0.trans e0)
    obtain ⟨x1, f1, _, w1⟩ := DataW.trod_int Tryd.underlying3 (show DataW.trod enc Tryd.prog W 0 (fun _ => true) true n' 3 [v1] = some _ from h1.trans e1)
    obtain ⟨x2, f2, _, w2⟩ := DataW.trod_int Tryd.underlying2 (show DataW.trod enc Tryd.prog W 0 (fun _ => true) true n' 2 [v2] = some _ from h2.trans e2)
    obtain ⟨x3, f3, _⟩ := DataW.trod_bool Tryd.underlying4 (show DataW.trod enc Tryd.prog W 0 (fun _ => true) true n' 4 [v3] = some _ from h3.trans e3)
    cases f0; cases f1; cases f2; cases f3
    exact ⟨x0, x1, x2, x3, by cases cs; simp_all, bounds_i64 w0, bounds_i64 w1, bounds_i64 w2⟩
end Go.Proofs.YtfmclbacoffdaaaDoor

namespace Go.Proofs.YtfmclbacoffdaaaDoor
open Go.ChangeShapes Go.WideShapes Go.ChangeAt Go.RowKit Go.Joins Go.Deep
/-- the bounds of a call's numbers -/
structure ClOk (x : Cl) : Prop where
  w : x.wh ≤ 255
  f : -9223372036854775808 ≤ x.f ∧ x.f ≤ 9223372036854775807
  t : -9223372036854775808 ≤ x.t ∧ x.t ≤ 9223372036854775807
  o : -9223372036854775808 ≤ x.o ∧ x.o ≤ 9223372036854775807
  s : -9223372036854775808 ≤ x.s ∧ x.s ≤ 9223372036854775807
  c : -9223372036854775808 ≤ x.c ∧ x.c ≤ 9223372036854775807
section
variable {H : Type} {enc : TypeId × Value → H} {W : World} {base : Nat}
set_option maxRecDepth 100000 in
/-- the cells of a call -/
theorem cells_call {fuel : Nat} {cs : List Value} {x : DataW H × List MemPlace} (hl : cs.length = 7) (hf : DataW.trod enc Tryd.prog W base (fun _ => true) true fuel 73 cs = some x) :
    ∃ x : Cl, cs = [.int .u8 (x.wh : Int), .int .i64 x.f, .int .i64 x.t, .int .i64 x.o, .int .i64 x.s, .int .i64 x.c, .bool x.g] ∧ ClOk x := by
  have hk5 : Tryd.prog.cellsOf 5 = 1 := by kernel_rfl
  have hk : Tryd.prog.cellsOf 3 = 1 := by kernel_rfl
  have hk6 : Tryd.prog.cellsOf 2 = 1 := by kernel_rfl
  have hkb : Tryd.prog.cellsOf 4 = 1 := by kernel_rfl
  have hkd : Tryd.prog.cellsOf 23 = 4 := by kernel_rfl
  obtain ⟨ys, n', _, _, _, hyl, hg⟩ := DataW.trod_struct Tryd.underlying73 hf
  have h0 : DataW.trod enc Tryd.prog W base (fun _ => true) true n' 5 ((cs.drop 0).take (Tryd.prog.cellsOf 5)) = ys[0]? := hg 0 _ rfl
  have h1 : DataW.trod enc Tryd.prog W base (fun _ => true) true n' 3 ((cs.drop 1).take (Tryd.prog.cellsOf 3)) = ys[1]? := hg 1 _ rfl
  have h2 : DataW.trod enc Tryd.prog W base (fun _ => true) true n' 3 ((cs.drop 2).take (Tryd.prog.cellsOf 3)) = ys[2]? := hg 2 _ rfl
  have h3 : DataW.trod enc Tryd.prog W base (fun _ => true) true n' 23 ((cs.drop 3).take (Tryd.prog.cellsOf 23)) = ys[3]? := hg 3 _ rfl
  rw [hk5] at h0
  rw [hk] at h1 h2
  rw [hkd] at h3
  have e0 : ys[0]? = some (ys[0]'(by rw [hyl]; decide)) := List.getElem?_eq_getElem _
  have e1 : ys[1]? = some (ys[1]'(by rw [hyl]; decide)) := List.getElem?_eq_getElem _
  have e2 : ys[2]? = some (ys[2]'(by rw [hyl]; decide)) := List.getElem?_eq_getElem _
  have e3 : ys[3]? = some (ys[3]'(by rw [hyl]; decide)) := List.getElem?_eq_getElem _
  match cs, hl with
  | [v0, v1, v2, v3, v4, v5, v6], _ =>
    obtain ⟨x0, f0, _, w0⟩ := DataW.trod_int Tryd.underlying5 (show DataW.trod enc Tryd.prog W base (fun _ => true) true n' 5 [v0] = some _ from h0.trans e0)
    obtain ⟨x1, f1, _, w1⟩ := DataW.trod_int Tryd.underlying3 (show DataW.trod enc Tryd.prog W base (fun _ => true) true n' 3 [v1] = some _ from h1.trans e1)
    obtain ⟨x2, f2, _, w2⟩ := DataW.trod_int Tryd.underlying3 (show DataW.trod enc Tryd.prog W base (fun _ => true) true n' 3 [v2] = some _ from h2.trans e2)
    obtain ⟨zs, n2, _, _, _, hzl, hz⟩ := DataW.trod_struct Tryd.underlying23 (show DataW.trod enc Tryd.prog W base (fun _ => true) true n' 23 [v3, v4, v5, v6] = some _ from h3.trans e3)
    have g0 : DataW.trod enc Tryd.prog W base (fun _ => true) true n2 3 (([v3, v4, v5, v6].drop 0).take (Tryd.prog.cellsOf 3)) = zs[0]? := hz 0 _ rfl
    have g1 : DataW.trod enc Tryd.prog W base (fun _ => true) true n2 3 (([v3, v4, v5, v6].drop 1).take (Tryd.prog.cellsOf 3)) = zs[1]? := hz 1 _ rfl
    have g2 : DataW.trod enc Tryd.prog W base (fun _ => true) true n2 2 (([v3, v4, v5, v6].drop 2).take (Tryd.prog.cellsOf 2)) = zs[2]? := hz 2 _ rfl
    have g3 : DataW.trod enc Tryd.prog W base (fun _ => true) true n2 4 (([v3, v4, v5, v6].drop 3).take (Tryd.prog.cellsOf 4)) = zs[3]? := hz 3 _ rfl
    rw [hk] at g0 g1
    rw [hk6] at g2
    rw [hkb] at g3
    have q0 : zs[0]? = some (zs[0]'(by rw [hzl]; decide)) := List.getElem?_eq_getElem _
    have q1 : zs[1]? = some (zs[1]'(by rw [hzl]; decide)) := List.getElem?_eq_getElem _
    have q2 : zs[2]? = some (zs[2]'(by rw [hzl]; decide)) := List.getElem?_eq_getElem _
    have q3 : zs[3]? = some (zs[3]'(by rw [hzl]; decide)) := List.getElem?_eq_getElem _
    obtain ⟨x3, f3, _, w3⟩ := DataW.trod_int Tryd.underlying3 (show DataW.trod enc Tryd.prog W base (fun _ => true) true n2 3 [v3] = some _ from g0.trans q0)
    obtain ⟨x4, f4, _, w4⟩ := DataW.trod_int Tryd.underlying3 (show DataW.trod enc Tryd.prog W base (fun _ => true) true n2 3 [v4] = some _ from g1.trans q1)
    obtain ⟨x5, f5, _, w5⟩ := DataW.trod_int Tryd.underlying2 (show DataW.trod enc Tryd.prog W base (fun _ => true) true n2 2 [v5] = some _ from g2.trans q2)
    obtain ⟨x6, f6, _⟩ := DataW.trod_bool Tryd.underlying4 (show DataW.trod enc Tryd.prog W base (fun _ => true) true n2 4 [v6] = some _ from g3.trans q3)
    cases f0; cases f1; cases f2; cases f3; cases f4; cases f5; cases f6
    have b0 := bounds_u8 w0
    obtain ⟨z0, rfl⟩ := Int.eq_ofNat_of_zero_le b0.1
    exact ⟨⟨z0, x1, x2, x3, x4, x5, x6⟩, rfl, ⟨by dsimp only; omega, bounds_i64 w1, bounds_i64 w2, bounds_i64 w3, bounds_i64 w4, bounds_i64 w5⟩⟩
set_option maxRecDepth 100000 in
theorem open_call {v : Value} {d : DataW H} {p : List MemPlace} (hv : Value.okWide Tryd.prog W .any base 73 v) (h : DataW.Trod enc Tryd.prog W 0 (fun _ => true) true 73 v d p) :
    ∃ x : Cl, v = .agg #[.int .u8 (x.wh : Int), .int .i64 x.f, .int .i64 x.t, .int .i64 x.o, .int .i64 x.s, .int .i64 x.c, .bool x.g] ∧ ClOk x := by
  obtain ⟨cs, rfl, hsz⟩ := okWide_struct Tryd.underlying73 hv
  have hC : Tryd.prog.cellsOf 73 = 7 := by kernel_rfl
  obtain ⟨fuel, hf⟩ := h
  have hl : cs.toList.length = 7 := by simpa using hsz.trans hC
  obtain ⟨x, hx, hb⟩ := cells_call hl hf
  exact ⟨x, by cases cs; simp_all, hb⟩
set_option maxRecDepth 100000 in
theorem open_calls7 {v : Value} {d : DataW H} {p : List MemPlace} (hv : Value.okWide Tryd.prog W .any base 32 v) (h : DataW.Trod enc Tryd.prog W 0 (fun _ => true) true 32 v d p) :
    ∃ (a : Option Addr) (n cap : Nat) (C : Nat → Cl), v = .slice a n cap ∧ SlC W a n C ∧ n ≤ 9223372036854775807 ∧ ∀ j, j < n → ClOk (C j) := by
  obtain ⟨a, l, c, rfl⟩ := okWide_slice Tryd.underlying32 hv
  have hC : Tryd.prog.cellsOf 73 = 7 := by kernel_rfl
  obtain ⟨fuel, hf⟩ := h
  rcases open_slice Tryd.underlying32 hf with ⟨h, _⟩ | ⟨A, len, cap, mm, n, D, Pl, h, _, hl, hm, hmm, _, hi⟩
  · cases h
    exact ⟨none, 0, 0, fun _ => default, rfl, .inl rfl, by decide, fun j hj => by omega⟩
  · cases h
    have hml : maxLen ≤ 9223372036854775807 := by decide
    simp only [↓reduceIte] at hmm
    have key : ∀ i, i < c → ∃ x : Cl, (∀ k, k < 7 → W.cell? (A.add (i * 7 + k)) = [Value.int .u8 (x.wh : Int), .int .i64 x.f, .int .i64 x.t, .int .i64 x.o, .int .i64 x.s, .int .i64 x.c, .bool x.g][k]?) ∧ ClOk x := by
      intro i hic
      obtain ⟨cs', hc, ht'⟩ := hi i (by omega)
      rw [hC] at hc
      obtain ⟨_, hcl, hat⟩ := World.cells?_some hc
      obtain ⟨x, hx, hb⟩ := cells_call hcl ht'
      refine ⟨x, fun k hk => ?_, hb⟩
      have := hat k hk
      rw [Go.Deep.add_add] at this
      rw [this, hx]
    have key2 : ∃ C : Nat → Cl, ∀ i, i < c → (∀ k, k < 7 → W.cell? (A.add (i * 7 + k)) = [Value.int .u8 ((C i).wh : Int), .int .i64 (C i).f, .int .i64 (C i).t, .int .i64 (C i).o, .int .i64 (C i).s, .int .i64 (C i).c, .bool (C i).g][k]?) ∧ ClOk (C i) := by
      classical
      refine ⟨fun i => if hi : i < c then Classical.choose (key i hi) else default, fun i hi => ?_⟩
      dsimp only
      rw [dif_pos hi]
      exact Classical.choose_spec (key i hi)
    obtain ⟨C, hC'⟩ := key2
    refine ⟨some A, l, c, C, rfl, ?_, by omega, fun j hj => (hC' j (by omega)).2⟩
    by_cases h0 : l = 0
    · exact .inl h0
    · have hp := (hC' 0 (by omega)).1 0 (by decide)
      obtain ⟨b, o, spot⟩ := A
      have hs : spot = none := World.cell?_spot (hp.trans rfl)
      subst hs
      have hlt : b < W.heap.size := World.block_lt_of_cell? _ _ (hp.trans rfl)
      refine .inr ⟨b, o, rfl, hlt, fun j hj => ?_⟩
      have hk := (hC' j (by omega)).1
      simp only [Go.WideShapes.add_plain] at hk
      exact ⟨hk 0 (by decide), hk 1 (by decide), hk 2 (by decide), hk 3 (by decide), hk 4 (by decide), hk 5 (by decide), hk 6 (by decide)⟩
end
end Go.Proofs.YtfmclbacoffdaaaDoor

namespace Go.Proofs.YtfmclbacoffdaaaDoor
open Go.RowKit Go.Sort Go.Joins
attribute [local go_sem] cell_grow frozen_grow size_grow
theorem stS_bd (X : RM) (j : Nat) : ((stS X).getD j rn0).ks.length ≤ 10000 ∧ ((stS X).getD j rn0).ws.length ≤ 10000 := by
  by_cases hj : j < X.st.length
  · rw [stS_get X hj]
    unfold rnOf kN wN
    simp only [List.length_map, List.length_range]
    constructor
    · split
      · decide
      · split <;> decide
    · split <;> decide
  · have e : (stS X).getD j rn0 = rn0 := by
      rw [List.getD_eq_getElem?_getD, List.getElem?_eq_none (by rw [stS_len]; omega)]; rfl
    rw [e]; decide
/-- Same of two saved states -/
theorem same_st {w : World} {a1 a2 : Option Addr} {c1 c2 n1 n2 : Nat} {X Y : RM} (h1 : StR w a1 (stS X)) (h2 : StR w a2 (stS Y)) (l1 : X.st.length = n1) (l2 : Y.st.length = n2) (hn : n1 ≤ 145) (m1 m2 : Int) :
    Calls Tryd.prog 23 #[.agg #[.int .i64 m1, .slice a1 n1 c1], .agg #[.int .i64 m2, .slice a2 n2 c2]] w fun e w' => e = .returned (.bool (smS m1 m2 (stS X) (stS Y))) ∧ Below w.heap.size w w' := by
  have h := same_ok (c1 := c1) (c2 := c2) (m1 := m1) (m2 := m2) h1 h2 (by rw [stS_len]; omega) (fun j => (stS_bd X j).1) (fun j => (stS_bd X j).2)
  rwa [stS_len, stS_len, l1, l2] at h
section
variable {w : World} {a : Option Addr} {n cap : Nat} {C : Nat → Cl}
set_option maxRecDepth 100000 in
set_option maxHeartbeats 1600000 in
theorem empty_nil (N : Int) (h : N < 1 ∨ 145 < N ∨ 40 < n) (hT : Tab w) : Calls Tryd.prog 5 #[.int .i64 N, .slice a n cap] w fun e w' => e = .returned (.bool true) ∧ Below w.heap.size w w' := by
  have HM := Lib.hid (mkd_nil (w := w) (a := a) (cap := cap) N h)
  have HT := Lib.hid hT
  clear h hT
  go_enter Tryd.func5, Tryd.ntmps5
  go_wp2_with fail
  refine HM.out.mono ?_
  rintro e w1 ⟨rfl, b1⟩
  have B1 := Lib.hid b1
  clear b1
  go_wp2_with fail
  refine (awake_ok _ (HT.out.below B1.out)).mono ?_
  rintro e w2 ⟨rfl, b2⟩
  have B2 := Lib.hid (below_tr B1.out b2)
  clear b2
  go_wp2
  go_ret
  exact ⟨rfl, B2.out⟩
set_option maxRecDepth 100000 in
set_option maxHeartbeats 6400000 in
theorem empty_in (N : Nat) (h1 : 1 ≤ N) (h2 : N ≤ 145) (hn : n ≤ 40) (hC : SlC w a n C) (hT : Tab w) : Calls Tryd.prog 5 #[.int .i64 N, .slice a n cap] w fun e w' => e = .returned (.bool true) ∧ Below w.heap.size w w' := by
  have HM := Lib.hid (mkd_ok (cap := cap) N h1 h2 hn hC hT)
  have hG := RGood.mkM h1 C n
  have hl := (mkM_all h1 C n).2.2
  have hv := LvS.mkM N C n
  obtain ⟨X, hX⟩ : ∃ X, mkM N C n = X := ⟨_, rfl⟩
  rw [hX] at HM hG hl hv
  obtain ⟨hE1, hE2, hE3, hE4⟩ := clr_all hG.a hv
  have HG := Lib.hid hG
  have HL := Lib.hid hl
  obtain ⟨Y, hY⟩ : ∃ Y, clrX X 0 1024 = Y := ⟨_, rfl⟩
  rw [hY] at hE1 hE2 hE3 hE4
  have HY := Lib.hid hY
  have HYL : Hid (Y.st.length = N) := Lib.hid (hE3.trans hl)
  have HNL : Hid ((newM N).st.length = N) := Lib.hid (newM_len N)
  have HSM : Hid (smS (N : Int) (N : Int) (stS Y) (stS (newM N)) = true) := Lib.hid (decide_eq_true ⟨rfl, by rw [hE4, hl]⟩)
  have HYM := Lib.hid hE2
  have HT := Lib.hid hT
  have HN := Lib.hid (fun w => newm_ok N w h1 h2)
  have HN145 := Lib.hid h2
  clear hG hl hv hX hE1 hE2 hE3 hE4 hY hC hT
  go_enter Tryd.func5, Tryd.ntmps5
  go_wp2_with fail
  refine HM.out.mono ?_
  rintro e w1 ⟨rfl, m1, b1⟩
  have M1 := Lib.hid m1
  have B1 := Lib.hid b1
  clear m1 b1 HM
  go_wp2_with fail
  refine (HN.out _).mono ?_
  rintro e w2 ⟨rfl, m2, b2⟩
  have M2 := Lib.hid (M1.out.below b2)
  have N2 := Lib.hid m2
  have B2 := Lib.hid (below_tr B1.out b2)
  clear m2 b2 HN
  have hs1 := B1.out.size
  have hlp := M1.out.lp
  have HCL := Lib.hid (clear_ok M2.out HG.out.a B2.out.size 0 1024)
  rw [HY.out, show paE 0 1024 = 0 by decide] at HCL
  go_wp2_with fail
  refine HCL.out.mono ?_
  rintro e w3 ⟨rfl, m3, f3⟩
  have M3 := Lib.hid m3
  have N3 := Lib.hid (TM.other N2.out M2.out f3 (by omega) (by omega))
  have B3 := Lib.hid (Fr.below B2.out f3 (Nat.le_succ _) (Nat.le_refl _) B2.out.size)
  clear m3 f3 HCL
  have HND := Lib.hid (nodes_ok M3.out)
  rw [HYM.out] at HND
  go_wp2_with fail
  refine HND.out.mono ?_
  rintro e w4 ⟨rfl, rfl⟩
  have HSV := Lib.hid (save_ok M3.out)
  have HSV2 := Lib.hid (fun w' hb => save_ok (N3.out.below (w' := w') hb))
  rw [HYL.out] at HSV
  rw [HNL.out] at HSV2
  go_wp2_with fail
  refine HSV.out.mono ?_
  rintro e w5 ⟨a5, c5, rfl, ⟨K5, L5, o5⟩, b5⟩
  have S5 := Lib.hid o5.str
  have B5 := Lib.hid b5
  clear o5 b5 HSV
  go_wp2_with fail
  refine (HSV2.out _ B5.out).mono ?_
  rintro e w6 ⟨a6, c6, rfl, ⟨K6, L6, o6⟩, b6⟩
  have S6 := Lib.hid o6.str
  have S5' := Lib.hid (S5.out.below b6)
  have B6 := Lib.hid (below_tr B3.out (below_tr B5.out b6))
  clear o6 b6 HSV2
  have HSA := Lib.hid (same_st (c1 := c5) (c2 := c6) S5'.out S6.out HYL.out HNL.out HN145.out (N : Int) (N : Int))
  rw [HSM.out] at HSA
  go_wp2_with fail
  refine HSA.out.mono ?_
  rintro e w7 ⟨rfl, b7⟩
  have B7 := Lib.hid (below_tr B6.out b7)
  clear b7
  go_wp2_with fail
  refine (awake_ok _ (HT.out.below B7.out)).mono ?_
  rintro e w8 ⟨rfl, b8⟩
  have B8 := Lib.hid (below_tr B7.out b8)
  clear b8
  go_wp2
  go_ret
  exact ⟨rfl, B8.out⟩
/-- RadixEmpty returns true -/
theorem law_empty (N : Int) (hC : SlC w a n C) (hT : Tab w) : Calls Tryd.prog 5 #[.int .i64 N, .slice a n cap] w fun e w' => e = .returned (.bool true) ∧ Below w.heap.size w w' := by
  by_cases h : N < 1 ∨ 145 < N ∨ 40 < n
  · exact empty_nil N h hT
  · obtain ⟨N', rfl⟩ := Int.eq_ofNat_of_zero_le (show 0 ≤ N by omega)
    exact empty_in N' (by omega) (by omega) (by omega) hC hT
end
end Go.Proofs.YtfmclbacoffdaaaDoor

namespace Go.Proofs.YtfmclbacoffdaaaDoor
open Go.RowKit Go.Sort Go.Joins
attribute [local go_sem] cell_grow frozen_grow size_grow
theorem ds_len (l1 l2 : Nat) (h : l1 = l2) : l1 = l2 := h
/-- Load of a saved state -/
theorem load_st {w : World} {a : Option Addr} {c n : Nat} {X : RM} (hG : RGood X) (hl : X.st.length = n) (hn : n ≤ 145) (hS : StR w a (stS X)) :
    Calls Tryd.prog 30 #[.agg #[.int .i64 n, .slice a n c]] w fun e w' => ∃ g, w.heap.size ≤ g ∧ e = .returned (.tuple #[.pointer (some ⟨g + 1, 0, none⟩), .int .i64 0]) ∧ TM w' w.heap.size (g + 1) g X.st X.m X.r ∧ Below w.heap.size w w' := by
  have h := load_ok (c := c) (X.st.length : Int) (ck_stS hG (by omega)) hS (wd_bd hG)
  rw [stS_len, ld_stS hG, hl] at h
  exact h
section
variable {w : World} {a : Option Addr} {n cap : Nat} {C : Nat → Cl} {x : Cl}
set_option maxRecDepth 100000 in
set_option maxHeartbeats 1600000 in
theorem pages_nil (N : Int) (h : N < 1 ∨ 145 < N ∨ 40 < n) (hT : Tab w) : Calls Tryd.prog 11 #[.int .i64 N, .slice a n cap, .agg (clC x)] w fun e w' => e = .returned (.bool true) ∧ Below w.heap.size w w' := by
  have HB := Lib.hid (below_box0 w (.cells (clC x) 73))
  have HM := Lib.hid (fun w => mkd_nil (w := w) (a := a) (cap := cap) N h)
  have HT := Lib.hid hT
  clear h hT
  go_enter Tryd.func11, Tryd.ntmps11
  go_wp2_with fail
  refine (HM.out _).mono ?_
  rintro e w1 ⟨rfl, b1⟩
  have B1 := Lib.hid (below_tr HB.out b1)
  clear b1
  go_wp2_with fail
  refine (awake_ok _ (HT.out.below B1.out)).mono ?_
  rintro e w2 ⟨rfl, b2⟩
  have B2 := Lib.hid (below_tr B1.out b2)
  clear b2
  go_wp2
  go_ret
  exact ⟨rfl, B2.out⟩
set_option maxRecDepth 100000 in
set_option maxHeartbeats 6400000 in
theorem pages_in (N : Nat) (h1 : 1 ≤ N) (h2 : N ≤ 145) (hn : n ≤ 40) (hC : SlC w a n C) (hT : Tab w) (hx : ClOk x) : Calls Tryd.prog 11 #[.int .i64 N, .slice a n cap, .agg (clC x)] w fun e w' => e = .returned (.bool true) ∧ Below w.heap.size w w' := by
  have hB := below_box0 w (.cells (clC x) 73)
  have HB := Lib.hid hB
  have HBX := Lib.hid (heap_alloc_new w (.cells (clC x) 73))
  have HM := Lib.hid (mkd_ok (cap := cap) N h1 h2 hn (hC.below hB) (hT.below hB))
  have hG := RGood.mkM h1 C n
  have hl := (mkM_all h1 C n).2.2
  obtain ⟨X, hX⟩ : ∃ X, mkM N C n = X := ⟨_, rfl⟩
  rw [hX] at HM hG hl
  have HG := Lib.hid hG
  have HL := Lib.hid hl
  have HT := Lib.hid hT
  have HN := Lib.hid h2
  have hlt := hT.lt
  have HTL := Lib.hid hlt
  clear hG hl hX hC hT hB hlt
  go_enter Tryd.func11, Tryd.ntmps11
  go_wp2_with fail
  have hsz : (w.alloc (.cells (clC x) 73)).heap.size = w.heap.size + 1 := by simp
  generalize World.alloc _ _ = W0 at HM HB HBX hsz ⊢
  refine HM.out.mono ?_
  rintro e w1 ⟨rfl, m1, b1⟩
  rw [hsz] at m1
  have O1 : Hid (One w w1 x (w.heap.size + 1) X) := Lib.hid ⟨m1.le (by omega), (b1.block _ (by omega)).trans HBX.out, Nat.lt_succ_self _, below_tr HB.out b1⟩
  rw [hsz]
  obtain ⟨q, hq⟩ : ∃ q, w.heap.size + 1 = q := ⟨_, rfl⟩
  rw [hq] at O1 ⊢
  clear m1 b1 HM HB HBX hsz
  have HSV := Lib.hid (save_ok O1.out.m)
  rw [HL.out] at HSV
  go_wp2_with fail
  refine HSV.out.mono ?_
  rintro e w2 ⟨a2, c2, rfl, ⟨K2, L2, o2⟩, b2⟩
  have S2 := Lib.hid o2.str
  have O2 := Lib.hid (O1.out.below b2)
  have hb2 := b2.size
  have hp1 := O1.out.m.lp
  clear o2 b2 HSV
  have HLD := Lib.hid (load_st (c := c2) HG.out HL.out HN.out S2.out)
  go_wp2_with fail
  refine HLD.out.mono ?_
  rintro e w3 ⟨g, hg, rfl, n3, b3⟩
  have T3 : Hid (Two w w3 x q g X X) := Lib.hid ⟨O2.out.below b3, n3.le O2.out.k.size, by omega⟩
  have HQG := Lib.hid (show q + 1 < g by omega)
  have HWQ := Lib.hid (show w.heap.size < q by omega)
  clear n3 b3 HLD S2 O1 O2 hb2 hg hp1 hq
  have HS3 := Lib.hid (save_ok T3.out.n)
  have HS3' := Lib.hid (fun w' hb => save_ok (T3.out.o.m.below (w' := w') hb))
  rw [HL.out] at HS3 HS3'
  go_wp2_with fail
  refine HS3.out.mono ?_
  rintro e w4 ⟨a4, c4, rfl, ⟨K4, L4, o4⟩, b4⟩
  have S4 := Lib.hid o4.str
  have B4 := Lib.hid b4
  clear o4 b4 HS3
  go_wp2_with fail
  refine (HS3'.out _ B4.out).mono ?_
  rintro e w5 ⟨a5, c5, rfl, ⟨K5, L5, o5⟩, b5⟩
  have S5 := Lib.hid o5.str
  have S4' := Lib.hid (S4.out.below b5)
  have B5 := Lib.hid (below_tr B4.out b5)
  clear o5 b5 HS3'
  have HSA := Lib.hid (same_st (c1 := c4) (c2 := c5) S4'.out S5.out HL.out HL.out HN.out (N : Int) (N : Int))
  rw [show smS (N : Int) (N : Int) (stS X) (stS X) = true from decide_eq_true ⟨rfl, rfl⟩] at HSA
  go_wp2_with fail
  refine HSA.out.mono ?_
  rintro e w6 ⟨rfl, b6⟩
  have T6 := Lib.hid (T3.out.below (below_tr B5.out b6))
  clear b6 HSA S4 S4' S5 B4 B5 T3
  have f0 := T6.out.o.c0
  have f1 := T6.out.o.c1
  have f2 := T6.out.o.c2
  have f3 := T6.out.o.c3
  have f4 := T6.out.o.c4
  have f5 := T6.out.o.c5
  have f6 := T6.out.o.c6
  have TB := Lib.hid (HT.out.below T6.out.o.k)
  have hw4 : x.wh % 4 = 2 ∨ x.wh % 4 ≠ 2 := by omega
  rcases hw4 with hw | hw
  · have dw : ((x.wh : Int) % 4 == 2) = true := by simp; omega
    have HCL := Lib.hid (clear_ok T6.out.o.m HG.out.a T6.out.o.k.size x.f x.t)
    by_cases hE : paE x.f x.t = 0
    case neg =>
      have de : (paE x.f x.t != 0) = true := by simpa using hE
      obtain ⟨E, hE'⟩ : ∃ E, paE x.f x.t = E := ⟨_, rfl⟩
      rw [hE'] at HCL de
      clear hE hE' hw
      go_wp2_with fail
      refine HCL.out.mono ?_
      rintro e w7 ⟨rfl, m7, r7⟩
      have O7 := Lib.hid (T6.out.o.fr r7 m7)
      clear m7 r7
      go_wp2_with fail
      refine (awake_ok _ (HT.out.below O7.out.k)).mono ?_
      rintro e w8 ⟨rfl, b8⟩
      have O8 := Lib.hid (O7.out.below b8)
      clear b8
      go_wp2
      go_ret
      exact ⟨rfl, O8.out.k⟩
    case pos =>
    have HE := Lib.hid hE
    obtain ⟨p1, p2, p3⟩ := paE_zero hE
    rw [hE] at HCL
    have HY : Hid (clrX X x.f x.t = clrN (x.t - x.f).toNat X x.f.toNat) := Lib.hid (if_pos hE)
    clear hw hE
    go_wp2_with fail
    refine HCL.out.mono ?_
    rintro e w7 ⟨rfl, m7, r7⟩
    have T7 := Lib.hid (T6.out.frM r7 m7)
    have g1 := T7.out.o.c1
    clear m7 r7 HCL f0 f1 f2 f3 f4 f5 f6 TB T6
    obtain ⟨Y, hY⟩ : ∃ Y, clrX X x.f x.t = Y := ⟨_, rfl⟩
    rw [hY] at T7 HY
    have HYL : Hid (Y.st.length = N) := Lib.hid (by rw [← hY, (HG.out.a.clrX HG.out.w x.f x.t).2.2]; exact HL.out)
    clear hY
    go_wp2
    go_loopw [11] (fun v wr => ∃ j : Nat, j ≤ (x.t - x.f).toNat ∧ v = .int .i64 (x.f + j) ∧ Hid (Two w wr x q g Y (clrN j X x.f.toNat))) (fun v _ => (x.t - intOf v).toNat)
    case atStart => exact ⟨0, Nat.zero_le _, by simp, Lib.hid T7.out⟩
    case round =>
      obtain ⟨j, hj, rfl, T⟩ := hrel
      have g2 := T.out.o.c2
      by_cases hlt : j < (x.t - x.f).toNat
      · obtain ⟨e1, e2⟩ := clr_page (X := X) HE.out hlt
        have HZ := Lib.hid (HG.out.clrNs HE.out j (by omega))
        have HCJ := Lib.hid (clear_ok T.out.n HZ.out.a T.out.o.k.size (x.f + j) (x.f + j + 1))
        rw [e1, e2] at HCJ
        have i1 : x.f + (j : Int) < x.t := by omega
        have hwj : IntKind.i64.wrap (x.f + (j : Int) + 1) = x.f + (j : Int) + 1 := IntWalk.i64_in _ (by omega)
        clear e1 e2
        go_wp2_with fail
        refine HCJ.out.mono ?_
        rintro e w8 ⟨rfl, m8, r8⟩
        have T8 := Lib.hid (T.out.frN r8 m8)
        clear m8 r8
        go_wp2
        go_roundw
        case rel => exact ⟨j + 1, by omega, by rw [show x.f + ((j + 1 : Nat) : Int) = x.f + (j : Int) + 1 by omega], T8⟩
        case measure => simp [intOf]; omega
      · have hjj : j = (x.t - x.f).toNat := by omega
        have i1 : ¬ (x.f + (j : Int) < x.t) := by omega
        have HYE : Hid (clrN j X x.f.toNat = Y) := Lib.hid (by rw [HY.out, hjj])
        rw [HYE.out] at T
        have HS8 := Lib.hid (save_ok T.out.o.m)
        have HS8' := Lib.hid (fun w' hb => save_ok (T.out.n.below (w' := w') hb))
        rw [HYL.out] at HS8 HS8'
        clear hjj
        go_wp2_with fail
        refine HS8.out.mono ?_
        rintro e w9 ⟨a9, c9, rfl, ⟨K9, L9, o9⟩, b9⟩
        have S9 := Lib.hid o9.str
        have B9 := Lib.hid b9
        clear o9 b9 HS8
        go_wp2_with fail
        refine (HS8'.out _ B9.out).mono ?_
        rintro e wa ⟨aa, ca, rfl, ⟨Ka, La, oa⟩, ba⟩
        have Sa := Lib.hid oa.str
        have S9' := Lib.hid (S9.out.below ba)
        have Ba := Lib.hid (below_tr B9.out ba)
        clear oa ba HS8'
        have HSB := Lib.hid (same_st (c1 := c9) (c2 := ca) S9'.out Sa.out HYL.out HYL.out HN.out (N : Int) (N : Int))
        rw [show smS (N : Int) (N : Int) (stS Y) (stS Y) = true from decide_eq_true ⟨rfl, rfl⟩] at HSB
        go_wp2_with fail
        refine HSB.out.mono ?_
        rintro e wb ⟨rfl, bb⟩
        have Tb := Lib.hid (T.out.below (below_tr Ba.out bb))
        clear bb HSB
        go_wp2_with fail
        refine (awake_ok _ (HT.out.below Tb.out.o.k)).mono ?_
        rintro e wc ⟨rfl, bc⟩
        have Tc := Lib.hid (Tb.out.below bc)
        clear bc
        go_wp2
        go_ret
        exact ⟨rfl, Tc.out.o.k⟩
  · have dw : ((x.wh : Int) % 4 == 2) = false := by simp; omega
    have HCL := Lib.hid (set_ok (by have := HTL.out; have := HWQ.out; omega) (by have := HTL.out; have := HWQ.out; omega) TB.out T6.out.o.m HG.out.a T6.out.o.k.size x.f x.t x.o x.s x.c x.g)
    by_cases hE : setE X x.f x.t x.o x.s x.c = 0
    case neg =>
      have de : (setE X x.f x.t x.o x.s x.c != 0) = true := by simpa using hE
      obtain ⟨E, hE'⟩ : ∃ E, setE X x.f x.t x.o x.s x.c = E := ⟨_, rfl⟩
      rw [hE'] at HCL de
      clear hE hE' hw
      go_wp2_with fail
      refine HCL.out.mono ?_
      rintro e w7 ⟨rfl, m7, r7⟩
      have O7 := Lib.hid (T6.out.o.fr r7 m7)
      clear m7 r7
      go_wp2_with fail
      refine (awake_ok _ (HT.out.below O7.out.k)).mono ?_
      rintro e w8 ⟨rfl, b8⟩
      have O8 := Lib.hid (O7.out.below b8)
      clear b8
      go_wp2
      go_ret
      exact ⟨rfl, O8.out.k⟩
    case pos =>
    have HE := Lib.hid hE
    obtain ⟨p1, p2, p3⟩ := paE_zero (setE_zero hE).1
    rw [hE] at HCL
    have HY : Hid (setX X x.f x.t x.o x.s x.c x.g = setM (pkW x.o x.s x.c x.g).toNat (x.t - x.f).toNat X x.f.toNat) := Lib.hid (if_pos hE)
    clear hw hE
    go_wp2_with fail
    refine HCL.out.mono ?_
    rintro e w7 ⟨rfl, m7, r7⟩
    have T7 := Lib.hid (T6.out.frM r7 m7)
    have g1 := T7.out.o.c1
    clear m7 r7 HCL f0 f1 f2 f3 f4 f5 f6 TB T6
    obtain ⟨Y, hY⟩ : ∃ Y, setX X x.f x.t x.o x.s x.c x.g = Y := ⟨_, rfl⟩
    rw [hY] at T7 HY
    have HYL : Hid (Y.st.length = N) := Lib.hid (by rw [← hY, (HG.out.a.setX HG.out.w x.f x.t x.o x.s x.c x.g).2.2]; exact HL.out)
    clear hY
    go_wp2
    go_loopw [11] (fun v wr => ∃ j : Nat, j ≤ (x.t - x.f).toNat ∧ v = .int .i64 (x.f + j) ∧ Hid (Two w wr x q g Y (setM (pkW x.o x.s x.c x.g).toNat j X x.f.toNat))) (fun v _ => (x.t - intOf v).toNat)
    case atStart => exact ⟨0, Nat.zero_le _, by simp, Lib.hid T7.out⟩
    case round =>
      obtain ⟨j, hj, rfl, T⟩ := hrel
      have g2 := T.out.o.c2
      have g3 := T.out.o.c3
      have g4 := T.out.o.c4
      have g5 := T.out.o.c5
      have g6 := T.out.o.c6
      by_cases hlt : j < (x.t - x.f).toNat
      · obtain ⟨e1, e2⟩ := set_page (g := x.g) HG.out HE.out hlt
        have HZ := Lib.hid (HG.out.setN (g := x.g) HE.out j (by omega))
        have HCJ := Lib.hid (set_ok (by have := HTL.out; have := HWQ.out; have := HQG.out; omega) (by have := HTL.out; have := HWQ.out; have := HQG.out; omega) (HT.out.below T.out.o.k) T.out.n HZ.out.a T.out.o.k.size (x.f + j) (x.f + j + 1) x.o x.s x.c x.g)
        rw [e1, e2] at HCJ
        have i1 : x.f + (j : Int) < x.t := by omega
        have hwj : IntKind.i64.wrap (x.f + (j : Int) + 1) = x.f + (j : Int) + 1 := IntWalk.i64_in _ (by omega)
        clear e1 e2
        go_wp2_with fail
        refine HCJ.out.mono ?_
        rintro e w8 ⟨rfl, m8, r8⟩
        have T8 := Lib.hid (T.out.frN r8 m8)
        clear m8 r8
        go_wp2
        go_roundw
        case rel => exact ⟨j + 1, by omega, by rw [show x.f + ((j + 1 : Nat) : Int) = x.f + (j : Int) + 1 by omega], T8⟩
        case measure => simp [intOf]; omega
      · have hjj : j = (x.t - x.f).toNat := by omega
        have i1 : ¬ (x.f + (j : Int) < x.t) := by omega
        have HYE : Hid (setM (pkW x.o x.s x.c x.g).toNat j X x.f.toNat = Y) := Lib.hid (by rw [HY.out, hjj])
        rw [HYE.out] at T
        have HS8 := Lib.hid (save_ok T.out.o.m)
        have HS8' := Lib.hid (fun w' hb => save_ok (T.out.n.below (w' := w') hb))
        rw [HYL.out] at HS8 HS8'
        clear hjj g3 g4 g5 g6
        go_wp2_with fail
        refine HS8.out.mono ?_
        rintro e w9 ⟨a9, c9, rfl, ⟨K9, L9, o9⟩, b9⟩
        have S9 := Lib.hid o9.str
        have B9 := Lib.hid b9
        clear o9 b9 HS8
        go_wp2_with fail
        refine (HS8'.out _ B9.out).mono ?_
        rintro e wa ⟨aa, ca, rfl, ⟨Ka, La, oa⟩, ba⟩
        have Sa := Lib.hid oa.str
        have S9' := Lib.hid (S9.out.below ba)
        have Ba := Lib.hid (below_tr B9.out ba)
        clear oa ba HS8'
        have HSB := Lib.hid (same_st (c1 := c9) (c2 := ca) S9'.out Sa.out HYL.out HYL.out HN.out (N : Int) (N : Int))
        rw [show smS (N : Int) (N : Int) (stS Y) (stS Y) = true from decide_eq_true ⟨rfl, rfl⟩] at HSB
        go_wp2_with fail
        refine HSB.out.mono ?_
        rintro e wb ⟨rfl, bb⟩
        have Tb := Lib.hid (T.out.below (below_tr Ba.out bb))
        clear bb HSB
        go_wp2_with fail
        refine (awake_ok _ (HT.out.below Tb.out.o.k)).mono ?_
        rintro e wc ⟨rfl, bc⟩
        have Tc := Lib.hid (Tb.out.below bc)
        clear bc
        go_wp2
        go_ret
        exact ⟨rfl, Tc.out.o.k⟩
/-- RadixPages returns true -/
theorem law_pages (N : Int) (hC : SlC w a n C) (hT : Tab w) (hx : ClOk x) : Calls Tryd.prog 11 #[.int .i64 N, .slice a n cap, .agg (clC x)] w fun e w' => e = .returned (.bool true) ∧ Below w.heap.size w w' := by
  by_cases h : N < 1 ∨ 145 < N ∨ 40 < n
  · exact pages_nil N h hT
  · obtain ⟨N', rfl⟩ := Int.eq_ofNat_of_zero_le (show 0 ≤ N by omega)
    exact pages_in N' (by omega) (by omega) (by omega) hC hT hx
end
end Go.Proofs.YtfmclbacoffdaaaDoor

namespace Go.Proofs.YtfmclbacoffdaaaDoor
open Go.RowKit Go.Sort Go.Joins
attribute [local go_sem] cell_grow frozen_grow size_grow
section
variable {w : World} {a : Option Addr} {n cap : Nat} {C : Nat → Cl} {x : Cl}
set_option maxRecDepth 100000 in
set_option maxHeartbeats 1600000 in
theorem full_nil (N : Int) (h : N < 1 ∨ 145 < N ∨ 40 < n) (hT : Tab w) : Calls Tryd.prog 10 #[.int .i64 N, .slice a n cap, .agg (clC x)] w fun e w' => e = .returned (.bool true) ∧ Below w.heap.size w w' := by
  have HB := Lib.hid (below_box0 w (.cells (clC x) 73))
  have HM := Lib.hid (fun w => mkd_nil (w := w) (a := a) (cap := cap) N h)
  have HT := Lib.hid hT
  clear h hT
  go_enter Tryd.func10, Tryd.ntmps10
  go_wp2_with fail
  refine (HM.out _).mono ?_
  rintro e w1 ⟨rfl, b1⟩
  have B1 := Lib.hid (below_tr HB.out b1)
  clear b1
  go_wp2_with fail
  refine (awake_ok _ (HT.out.below B1.out)).mono ?_
  rintro e w2 ⟨rfl, b2⟩
  have B2 := Lib.hid (below_tr B1.out b2)
  clear b2
  go_wp2
  go_ret
  exact ⟨rfl, B2.out⟩
set_option maxRecDepth 100000 in
set_option maxHeartbeats 12800000 in
theorem full_in (N : Nat) (h1 : 1 ≤ N) (h2 : N ≤ 145) (hn : n ≤ 40) (hC : SlC w a n C) (hT : Tab w) : Calls Tryd.prog 10 #[.int .i64 N, .slice a n cap, .agg (clC x)] w fun e w' => e = .returned (.bool true) ∧ Below w.heap.size w w' := by
  have hB := below_box0 w (.cells (clC x) 73)
  have HB := Lib.hid hB
  have HBX := Lib.hid (heap_alloc_new w (.cells (clC x) 73))
  have HM := Lib.hid (mkd_ok (cap := cap) N h1 h2 hn (hC.below hB) (hT.below hB))
  have hG := RGood.mkM h1 C n
  have hl := (mkM_all h1 C n).2.2
  obtain ⟨X, hX⟩ : ∃ X, mkM N C n = X := ⟨_, rfl⟩
  rw [hX] at HM hG hl
  have HG := Lib.hid hG
  have HL := Lib.hid hl
  have HT := Lib.hid hT
  have HN := Lib.hid h2
  have hlt := hT.lt
  have HTL := Lib.hid hlt
  clear hG hl hX hC hT hB hlt
  go_enter Tryd.func10, Tryd.ntmps10
  go_wp2_with fail
  have hsz : (w.alloc (.cells (clC x) 73)).heap.size = w.heap.size + 1 := by simp
  generalize World.alloc _ _ = W0 at HM HB HBX hsz ⊢
  refine HM.out.mono ?_
  rintro e w1 ⟨rfl, m1, b1⟩
  rw [hsz] at m1
  have O1 : Hid (One w w1 x (w.heap.size + 1) X) := Lib.hid ⟨m1.le (by omega), (b1.block _ (by omega)).trans HBX.out, Nat.lt_succ_self _, below_tr HB.out b1⟩
  rw [hsz]
  obtain ⟨q, hq⟩ : ∃ q, w.heap.size + 1 = q := ⟨_, rfl⟩
  rw [hq] at O1 ⊢
  clear m1 b1 HM HB HBX hsz
  have HSV := Lib.hid (save_ok O1.out.m)
  rw [HL.out] at HSV
  go_wp2_with fail
  refine HSV.out.mono ?_
  rintro e w2 ⟨a2, c2, rfl, ⟨K2, L2, o2⟩, b2⟩
  have hb2 := b2.size
  have hp1 := O1.out.m.lp
  have b3 := below_box0 w2 (.cells #[.int .i64 N, .slice a2 N c2] 45)
  have OS := Lib.hid (o2.below b3)
  have S2 := Lib.hid (o2.below b3).str
  have O2 := Lib.hid ((O1.out.below b2).below b3)
  have HPB := Lib.hid (show q + 1 < w1.heap.size by omega)
  have BX8 : Hid ((w2.alloc (.cells #[.int .i64 N, .slice a2 N c2] 45)).heap[w2.heap.size]? = some (.cells #[.int .i64 N, .slice a2 N c2] 45 (0, 0))) := Lib.hid (heap_alloc_new w2 _)
  have HLD := Lib.hid (load_st (c := c2) HG.out HL.out HN.out S2.out)
  have hs3 : (w2.alloc (.cells #[.int .i64 N, .slice a2 N c2] 45)).heap.size = w2.heap.size + 1 := by simp
  clear o2 b2 HSV b3
  go_wp2_with fail
  generalize World.alloc _ _ = W3 at HLD OS S2 O2 BX8 hs3 ⊢
  obtain ⟨b8, hb8⟩ : ∃ b, w2.heap.size = b := ⟨_, rfl⟩
  rw [hb8] at BX8 hs3 hb2 ⊢
  obtain ⟨B2, hB2⟩ : ∃ b, w1.heap.size = b := ⟨_, rfl⟩
  rw [hB2] at OS HPB hb2 hp1
  refine HLD.out.mono ?_
  rintro e w4 ⟨g, hg, rfl, n4, b4⟩
  have T4 : Hid (Two w w4 x q g X X) := Lib.hid ⟨O2.out.below b4, n4.le O2.out.k.size, by omega⟩
  have OS4 := Lib.hid (OS.out.below b4)
  have BX4 := Lib.hid ((b4.block _ (blk_lt BX8.out)).trans BX8.out)
  have HQ8 : Hid (q + 1 < b8) := Lib.hid (by omega)
  have HWQ := Lib.hid (show w.heap.size < q by omega)
  clear n4 b4 HLD S2 O1 O2 OS BX8 hb2 hg hp1 hq hs3 hb8 hB2
  have f0 := T4.out.o.c0
  have f1 := T4.out.o.c1
  have f2 := T4.out.o.c2
  have f3 := T4.out.o.c3
  have f4 := T4.out.o.c4
  have f5 := T4.out.o.c5
  have f6 := T4.out.o.c6
  have TB := Lib.hid (HT.out.below T4.out.o.k)
  have hw4 : x.wh % 4 = 2 ∨ x.wh % 4 ≠ 2 := by omega
  rcases hw4 with hw | hw
  · have dw : ((x.wh : Int) % 4 == 2) = true := by simp; omega
    have HCL := Lib.hid (clear_ok T4.out.o.m HG.out.a T4.out.o.k.size x.f x.t)
    by_cases hE : paE x.f x.t = 0
    case neg =>
      have de : (paE x.f x.t != 0) = true := by simpa using hE
      have HXX : Hid (clrX X x.f x.t = X) := Lib.hid (if_neg hE)
      obtain ⟨E, hE'⟩ : ∃ E, paE x.f x.t = E := ⟨_, rfl⟩
      rw [hE', HXX.out] at HCL
      rw [hE'] at de
      clear hE hE' hw HXX
      go_wp2_with fail
      refine HCL.out.mono ?_
      rintro e w7 ⟨rfl, m7, r7⟩
      have O7 := Lib.hid (T4.out.o.fr r7 m7)
      have S7 := Lib.hid (OS4.out.fr r7 (by have := HPB.out; omega) (by have := HPB.out; omega)).str
      have bx7 := (r7.block b8 (blk_lt BX4.out) (by have := HQ8.out; omega) (by have := HQ8.out; omega)).trans BX4.out
      have z0 : w7.cell? ⟨b8, 0, none⟩ = some (.int .i64 N) := by rw [cell_of_block bx7]; rfl
      have z1 : w7.cell? ⟨b8, 1, none⟩ = some (.slice a2 N c2) := by rw [cell_of_block bx7]; rfl
      have L1 : Hid (∀ w', Below w7.heap.size w7 w' → Calls Tryd.prog 24 #[.pointer (some ⟨q + 1, 0, none⟩)] w' fun e wn => ∃ a c, e = .returned (.agg #[.int .i64 N, .slice a N c]) ∧ StR wn a (stS X) ∧ Below w'.heap.size w' wn) := Lib.hid (fun w' hb => by
        have h := save_ok (O7.out.m.below hb)
        rw [HL.out] at h
        exact h.mono fun e wn ⟨a, c, he, ⟨K, L, ho⟩, hbn⟩ => ⟨a, c, he, ho.str, hbn⟩)
      have L2 : Hid (∀ w' (a8 : Option Addr) (c8 : Nat), StR w' a8 (stS X) → Below w7.heap.size w7 w' → Calls Tryd.prog 23 #[.agg #[.int .i64 N, .slice a8 N c8], .agg #[.int .i64 N, .slice a2 N c2]] w' fun e wn => e = .returned (.bool true) ∧ Below w'.heap.size w' wn) := Lib.hid (fun w' a8 c8 h8 hb => by
        have h := same_st (c1 := c8) (c2 := c2) h8 (S7.out.below hb) HL.out HL.out HN.out (N : Int) (N : Int)
        rwa [show smS (N : Int) (N : Int) (stS X) (stS X) = true from decide_eq_true ⟨rfl, rfl⟩] at h)
      have L3 : Hid (∀ w', Below w7.heap.size w7 w' → Calls Tryd.prog 17 #[] w' fun e wn => e = .returned (.bool true) ∧ Below w'.heap.size w' wn) := Lib.hid (fun w' hb => awake_ok _ ((HT.out.below O7.out.k).below hb))
      have HC : Hid (∀ w', Below w7.heap.size w7 w' → w'.cell? ⟨b8, 0, none⟩ = some (.int .i64 N) ∧ w'.cell? ⟨b8, 1, none⟩ = some (.slice a2 N c2)) := Lib.hid (fun w' hb => ⟨cell_later hb z0, cell_later hb z1⟩)
      clear m7 r7 bx7 HCL f0 f1 f2 f3 f4 f5 f6 TB
      go_upto_region 13 with fail
      go_region_held3 (fun w' => Below w7.heap.size w7 w' ∧ w'.cell? ⟨b8, 0, none⟩ = some (.int .i64 N) ∧ w'.cell? ⟨b8, 1, none⟩ = some (.slice a2 N c2))
        ((refine keepN HC ?_; first | exact (Below.refl _ _).drew | exact And.left (by assumption) | exact bel_call (by assumption) (by assumption)))
        (first
          | (go_at_call 24; (with_reducible refine (L1.out _ (And.left (by assumption))).mono ?_); rintro e w8 ⟨a8, c8, rfl, h8, b8'⟩; have S8 := Lib.hid h8)
          | (go_at_call 23; (with_reducible refine (L2.out _ _ _ S8.out (And.left (by assumption))).mono ?_); rintro e w9 ⟨rfl, b9⟩)
          | (go_at_call 17; (with_reducible refine (L3.out _ (And.left (by assumption))).mono ?_); rintro e wa ⟨rfl, ba⟩))
      all_goals
        go_wp2
        go_ret
        exact ⟨rfl, below_tr O7.out.k (And.left (by assumption))⟩
    case pos =>
    have HE := Lib.hid hE
    rw [hE] at HCL
    obtain ⟨Y, hY⟩ : ∃ Y, clrX X x.f x.t = Y := ⟨_, rfl⟩
    have HGY : Hid (RGood Y) := Lib.hid (by rw [← hY]; exact HG.out.clrX _ _)
    have HWD : Hid (∀ p, p < 1024 → wdI Y.st p = if x.f ≤ (p : Int) ∧ (p : Int) < x.t then 0 else wdI X.st p) := Lib.hid (fun p hp => by rw [← hY]; exact clr_words HG.out HE.out hp)
    have HIN : Hid (∀ p : Nat, p < 1024 → x.f ≤ (p : Int) ∧ (p : Int) < x.t → getE Y p = 4) := Lib.hid (fun p hp hin => by rw [← hY]; exact get_clr HG.out HE.out hp hin)
    rw [hY] at HCL
    clear hw hE hY
    go_wp2_with fail
    refine HCL.out.mono ?_
    rintro e w7 ⟨rfl, m7, r7⟩
    have T7 := Lib.hid (T4.out.frM r7 m7)
    clear m7 r7 HCL f0 f1 f2 f3 f4 f5 f6 TB T4 OS4 BX4
    go_wp2
    go_loopw [12] (fun v wr => ∃ j : Nat, j ≤ 1024 ∧ v = .int .i64 j ∧ Hid (Two w wr x q g Y X)) (fun v _ => 1024 - (intOf v).toNat)
    case atStart => exact ⟨0, Nat.zero_le _, rfl, T7⟩
    case round =>
      obtain ⟨p, hp, rfl, T⟩ := hrel
      by_cases hlt : p < 1024
      · have i1 : (p : Int) < 1024 := by omega
        have hwj : IntKind.i64.wrap ((p : Int) + 1) = (p : Int) + 1 := IntWalk.i64_in _ (by omega)
        have HG1 := Lib.hid (get_ok T.out.o.m HGY.out.a HGY.out.w (p : Int))
        have HG2 := Lib.hid (fun w' hb => get_ok (T.out.n.below (w' := w') hb) HG.out.a HG.out.w (p : Int))
        have HO := Lib.hid (get_out (X := X) (Y := Y) (HWD.out p hlt))
        have HI := Lib.hid (HIN.out p hlt)
        obtain ⟨vo, vs, vt, vg, hv⟩ := getV_dsv Y (p : Int)
        obtain ⟨uo, us, ut, ug, hu⟩ := getV_dsv X (p : Int)
        obtain ⟨e1, he1⟩ : ∃ e, getE Y (p : Int) = e := ⟨_, rfl⟩
        obtain ⟨e2, he2⟩ : ∃ e, getE X (p : Int) = e := ⟨_, rfl⟩
        rw [hv, he1] at HG1
        rw [hu, he2] at HG2
        rw [hv, hu, he1, he2] at HO
        rw [he1] at HI
        have hways : (decide (x.f ≤ (p : Int)) = false ∧ Hid (¬ (x.f ≤ (p : Int) ∧ (p : Int) < x.t))) ∨ (decide (x.f ≤ (p : Int)) = true ∧ decide ((p : Int) < x.t) = false ∧ Hid (¬ (x.f ≤ (p : Int) ∧ (p : Int) < x.t))) ∨ (decide (x.f ≤ (p : Int)) = true ∧ decide ((p : Int) < x.t) = true ∧ Hid (x.f ≤ (p : Int) ∧ (p : Int) < x.t)) := by
          by_cases k1 : x.f ≤ (p : Int)
          · by_cases k2 : (p : Int) < x.t
            · exact .inr (.inr ⟨decide_eq_true k1, decide_eq_true k2, Lib.hid ⟨k1, k2⟩⟩)
            · exact .inr (.inl ⟨decide_eq_true k1, decide_eq_false k2, Lib.hid (fun h => k2 h.2)⟩)
          · exact .inl ⟨decide_eq_false k1, Lib.hid (fun h => k1 h.1)⟩
        clear hv hu he1 he2
        have hgd := guardD
        rcases hways with ⟨k1, HK⟩ | ⟨k1, k2, HK⟩ | ⟨k1, k2, HK⟩
        case' inr.inr =>
          have d1 : (e1 != 4) = false := by simpa using HI.out HK.out
        case' inl =>
          obtain ⟨q1, q2⟩ := HO.out HK.out
          have hnq : ∀ W : World, Sem.run Tryd.prog (binOp .neq 23 (dsV vo vs vt vg) (dsV uo us ut ug)) W = .ok (.bool false) W := fun W => by rw [← q2]; exact neq_desc _ _ _ _ W
          have d1 : (e1 != e2) = false := by simpa using q1
          clear q1 q2
        case' inr.inl =>
          obtain ⟨q1, q2⟩ := HO.out HK.out
          have hnq : ∀ W : World, Sem.run Tryd.prog (binOp .neq 23 (dsV vo vs vt vg) (dsV uo us ut ug)) W = .ok (.bool false) W := fun W => by rw [← q2]; exact neq_desc _ _ _ _ W
          have d1 : (e1 != e2) = false := by simpa using q1
          clear q1 q2
        all_goals
          clear HO HI HK
          go_wp2_with fail
          refine HG1.out.mono ?_
          rintro e w8 ⟨rfl, b8⟩
          have B8 := Lib.hid (below_tr b8 (below_box0 w8 (.cells #[.int .i64 vo, .int .i64 vs, .int .i64 vt, .bool vg] 23)))
          have X8 := Lib.hid (heap_alloc_new w8 (.cells #[.int .i64 vo, .int .i64 vs, .int .i64 vt, .bool vg] 23))
          clear b8 HG1
          go_wp2_with fail
          generalize World.alloc _ _ = W8 at B8 X8 ⊢
          obtain ⟨n8, hn8⟩ : ∃ n, w8.heap.size = n := ⟨_, rfl⟩
          rw [hn8] at X8 ⊢
          clear hn8
          refine (HG2.out _ B8.out).mono ?_
          rintro e w9 ⟨rfl, b9⟩
          have x8 : BoxD w9 n8 vo vs vt vg := (b9.block _ (blk_lt X8.out)).trans X8.out
          have y0 := x8.c0
          have y1 := x8.c1
          have y2 := x8.c2
          have y3 := x8.c3
          have ln8 := blk_lt x8
          have b10 := below_tr B8.out (below_tr b9 (below_box0 w9 (.cells #[.int .i64 uo, .int .i64 us, .int .i64 ut, .bool ug] 23)))
          have TN := Lib.hid (T.out.below b10)
          have t9 := T.out.below (below_tr B8.out b9)
          have f1 := t9.o.c1
          have f2 := t9.o.c2
          have f3 := t9.o.c3
          have f4 := t9.o.c4
          have f5 := t9.o.c5
          have f6 := t9.o.c6
          have lbx := t9.o.lt
          clear b9 b10 t9 x8 B8 X8 HG2
          go_wp2
          go_roundw
          case rel => exact ⟨p + 1, by omega, by go_num, TN⟩
          case measure => simp [intOf]; omega
      · obtain rfl : p = 1024 := by omega
        have i1 : ¬ (((1024 : Nat) : Int) < 1024) := by omega
        go_wp2_with fail
        refine (awake_ok _ (HT.out.below T.out.o.k)).mono ?_
        rintro e wc ⟨rfl, bc⟩
        have Tc := Lib.hid (T.out.below bc)
        clear bc
        go_wp2
        go_ret
        exact ⟨rfl, Tc.out.o.k⟩
  · have dw : ((x.wh : Int) % 4 == 2) = false := by simp; omega
    have HCL := Lib.hid (set_ok (by have := HTL.out; have := HWQ.out; omega) (by have := HTL.out; have := HWQ.out; omega) TB.out T4.out.o.m HG.out.a T4.out.o.k.size x.f x.t x.o x.s x.c x.g)
    by_cases hE : setE X x.f x.t x.o x.s x.c = 0
    case neg =>
      have de : (setE X x.f x.t x.o x.s x.c != 0) = true := by simpa using hE
      have HXX : Hid (setX X x.f x.t x.o x.s x.c x.g = X) := Lib.hid (if_neg hE)
      obtain ⟨E, hE'⟩ : ∃ E, setE X x.f x.t x.o x.s x.c = E := ⟨_, rfl⟩
      rw [hE', HXX.out] at HCL
      rw [hE'] at de
      clear hE hE' hw HXX
      go_wp2_with fail
      refine HCL.out.mono ?_
      rintro e w7 ⟨rfl, m7, r7⟩
      have O7 := Lib.hid (T4.out.o.fr r7 m7)
      have S7 := Lib.hid (OS4.out.fr r7 (by have := HPB.out; omega) (by have := HPB.out; omega)).str
      have bx7 := (r7.block b8 (blk_lt BX4.out) (by have := HQ8.out; omega) (by have := HQ8.out; omega)).trans BX4.out
      have z0 : w7.cell? ⟨b8, 0, none⟩ = some (.int .i64 N) := by rw [cell_of_block bx7]; rfl
      have z1 : w7.cell? ⟨b8, 1, none⟩ = some (.slice a2 N c2) := by rw [cell_of_block bx7]; rfl
      have L1 : Hid (∀ w', Below w7.heap.size w7 w' → Calls Tryd.prog 24 #[.pointer (some ⟨q + 1, 0, none⟩)] w' fun e wn => ∃ a c, e = .returned (.agg #[.int .i64 N, .slice a N c]) ∧ StR wn a (stS X) ∧ Below w'.heap.size w' wn) := Lib.hid (fun w' hb => by
        have h := save_ok (O7.out.m.below hb)
        rw [HL.out] at h
        exact h.mono fun e wn ⟨a, c, he, ⟨K, L, ho⟩, hbn⟩ => ⟨a, c, he, ho.str, hbn⟩)
      have L2 : Hid (∀ w' (a8 : Option Addr) (c8 : Nat), StR w' a8 (stS X) → Below w7.heap.size w7 w' → Calls Tryd.prog 23 #[.agg #[.int .i64 N, .slice a8 N c8], .agg #[.int .i64 N, .slice a2 N c2]] w' fun e wn => e = .returned (.bool true) ∧ Below w'.heap.size w' wn) := Lib.hid (fun w' a8 c8 h8 hb => by
        have h := same_st (c1 := c8) (c2 := c2) h8 (S7.out.below hb) HL.out HL.out HN.out (N : Int) (N : Int)
        rwa [show smS (N : Int) (N : Int) (stS X) (stS X) = true from decide_eq_true ⟨rfl, rfl⟩] at h)
      have L3 : Hid (∀ w', Below w7.heap.size w7 w' → Calls Tryd.prog 17 #[] w' fun e wn => e = .returned (.bool true) ∧ Below w'.heap.size w' wn) := Lib.hid (fun w' hb => awake_ok _ ((HT.out.below O7.out.k).below hb))
      have HC : Hid (∀ w', Below w7.heap.size w7 w' → w'.cell? ⟨b8, 0, none⟩ = some (.int .i64 N) ∧ w'.cell? ⟨b8, 1, none⟩ = some (.slice a2 N c2)) := Lib.hid (fun w' hb => ⟨cell_later hb z0, cell_later hb z1⟩)
      clear m7 r7 bx7 HCL f0 f1 f2 f3 f4 f5 f6 TB
      go_upto_region 13 with fail
      go_region_held3 (fun w' => Below w7.heap.size w7 w' ∧ w'.cell? ⟨b8, 0, none⟩ = some (.int .i64 N) ∧ w'.cell? ⟨b8, 1, none⟩ = some (.slice a2 N c2))
        ((refine keepN HC ?_; first | exact (Below.refl _ _).drew | exact And.left (by assumption) | exact bel_call (by assumption) (by assumption)))
        (first
          | (go_at_call 24; (with_reducible refine (L1.out _ (And.left (by assumption))).mono ?_); rintro e w8 ⟨a8, c8, rfl, h8, b8'⟩; have S8 := Lib.hid h8)
          | (go_at_call 23; (with_reducible refine (L2.out _ _ _ S8.out (And.left (by assumption))).mono ?_); rintro e w9 ⟨rfl, b9⟩)
          | (go_at_call 17; (with_reducible refine (L3.out _ (And.left (by assumption))).mono ?_); rintro e wa ⟨rfl, ba⟩))
      all_goals
        go_wp2
        go_ret
        exact ⟨rfl, below_tr O7.out.k (And.left (by assumption))⟩
    case pos =>
    have HE := Lib.hid hE
    rw [hE] at HCL
    obtain ⟨Y, hY⟩ : ∃ Y, setX X x.f x.t x.o x.s x.c x.g = Y := ⟨_, rfl⟩
    have HGY : Hid (RGood Y) := Lib.hid (by rw [← hY]; exact HG.out.setX _ _ _ _ _ _)
    have HWD : Hid (∀ p, p < 1024 → wdI Y.st p = if x.f ≤ (p : Int) ∧ (p : Int) < x.t then (pkW x.o x.s x.c x.g).toNat else wdI X.st p) := Lib.hid (fun p hp => by rw [← hY]; exact set_words HG.out x.g HE.out hp)
    have HIN : Hid (∀ p : Nat, p < 1024 → x.f ≤ (p : Int) ∧ (p : Int) < x.t → getE Y p = 0 ∧ getV Y p = dsV x.o x.s x.c x.g) := Lib.hid (fun p hp hin => by rw [← hY]; exact get_set HG.out x.g HE.out hp hin)
    rw [hY] at HCL
    clear hw hE hY
    go_wp2_with fail
    refine HCL.out.mono ?_
    rintro e w7 ⟨rfl, m7, r7⟩
    have T7 := Lib.hid (T4.out.frM r7 m7)
    clear m7 r7 HCL f0 f1 f2 f3 f4 f5 f6 TB T4 OS4 BX4
    go_wp2
    go_loopw [12] (fun v wr => ∃ j : Nat, j ≤ 1024 ∧ v = .int .i64 j ∧ Hid (Two w wr x q g Y X)) (fun v _ => 1024 - (intOf v).toNat)
    case atStart => exact ⟨0, Nat.zero_le _, rfl, T7⟩
    case round =>
      obtain ⟨p, hp, rfl, T⟩ := hrel
      by_cases hlt : p < 1024
      · have i1 : (p : Int) < 1024 := by omega
        have hwj : IntKind.i64.wrap ((p : Int) + 1) = (p : Int) + 1 := IntWalk.i64_in _ (by omega)
        have HG1 := Lib.hid (get_ok T.out.o.m HGY.out.a HGY.out.w (p : Int))
        have HG2 := Lib.hid (fun w' hb => get_ok (T.out.n.below (w' := w') hb) HG.out.a HG.out.w (p : Int))
        have HO := Lib.hid (get_out (X := X) (Y := Y) (HWD.out p hlt))
        have HI := Lib.hid (HIN.out p hlt)
        obtain ⟨vo, vs, vt, vg, hv⟩ := getV_dsv Y (p : Int)
        obtain ⟨uo, us, ut, ug, hu⟩ := getV_dsv X (p : Int)
        obtain ⟨e1, he1⟩ : ∃ e, getE Y (p : Int) = e := ⟨_, rfl⟩
        obtain ⟨e2, he2⟩ : ∃ e, getE X (p : Int) = e := ⟨_, rfl⟩
        rw [hv, he1] at HG1
        rw [hu, he2] at HG2
        rw [hv, hu, he1, he2] at HO
        rw [he1, hv] at HI
        have hways : (decide (x.f ≤ (p : Int)) = false ∧ Hid (¬ (x.f ≤ (p : Int) ∧ (p : Int) < x.t))) ∨ (decide (x.f ≤ (p : Int)) = true ∧ decide ((p : Int) < x.t) = false ∧ Hid (¬ (x.f ≤ (p : Int) ∧ (p : Int) < x.t))) ∨ (decide (x.f ≤ (p : Int)) = true ∧ decide ((p : Int) < x.t) = true ∧ Hid (x.f ≤ (p : Int) ∧ (p : Int) < x.t)) := by
          by_cases k1 : x.f ≤ (p : Int)
          · by_cases k2 : (p : Int) < x.t
            · exact .inr (.inr ⟨decide_eq_true k1, decide_eq_true k2, Lib.hid ⟨k1, k2⟩⟩)
            · exact .inr (.inl ⟨decide_eq_true k1, decide_eq_false k2, Lib.hid (fun h => k2 h.2)⟩)
          · exact .inl ⟨decide_eq_false k1, Lib.hid (fun h => k1 h.1)⟩
        clear hv hu he1 he2
        have hgd := guardD
        rcases hways with ⟨k1, HK⟩ | ⟨k1, k2, HK⟩ | ⟨k1, k2, HK⟩
        case' inr.inr =>
          obtain ⟨q1, q2⟩ := HI.out HK.out
          have hnq : ∀ W : World, Sem.run Tryd.prog (binOp .neq 23 (dsV vo vs vt vg) (dsV x.o x.s x.c x.g)) W = .ok (.bool false) W := fun W => by rw [← q2]; exact neq_desc _ _ _ _ W
          have d1 : (e1 != 0) = false := by simpa using q1
          clear q1 q2
        case' inl =>
          obtain ⟨q1, q2⟩ := HO.out HK.out
          have hnq : ∀ W : World, Sem.run Tryd.prog (binOp .neq 23 (dsV vo vs vt vg) (dsV uo us ut ug)) W = .ok (.bool false) W := fun W => by rw [← q2]; exact neq_desc _ _ _ _ W
          have d1 : (e1 != e2) = false := by simpa using q1
          clear q1 q2
        case' inr.inl =>
          obtain ⟨q1, q2⟩ := HO.out HK.out
          have hnq : ∀ W : World, Sem.run Tryd.prog (binOp .neq 23 (dsV vo vs vt vg) (dsV uo us ut ug)) W = .ok (.bool false) W := fun W => by rw [← q2]; exact neq_desc _ _ _ _ W
          have d1 : (e1 != e2) = false := by simpa using q1
          clear q1 q2
        all_goals
          clear HO HI HK
          go_wp2_with fail
          refine HG1.out.mono ?_
          rintro e w8 ⟨rfl, b8⟩
          have B8 := Lib.hid (below_tr b8 (below_box0 w8 (.cells #[.int .i64 vo, .int .i64 vs, .int .i64 vt, .bool vg] 23)))
          have X8 := Lib.hid (heap_alloc_new w8 (.cells #[.int .i64 vo, .int .i64 vs, .int .i64 vt, .bool vg] 23))
          clear b8 HG1
          go_wp2_with fail
          generalize World.alloc _ _ = W8 at B8 X8 ⊢
          obtain ⟨n8, hn8⟩ : ∃ n, w8.heap.size = n := ⟨_, rfl⟩
          rw [hn8] at X8 ⊢
          clear hn8
          refine (HG2.out _ B8.out).mono ?_
          rintro e w9 ⟨rfl, b9⟩
          have x8 : BoxD w9 n8 vo vs vt vg := (b9.block _ (blk_lt X8.out)).trans X8.out
          have y0 := x8.c0
          have y1 := x8.c1
          have y2 := x8.c2
          have y3 := x8.c3
          have ln8 := blk_lt x8
          have b10 := below_tr B8.out (below_tr b9 (below_box0 w9 (.cells #[.int .i64 uo, .int .i64 us, .int .i64 ut, .bool ug] 23)))
          have TN := Lib.hid (T.out.below b10)
          have t9 := T.out.below (below_tr B8.out b9)
          have f1 := t9.o.c1
          have f2 := t9.o.c2
          have f3 := t9.o.c3
          have f4 := t9.o.c4
          have f5 := t9.o.c5
          have f6 := t9.o.c6
          have lbx := t9.o.lt
          clear b9 b10 t9 x8 B8 X8 HG2
          go_wp2
          go_roundw
          case rel => exact ⟨p + 1, by omega, by go_num, TN⟩
          case measure => simp [intOf]; omega
      · obtain rfl : p = 1024 := by omega
        have i1 : ¬ (((1024 : Nat) : Int) < 1024) := by omega
        go_wp2_with fail
        refine (awake_ok _ (HT.out.below T.out.o.k)).mono ?_
        rintro e wc ⟨rfl, bc⟩
        have Tc := Lib.hid (T.out.below bc)
        clear bc
        go_wp2
        go_ret
        exact ⟨rfl, Tc.out.o.k⟩
/-- RadixFull returns true -/
theorem law_full (N : Int) (hC : SlC w a n C) (hT : Tab w) : Calls Tryd.prog 10 #[.int .i64 N, .slice a n cap, .agg (clC x)] w fun e w' => e = .returned (.bool true) ∧ Below w.heap.size w w' := by
  by_cases h : N < 1 ∨ 145 < N ∨ 40 < n
  · exact full_nil N h hT
  · obtain ⟨N', rfl⟩ := Int.eq_ofNat_of_zero_le (show 0 ≤ N by omega)
    exact full_in N' (by omega) (by omega) (by omega) hC hT
end
end Go.Proofs.YtfmclbacoffdaaaDoor

namespace Go.Proofs.YtfmclbacoffdaaaDoor.radixFull
open Go.ChangeShapes Go.WideShapes Go.ChangeAt Go.RowKit

set_option maxRecDepth 100000 in
theorem contract (H : Type) (enc : TypeId × Value → H) (W : World) (base : Nat) (args : Array Value) (ds gs : List (DataW H)) (before : List MemPlace)
    (hval : ∀ (j : Nat) t v, Tryd.f10.params[j]? = some t → args[j]? = some v → Value.okWide Tryd.prog W .any base t v)
    (hW : DataW.Whole enc Tryd.prog Tryd.f10.params.toList Rows.radixFullSpec.vars false W args.toList ds gs before) (hL : laidMetH Tryd.prog Rows.radixFullRow.laid W) :
    Calls Tryd.prog 10 args W fun e W' => ∃ v, e = .returned v ∧ Rows.radixFullSpec.post enc Tryd.prog Tryd.f10 false true false false W args v W' := by
  have hW' := hW
  obtain ⟨p, q, hA0, hV, rfl, hfz, hnd⟩ := hW
  have hA : DataW.TrodAll enc Tryd.prog W 0 (fun _ => true) true Tryd.f10.params.toList args.toList ds p := hA0
  rw [Tryd.params10] at hA hval
  obtain ⟨v0, vs0, d0, ds0, p0, q0, hargs, rfl, rfl, h0, r0⟩ := trodAll_cons hA
  obtain ⟨v1, vs1, d1, ds1, p1, q1, rfl, rfl, rfl, h1, r1⟩ := trodAll_cons r0
  obtain ⟨v2, vs2, d2, ds2, p2, q2, rfl, rfl, rfl, h2, r2⟩ := trodAll_cons r1
  obtain ⟨rfl, rfl, rfl⟩ := trodAll_nil r2
  obtain rfl : args = #[v0, v1, v2] := by cases args; simp_all
  obtain ⟨rfl, rfl⟩ := trodVars_none hV
  obtain ⟨x0, rfl, rfl, rfl, w0⟩ := open_int Tryd.underlying3 (hval 0 3 v0 rfl rfl) h0
  have b0 := bounds_i64 w0
  obtain ⟨a1, l1, c1, C1, rfl, hC1, ll1, cb1⟩ := open_calls7 (hval 1 32 v1 rfl rfl) h1
  obtain ⟨x2, rfl, cb2⟩ := open_call (hval 2 73 v2 rfl rfl) h2
  refine (law_full x0 hC1 (tab_of hL)).mono fun e W' ⟨he, hb⟩ => ?_
  exact ⟨_, he, law_post hW' rfl (by rw [Tryd.params10]; kernel_rfl) rfl rfl rfl rfl hb⟩

theorem laid_met (os : Os) : laidMet Tryd.prog Rows.radixFullRow.laid ((laidWorld os).forCall (fun _ _ => 0) ⟨#[], #[.int .i64 0, .slice none 0 0, .agg #[.int .u8 0, .int .i64 0, .int .i64 0, .int .i64 0, .int .i64 0, .int .i64 0, .bool false]], []⟩).memory :=
  laidMet_of_run' 8 (by kernel_rfl) (by kernel_rfl)
theorem reads (os : Os) {H : Type} (enc : TypeId × Value → H) : ∃ places, DataW.whole enc Tryd.prog ((laidWorld os).forCall (fun _ _ => 0) ⟨#[], #[.int .i64 0, .slice none 0 0, .agg #[.int .u8 0, .int .i64 0, .int .i64 0, .int .i64 0, .int .i64 0, .int .i64 0, .bool false]], []⟩).memory Tryd.f10.params.toList Rows.radixFullSpec.vars false #[Value.int .i64 0, Value.slice none 0 0, Value.agg #[.int .u8 0, .int .i64 0, .int .i64 0, .int .i64 0, .int .i64 0, .int .i64 0, .bool false]].toList 8 = some ([.lit (.int .i64 0), .nil, .agg [.lit (.int .u8 0), .lit (.int .i64 0), .lit (.int .i64 0), .agg [.lit (.int .i64 0), .lit (.int .i64 0), .lit (.int .i64 0), .lit (.bool false)]]], [], places) :=
  ⟨[], by kernel_rfl⟩

set_option maxRecDepth 100000 in
theorem lifted (os : Os) (started : os.Started) (H : Type) (enc : TypeId × Value → H) (F : Stop.Interp) :
    ReturnsInHanded {} Tryd.checked os 10 .any ((OpenSpec.ofChange Rows.radixFullSpec).preRow enc Tryd.prog Tryd.f10 Rows.radixFullRow.domain false Rows.radixFullRow.laid) (((OpenSpec.ofChange Rows.radixFullSpec).at F).post enc Tryd.prog Tryd.f10 false true false false) := by
  obtain ⟨places, hx⟩ := reads os enc
  refine returnsInHanded_of_row (C := Tryd.checked) (s := OpenSpec.ofChange Rows.radixFullSpec) own started (by kernel_rfl) Tryd.func10
    (witness_row_at (enc := enc) (C := Tryd.checked) false (laidWorld os) #[.int .i64 0, .slice none 0 0, .agg #[.int .u8 0, .int .i64 0, .int .i64 0, .int .i64 0, .int .i64 0, .int .i64 0, .bool false]] rfl (by kernel_rfl) (by kernel_rfl) (by kernel_rfl)
      (OpenSpec.preRow_of_cond 8 hx (by kernel_rfl) (fun k hk => by cases hk) (by kernel_rfl) (laid_met os))) ?_
  intro W base args ds gs before hval hW _ _ _ hL _ _
  exact contract H enc W base args ds gs before hval hW hL

theorem said : Rows.RadixFullSaid :=
  OpenClaim.holds_of_cond 10 Tryd.f10 rfl rfl rfl rfl rfl rfl rfl ⟨rfl, rfl, rfl, rfl, rfl⟩ rfl rfl rfl rfl rfl (by kernel_rfl) Tryd.func10 (by kernel_rfl)
    (of_decide_eq_true (by kernel_rfl)) (by unfold Func.isWrapper; first | (rw [if_pos (by decide +kernel)]; kernel_rfl) | (rw [if_neg (by decide +kernel)]; exact ⟨rfl, rfl⟩))
    (fun os started H enc _ F => by rw [OpenClaim.pre_eq_preRow]; exact lifted os started H enc F)

theorem plain (f : FuncId) (fn : Func) (hf : Tryd.pinned.checked.prog.funcNamed "polder/polderlaw07.RadixFull" = some f) (hfn : Tryd.pinned.checked.prog.funcs[f]? = some fn) :
    false = Tryd.pinned.checked.prog.looks [] ∧ ∀ (j : Nat) t, fn.params[j]? = some t → Tryd.pinned.checked.prog.wantsStandIn t = false := by
  obtain rfl : f = 10 := Option.some.inj ((show Tryd.prog.funcNamed "polder/polderlaw07.RadixFull" = some 10 by kernel_rfl).symm.trans hf) |>.symm
  obtain rfl : fn = Tryd.f10 := (Option.some.inj (Tryd.func10.symm.trans hfn)).symm
  refine ⟨by kernel_rfl, fun j t ht => ?_⟩
  rw [Tryd.params10] at ht
  have hm : t ∈ [3, 32, 73] := by simpa using Array.mem_of_getElem? ht
  have hall : ([3, 32, 73].all fun u => !Tryd.prog.wantsStandIn u) = true := by kernel_rfl
  exact (show Tryd.prog.wantsStandIn t = false by simpa using List.all_eq_true.1 hall t hm)

/-- THE CARD. -/
theorem card : Rows.RadixFullCardSaid :=
  Claim7.holds_tied_plain_at .later [] _ _ _ _ said (fun _ h => by cases h) (by kernel_rfl) (fun _ h => by cases h) radixFull_row_tie rfl ⟨rfl, rfl⟩ (by kernel_rfl) rfl plain (by kernel_rfl)
#print axioms card
end Go.Proofs.YtfmclbacoffdaaaDoor.radixFull
