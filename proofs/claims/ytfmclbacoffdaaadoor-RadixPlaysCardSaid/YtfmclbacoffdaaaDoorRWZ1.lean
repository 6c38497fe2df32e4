/- The radix map: next. | The radix map: RadixPacks returns true. | The radix map, plain: what Get answers after Set or Clear; a state that the call has made, when a map is changed. | A range over a function whose iterator knows what the loop keeps: the loop's invariant I is told to the iterator, and the iterator tells the loop's body G of what it hands over. No program. | The radix map: Walk, the iterator, for a loop that keeps the words of the pages that are still to come. | The radix map: Owned: the pages of an owner, over Walk. -/
import Derived.Test.YtfmclbacoffdaaaDoorRSZ2
import Derived.Test.YtfmclbacoffdaaaDoorRZ10
import Derived.Test.YtfmclbacoffdaaaDoorRSZ5
import Derived.Test.YtfmclbacoffdaaaDoorRZ1
import Derived.RangeFuncNested
import Derived.RangeFuncBound
import Derived.RangeFuncCalls
import Derived.RangeFuncLeaves
import Derived.Shelf.Abstract
import Derived.Shelf.RegionOpen
import Derived.OwnWalkIn
import Derived.TacticsInMore
import Derived.LoopNIn
import Derived.LoopIn
import Derived.OwnWalk
import Derived.Maps.OwnIn
namespace Go.Proofs.YtfmclbacoffdaaaDoor
open Go.RowKit Go.Sort Go.Joins
attribute [local go_sem] cell_grow frozen_grow size_grow Oper.semAt_some
/-- the first page from one on that has a word -/
def nxI (X : RM) (p : Nat) : Nat := if p < 1024 then nxt (fun q => wdI X.st q != 0) p 1024 else 1024
theorem nxI_eq {X : RM} {p r : Nat} (h1 : p ≤ r) (h2 : r < 1024) (h3 : ∀ q, p ≤ q → q < r → wdI X.st q = 0) (h4 : wdI X.st r ≠ 0) : nxI X p = r := by
  unfold nxI
  rw [if_pos (by omega)]
  exact nxt_eq (by omega) h1 (by omega) (fun i hi hr => by simp [h3 i hi hr]) (fun _ => by simpa using h4)
theorem nxI_end {X : RM} {p : Nat} (h3 : ∀ q, p ≤ q → q < 1024 → wdI X.st q = 0) : nxI X p = 1024 := by
  unfold nxI
  by_cases c : p < 1024
  · rw [if_pos c]
    exact nxt_eq (by omega) (by omega) (Nat.le_refl _) (fun i hi hr => by simp [h3 i hi hr]) (fun h => absurd h (Nat.lt_irrefl _))
  · rw [if_neg c]
theorem nxI_spec (X : RM) (p : Nat) (hp : p ≤ 1024) : p ≤ nxI X p ∧ nxI X p ≤ 1024 ∧ (∀ q, p ≤ q → q < nxI X p → wdI X.st q = 0) ∧ (nxI X p < 1024 → wdI X.st (nxI X p) ≠ 0) := by
  unfold nxI
  by_cases c : p < 1024
  · rw [if_pos c]
    obtain ⟨h1, h2, h3, h4⟩ := nxt_spec (p := fun q => wdI X.st q != 0) (show p ≤ 1024 by omega)
    exact ⟨h1, h2, fun q a b => by have := h3 q a b; simpa using this, fun h => by have := h4 h; simpa using this⟩
  · rw [if_neg c]
    exact ⟨hp, Nat.le_refl _, fun q a b => by omega, fun h => absurd h (Nat.lt_irrefl _)⟩
theorem zero_big {X : RM} {q r : Nat} (h : mdI X.st q = 0) (e : r / 64 = q / 64) : wdI X.st r = 0 := by
  have : mdI X.st r = 0 := by unfold mdI at h ⊢; rw [e]; exact h
  unfold wdI lfI
  rw [this]; rfl
theorem zero_small {X : RM} {q r : Nat} (h : lfI X.st q = 0) (e : r / 8 = q / 8) : wdI X.st r = 0 := by
  have h2 : r / 64 = q / 64 := by omega
  have : lfI X.st r = 0 := by
    unfold lfI mdI at h ⊢
    rw [h2, e]; exact h
  unfold wdI
  rw [this]; rfl
section
variable {w : World} {B p q : Nat} {X : RM}
set_option maxRecDepth 100000 in
set_option maxHeartbeats 3200000 in
theorem next_ok (h : TM w B p q X.st X.m X.r) (hG : RGood X) (pg : Nat) (hpg : pg ≤ 1024) :
    Calls Tryd.prog 51 #[.pointer (some ⟨p, 0, none⟩), .int .i64 pg] w fun e w' => e = .returned (.int .i64 (nxI X pg)) ∧ Below w.heap.size w w' := by
  have H := Lib.hid h
  have HG := Lib.hid hG
  have n2 := h.n2
  clear h hG
  go_enter Tryd.func51, Tryd.ntmps51
  go_wp2
  go_loopw [1] (fun v wr => ∃ z : Nat, pg ≤ z ∧ z ≤ 1024 ∧ v = .int .i64 z ∧ Hid (∀ r, pg ≤ r → r < z → wdI X.st r = 0) ∧ Hid (Below w.heap.size w wr)) (fun v _ => 1024 - (intOf v).toNat)
  case atStart => exact ⟨pg, Nat.le_refl _, hpg, rfl, Lib.hid (fun r a b => by omega), Lib.hid (Below.refl _ _)⟩
  case round =>
    obtain ⟨z, hz1, hz2, rfl, HA, BR⟩ := hrel
    have M := Lib.hid (H.out.below BR.out)
    by_cases hlt : z < 1024
    · have i1 : (z : Int) < 1024 := by omega
      have i0 : (0 : Int) ≤ (z : Int) := by omega
      have hmd : mdI X.st z < X.st.length := by
        by_cases c : mdI X.st z = 0
        · rw [c]; exact HG.out.a.i.n1
        · exact (HG.out.a.i.k0 (z / 64) (by omega) c).1
      have HLF := Lib.hid (leaf_ok M.out z hlt hmd)
      have HZB : Hid (mdI X.st z = 0 → ∀ r, r / 64 = z / 64 → wdI X.st r = 0) := Lib.hid (fun h r e => zero_big h e)
      have HZS : Hid (lfI X.st z = 0 → ∀ r, r / 8 = z / 8 → wdI X.st r = 0) := Lib.hid (fun h r e => zero_small h e)
      have hml : mdI X.st z = 0 → lfI X.st z = 0 := fun e => by unfold lfI; rw [if_pos e]
      have hlf : lfI X.st z ≠ 0 → lfI X.st z < X.st.length := fun e => (HG.out.a.i.leaf hlt e).2.2.2.2.1
      have hwd : lfI X.st z ≠ 0 → wdI X.st z = (X.N (lfI X.st z)).wd (z % 8) := fun e => by unfold wdI; rw [if_neg e]
      obtain ⟨md, hmd'⟩ : ∃ x, mdI X.st z = x := ⟨_, rfl⟩
      obtain ⟨lf, hlf'⟩ : ∃ x, lfI X.st z = x := ⟨_, rfl⟩
      rw [hmd', hlf'] at HLF
      rw [hmd'] at HZB hml
      rw [hlf'] at HZS hml hlf hwd
      clear hmd hmd' hlf'
      by_cases c1 : md = 0
      · have d1 : ((md : Int) == 0) = true := by simp; omega
        have HZ := Lib.hid (HZB.out c1)
        clear c1 HZB HZS hml hlf hwd
        go_wp2_with fail
        refine HLF.out.mono ?_
        rintro e w1 ⟨rfl, n1, rfl⟩
        have BD := Lib.hid (below_tr BR.out (below_draw wr n1))
        go_wp2
        go_roundw
        case rel => exact ⟨(z / 64 + 1) * 64, by omega, by omega, by rw [show (((z / 64 + 1) * 64 : Nat) : Int) = ((z : Int) / 64 + 1) * 64 by omega], Lib.hid (fun r a b => by
          by_cases e : r < z
          · exact HA.out r a e
          · exact HZ.out r (by omega)), BD⟩
        case measure => simp [intOf]; omega
      · have d1 : ((md : Int) == 0) = false := by simp; omega
        by_cases c2 : lf = 0
        · have d2 : ((lf : Int) == 0) = true := by simp; omega
          have HZ := Lib.hid (HZS.out c2)
          clear c1 c2 HZB HZS hml hlf hwd
          go_wp2_with fail
          refine HLF.out.mono ?_
          rintro e w1 ⟨rfl, n1, rfl⟩
          have BD := Lib.hid (below_tr BR.out (below_draw wr n1))
          go_wp2
          go_roundw
          case rel => exact ⟨(z / 8 + 1) * 8, by omega, by omega, by rw [show (((z / 8 + 1) * 8 : Nat) : Int) = ((z : Int) / 8 + 1) * 8 by omega], Lib.hid (fun r a b => by
            by_cases e : r < z
            · exact HA.out r a e
            · exact HZ.out r (by omega)), BD⟩
          case measure => simp [intOf]; omega
        · have d2 : ((lf : Int) == 0) = false := by simp; omega
          have hlf := hlf c2
          have hwd := hwd c2
          have MD := Lib.hid (fun n => M.out.below (below_draw wr n))
          have c0 := M.out.c0
          have cw := M.out.wd hlf (show z % 8 < 8 by omega)
          have hcw : (X.st.getD lf ndZ).wd (z % 8) = wdI X.st z := hwd.symm
          rw [hcw] at cw
          have j0 : (0 : Int) ≤ (lf : Int) := by omega
          have j1 : (lf : Int) < (X.st.length : Int) := by omega
          have hb7 := and7 z hlt
          have hz8 : ((z % 8 : Nat) : Int) < 8 := by omega
          have hwz : IntKind.i64.wrap ((z : Int) + 1) = (z : Int) + 1 := IntWalk.i64_in _ (by omega)
          obtain ⟨u, hu⟩ : ∃ u, wdI X.st z = u := ⟨_, rfl⟩
          have HU := Lib.hid hu
          rw [hu] at cw
          obtain ⟨z8, hz8'⟩ : ∃ k, z % 8 = k := ⟨_, rfl⟩
          rw [hz8'] at hb7 hz8 cw
          clear c1 c2 HZB HZS hml hwd hcw hu hz8'
          by_cases c3 : u = 0
          · have d3 : ((u : Int) != 0) = false := by simp; omega
            have HZ := Lib.hid c3
            clear c3
            go_wp2_with fail
            refine HLF.out.mono ?_
            rintro e w1 ⟨rfl, n1, rfl⟩
            have BD := Lib.hid (below_tr BR.out (below_draw wr n1))
            go_wp2
            go_roundw
            case rel => exact ⟨z + 1, by omega, by omega, by go_num, Lib.hid (fun r a b => by
              by_cases e : r < z
              · exact HA.out r a e
              · rw [show r = z by omega, HU.out]; exact HZ.out), BD⟩
            case measure => simp [intOf]; omega
          · have d3 : ((u : Int) != 0) = true := by simp; omega
            have HE : Hid (nxI X pg = z) := Lib.hid (nxI_eq hz1 hlt HA.out (by rw [HU.out]; exact c3))
            clear c3
            go_wp2_with fail
            refine HLF.out.mono ?_
            rintro e w1 ⟨rfl, n1, rfl⟩
            have BD := Lib.hid (below_tr BR.out (below_draw wr n1))
            go_wp2
            go_ret
            exact ⟨by rw [HE.out]; rfl, BD.out⟩
    · obtain rfl : z = 1024 := by omega
      have i1 : ¬ (((1024 : Nat) : Int) < 1024) := by omega
      have e : nxI X pg = 1024 := nxI_end HA.out
      have HE := Lib.hid e
      clear e
      go_wp2
      go_ret
      exact ⟨by rw [HE.out]; rfl, BR.out⟩
end
end Go.Proofs.YtfmclbacoffdaaaDoor

namespace Go.Proofs.YtfmclbacoffdaaaDoor
open Go.RowKit Go.Sort Go.Joins
attribute [local go_sem] cell_grow frozen_grow size_grow
theorem eql_desc (o s t : Int) (g : Bool) (w : World) : Sem.run Tryd.prog (binOp .eql 23 (dsV o s t g) (dsV o s t g)) w = .ok (.bool true) w := by
  have u3 := Tryd.underlying3
  have u2 := Tryd.underlying2
  have u4 := Tryd.underlying4
  have hS : Tryd.prog.underlying 23 = some (.struct (Tryd.prog.fieldsOf 23)) := by kernel_rfl
  have hp : Tryd.prog.stoodInHeld 23 = false := by kernel_rfl
  rw [run_eql_struct, show (10000 : Nat) = 9999 + 1 from rfl, run_equalIn_agg w 9999 23 _ _ hS hp]
  simp only [Program.fieldsOf, Tryd.underlying23]
  go_simp
theorem neq_desc (o s t : Int) (g : Bool) (w : World) : Sem.run Tryd.prog (binOp .neq 23 (dsV o s t g) (dsV o s t g)) w = .ok (.bool false) w := by
  have u3 := Tryd.underlying3
  have u2 := Tryd.underlying2
  have u4 := Tryd.underlying4
  have hS : Tryd.prog.underlying 23 = some (.struct (Tryd.prog.fieldsOf 23)) := by kernel_rfl
  have hp : Tryd.prog.stoodInHeld 23 = false := by kernel_rfl
  rw [run_neq_struct, show (10000 : Nat) = 9999 + 1 from rfl, run_equalIn_agg w 9999 23 _ _ hS hp]
  simp only [Program.fieldsOf, Tryd.underlying23]
  go_simp
theorem guardD : Tryd.prog.eqGuardType Tryd.prog.depth 23 = false := by kernel_rfl
/-- a box that holds a description -/
abbrev BoxD (W : World) (b : Nat) (o s t : Int) (g : Bool) : Prop := W.heap[b]? = some (.cells #[.int .i64 o, .int .i64 s, .int .i64 t, .bool g] 23 (0, 0))
section
variable {W : World} {b : Nat} {o s t : Int} {g : Bool}
theorem BoxD.c0 (h : BoxD W b o s t g) : W.cell? ⟨b, 0, none⟩ = some (.int .i64 o) := by rw [cell_of_block h]; rfl
theorem BoxD.c1 (h : BoxD W b o s t g) : W.cell? ⟨b, 1, none⟩ = some (.int .i64 s) := by rw [cell_of_block h]; rfl
theorem BoxD.c2 (h : BoxD W b o s t g) : W.cell? ⟨b, 2, none⟩ = some (.int .i64 t) := by rw [cell_of_block h]; rfl
theorem BoxD.c3 (h : BoxD W b o s t g) : W.cell? ⟨b, 3, none⟩ = some (.bool g) := by rw [cell_of_block h]; rfl
theorem BoxD.below {W' : World} (h : BoxD W b o s t g) (hb : Below W.heap.size W W') : BoxD W' b o s t g := (hb.block _ (blk_lt h)).trans h
end
theorem unV_ds (x : Int) : ∃ o s t g, unV x = dsV o s t g := by
  unfold unV
  split
  · exact ⟨_, _, _, _, rfl⟩
  · exact ⟨_, _, _, _, rfl⟩
section
variable (o s t : Int) (g : Bool) (x : Int) (w : World)
set_option maxRecDepth 100000 in
set_option maxHeartbeats 6400000 in
theorem law_packs (h0 : 0 ≤ x) (hx : x < 18446744073709551616) (hT : Tab w) :
    Calls Tryd.prog 3 #[dsV o s t g, .int .u64 x] w fun e w' => e = .returned (.bool true) ∧ Below w.heap.size w w' := by
  have b0 := below_box0 w (.cells #[.int .i64 o, .int .i64 s, .int .i64 t, .bool g] 23)
  have HB0 := Lib.hid b0
  have HD0 : Hid (BoxD (w.alloc (.cells #[.int .i64 o, .int .i64 s, .int .i64 t, .bool g] 23)) w.heap.size o s t g) := Lib.hid (heap_alloc_new w _)
  have HT := Lib.hid hT
  have HP := Lib.hid (pack_ok o s t g)
  have HR := Lib.hid (rpack_ok o s t g)
  have HU := Lib.hid (unpack_ok x h0 hx)
  have HV := Lib.hid (runpack_ok x h0 hx)
  obtain ⟨uo, us, ut, ug, hu⟩ := unV_ds x
  obtain ⟨ue, hue⟩ : ∃ z, unE x = z := ⟨_, rfl⟩
  rw [hu, hue] at HU HV
  obtain ⟨pv, hpv⟩ : ∃ z, pkV o s t g = z := ⟨_, rfl⟩
  obtain ⟨pe, hpe⟩ : ∃ z, pkE o s t = z := ⟨_, rfl⟩
  rw [hpv, hpe] at HP HR
  have hw3 : pe = 0 → ∀ W, Calls Tryd.prog 15 #[.int .u64 pv] W fun e w' => e = .returned (.tuple #[dsV o s t g, .int .i64 0]) ∧ Below W.heap.size W w' := fun hz W => by
    rw [hz] at hpe
    obtain ⟨e1, e2, e3, e4, e5⟩ := un_pk (h := g) hpe
    have hb := pkW_bd (h := g) hpe
    have hpw : pv = pkW o s t g := by rw [← hpv, pkV_ok hpe]
    have := unpack_ok (pkW o s t g) (by omega) (by omega) W
    unfold unV at this
    rw [e5, if_pos rfl, e1, e2, e3, e4] at this
    rw [hpw]; exact this
  have HW3 := Lib.hid hw3
  have HNQ := Lib.hid (neq_desc uo us ut ug)
  have HEQ := Lib.hid (eql_desc o s t g)
  clear b0 hT h0 hx hu hue hpv hpe hw3
  go_enter Tryd.func3, Tryd.ntmps3
  go_wp2_with fail
  refine (HP.out _).mono ?_
  rintro e w1 ⟨rfl, b1⟩
  have HB1 := Lib.hid (below_tr HB0.out b1)
  have HD1 := Lib.hid (HD0.out.below b1)
  have d0 := HD1.out.c0
  have d1 := HD1.out.c1
  have d2 := HD1.out.c2
  have d3 := HD1.out.c3
  clear b1 HB0 HD0
  go_wp2_with fail
  refine (HR.out _).mono ?_
  clear d0 d1 d2 d3
  rintro e w2 ⟨rfl, b2⟩
  have HB2 := Lib.hid (below_tr HB1.out b2)
  have HD2 := Lib.hid (HD1.out.below b2)
  clear b2 HB1 HD1
  go_wp2_with fail
  refine (HU.out _).mono ?_
  rintro e w3 ⟨rfl, b3⟩
  have b4 := below_box0 w3 (.cells #[.int .i64 uo, .int .i64 us, .int .i64 ut, .bool ug] 23)
  have HB4 := Lib.hid (below_tr HB2.out (below_tr b3 b4))
  have HD4 := Lib.hid (HD2.out.below (below_tr b3 b4))
  have HE4 : Hid (BoxD (w3.alloc (.cells #[.int .i64 uo, .int .i64 us, .int .i64 ut, .bool ug] 23)) w3.heap.size uo us ut ug) := Lib.hid (heap_alloc_new w3 _)
  have HL4 := Lib.hid (Nat.lt_of_lt_of_le (blk_lt HD2.out) b3.size)
  clear b3 b4 HB2 HD2
  go_wp2_with fail
  obtain ⟨W4, hW4⟩ : ∃ W, w3.alloc (.cells #[.int .i64 uo, .int .i64 us, .int .i64 ut, .bool ug] 23) = W := ⟨_, rfl⟩
  rw [hW4] at HB4 HD4 HE4 ⊢
  obtain ⟨p, hp⟩ : ∃ z, w3.heap.size = z := ⟨_, rfl⟩
  rw [hp] at HE4 HL4 ⊢
  clear hW4 hp
  refine (HV.out _).mono ?_
  rintro e w5 ⟨rfl, b5⟩
  have b6 := below_box0 w5 (.cells #[.int .i64 uo, .int .i64 us, .int .i64 ut, .bool ug] 23)
  have HB6 := Lib.hid (below_tr HB4.out (below_tr b5 b6))
  have HD6 := Lib.hid (HD4.out.below (below_tr b5 b6))
  have HE6 := Lib.hid (HE4.out.below (below_tr b5 b6))
  have HE5 := Lib.hid (HE4.out.below b5)
  have e0 := HE5.out.c0
  have e1 := HE5.out.c1
  have e2 := HE5.out.c2
  have e3 := HE5.out.c3
  have lp := blk_lt HE5.out
  have hnq := HNQ.out
  have hgd := guardD
  have z1 : (pv != pv) = false := by simp
  have z2 : (pe != pe) = false := by simp
  have z3 : (ue != ue) = false := by simp
  clear b5 b6 HB4 HD4 HE4
  by_cases hz : pe = 0
  · have HW := Lib.hid (HW3.out hz)
    have z4 : (pe == 0) = true := by simpa using hz
    clear hz
    go_wp2_with fail
    refine (HW.out _).mono ?_
    clear e0 e1 e2 e3 lp hnq z1 z2 z3
    rintro e w7 ⟨rfl, b7⟩
    have HB7 := Lib.hid (below_tr HB6.out b7)
    have HD7 := Lib.hid (HD6.out.below b7)
    have HE7 := Lib.hid (HE6.out.below b7)
    have d0 := HD7.out.c0
    have d1 := HD7.out.c1
    have d2 := HD7.out.c2
    have d3 := HD7.out.c3
    have e0 := HE7.out.c0
    have e1 := HE7.out.c1
    have e2 := HE7.out.c2
    have e3 := HE7.out.c3
    have fe : ∀ j, w7.frozen? ⟨p, j, none⟩ = false := fun j => unfrozen_of_block HE7.out j
    have lp := blk_lt HE7.out
    have hpd := HL4.out
    have hpd1 : ¬ (w.heap.size = p) := by omega
    have hpd2 : ¬ (p = w.heap.size) := by omega
    have heq := HEQ.out
    have HB8 := Lib.hid ((((HB7.out.setCell (p := ⟨p, 0, none⟩) (Nat.le_of_lt hpd) (.int .i64 o)).setCell (p := ⟨p, 1, none⟩) (Nat.le_of_lt hpd) (.int .i64 s)).setCell (p := ⟨p, 2, none⟩) (Nat.le_of_lt hpd) (.int .i64 t)).setCell (p := ⟨p, 3, none⟩) (Nat.le_of_lt hpd) (.bool g))
    clear b7
    go_wp2_with fail
    refine (awake_ok _ (HT.out.below HB8.out)).mono ?_
    rintro e w9 ⟨rfl, b9⟩
    have HB9 := Lib.hid (below_tr HB8.out b9)
    clear b9
    go_wp2
    go_ret
    exact ⟨rfl, HB9.out⟩
  · have z4 : (pe == 0) = false := by simpa using hz
    clear hz
    go_wp2_with fail
    refine (awake_ok _ (HT.out.below HB6.out)).mono ?_
    rintro e w7 ⟨rfl, b7⟩
    have HB7 := Lib.hid (below_tr HB6.out b7)
    clear b7
    go_wp2
    go_ret
    exact ⟨rfl, HB7.out⟩
end
end Go.Proofs.YtfmclbacoffdaaaDoor

namespace Go.Proofs.YtfmclbacoffdaaaDoor
open Go.RowKit Go.Sort Go.Joins
theorem own_fr {w w' : World} {B p q size n : Nat} {e : TypeId} {v : Value} {xs : List Value} (h : w.ownsRow B e size v n xs) (f : Fr p q w w') (hp : p < B) (hq : q < B) : w'.ownsRow B e size v n xs := by
  obtain ⟨h1, h2⟩ := h
  refine ⟨h1, ?_⟩
  rcases h2 with h2 | ⟨g, cap, cur, hv, hg, hh, r⟩
  · exact Or.inl h2
  · exact Or.inr ⟨g, cap, cur, hv, hg, by rw [f.block _ (blk_lt hh) (by omega) (by omega)]; exact hh, r⟩
theorem OSt.fr {w w' : World} {B p q : Nat} {v : Value} {K L : Nat → Value} {S : List Rn} (h : OSt w B v K L S) (f : Fr p q w w') (hp : p < B) (hq : q < B) : OSt w' B v K L S :=
  ⟨own_fr h.row f hp hq, fun j hj => own_fr (h.kid j hj) f hp hq, fun j hj => own_fr (h.wrd j hj) f hp hq, h.kk, h.ll⟩
section
variable {X : RM}
theorem get_same {Y : RM} {p : Nat} (h : wdI Y.st p = wdI X.st p) : getE Y p = getE X p ∧ getV Y p = getV X p := by
  have e : getE Y p = getE X p := by unfold getE; rw [Int.toNat_natCast, h]
  refine ⟨e, ?_⟩
  unfold getV
  rw [e, Int.toNat_natCast, h]
theorem set_words (h : RGood X) {f t o s c : Int} (g : Bool) (hE : setE X f t o s c = 0) {p : Nat} (hp : p < 1024) : wdI (setX X f t o s c g).st p = if f ≤ (p : Int) ∧ (p : Int) < t then (pkW o s c g).toNat else wdI X.st p := by
  obtain ⟨e1, e2, e3⟩ := setE_zero hE
  obtain ⟨p1, p2, p3⟩ := paE_zero e1
  have hb := pkW_bd (h := g) e2
  have := (h.a.sets (x := (pkW o s c g).toNat) (by omega) (show f.toNat + (t - f).toNat ≤ 1024 by omega) e3).2.2 p hp
  unfold setX
  rw [if_pos hE, this]
  by_cases c1 : f ≤ (p : Int) ∧ (p : Int) < t
  · rw [if_pos c1, if_pos (by omega)]
  · rw [if_neg c1, if_neg (by omega)]
theorem clr_words (h : RGood X) {f t : Int} (hE : paE f t = 0) {p : Nat} (hp : p < 1024) : wdI (clrX X f t).st p = if f ≤ (p : Int) ∧ (p : Int) < t then 0 else wdI X.st p := by
  obtain ⟨p1, p2, p3⟩ := paE_zero hE
  have := (h.a.clrs f.toNat (t - f).toNat (by omega)).2.2 p hp
  unfold clrX
  rw [if_pos hE, this]
  by_cases c1 : f ≤ (p : Int) ∧ (p : Int) < t
  · rw [if_pos c1, if_pos (by omega)]
  · rw [if_neg c1, if_neg (by omega)]
/-- Get of a page that Set has described -/
theorem get_set (h : RGood X) {f t o s c : Int} (g : Bool) (hE : setE X f t o s c = 0) {p : Nat} (hp : p < 1024) (hin : f ≤ (p : Int) ∧ (p : Int) < t) : getE (setX X f t o s c g) p = 0 ∧ getV (setX X f t o s c g) p = dsV o s c g := by
  have e2 := (setE_zero hE).2.1
  have hb := pkW_bd (h := g) e2
  obtain ⟨u1, u2, u3, u4, u5⟩ := un_pk (h := g) e2
  have hw := set_words h g hE hp
  rw [if_pos hin] at hw
  have hE' : getE (setX X f t o s c g) p = 0 := by
    unfold getE
    rw [if_neg (by omega), Int.toNat_natCast, hw, if_neg (by omega), Int.toNat_of_nonneg (by omega), u5]
  refine ⟨hE', ?_⟩
  unfold getV
  rw [if_pos hE', Int.toNat_natCast, hw, Int.toNat_of_nonneg (by omega)]
  unfold unV
  rw [if_pos u5, u1, u2, u3, u4]
theorem get_clr (h : RGood X) {f t : Int} (hE : paE f t = 0) {p : Nat} (hp : p < 1024) (hin : f ≤ (p : Int) ∧ (p : Int) < t) : getE (clrX X f t) p = 4 := by
  have hw := clr_words h hE hp
  rw [if_pos hin] at hw
  unfold getE
  rw [if_neg (by omega), Int.toNat_natCast, hw, if_pos rfl]
theorem get_out {Y : RM} {f t : Int} {u : Nat} {p : Nat} (hw : wdI Y.st p = if f ≤ (p : Int) ∧ (p : Int) < t then u else wdI X.st p) (hin : ¬ (f ≤ (p : Int) ∧ (p : Int) < t)) : getE Y p = getE X p ∧ getV Y p = getV X p := by
  rw [if_neg hin] at hw
  exact get_same hw
theorem getV_dsv (X : RM) (p : Int) : ∃ o s t g, getV X p = dsV o s t g := by
  unfold getV
  split
  · exact unV_ds _
  · exact ⟨_, _, _, _, rfl⟩
end
end Go.Proofs.YtfmclbacoffdaaaDoor

namespace Go.Proofs.YtfmclbacoffdaaaDoor
open Go.RowKit

/-- what an iterator promises to a loop that keeps I -/
def SeqI {α : Type} (F : Fence) (n : Nat) (P : Program) (gf : Nat) (lb : Array Value) (encs : α → Array Value) (I : List α → World → Prop) (G : List α → α → Prop) (S : List α → Prop) (w : World) : Prop :=
  ∀ (l : Nat) (J Jx : List α → World → Prop) (W : World), Below w.heap.size w W → AbidesFrom W.heap.size J → AbidesFrom W.heap.size Jx → (∀ pre W1, J pre W1 → I pre W1) →
    (∀ pre x W1, J pre W1 → G pre x → YieldAt F (n - 1) P l (encs x) W1 fun e W' => (e = .returned (.bool true) ∧ J (pre ++ [x]) W') ∨ (e = .returned (.bool false) ∧ Jx (pre ++ [x]) W')) →
    J [] W →
    CallsIn F n P gf (#[.func (.yield l) #[] #[]] ++ lb) W fun e W' => (∃ v, e = .returned v) ∧ ((∃ xs, S xs ∧ J xs W') ∨ (∃ pre, Jx pre W'))

/-- how a round may end -/
abbrev roundPost {α : Type} (B : Nat) (I : List α → World → Prop) (Ix : Code → List α → World → Prop) (xs : List α) (W : World) : Exit → Act → World → Prop := ownPostG B (fun _ _ => True) I Ix xs W

theorem wpIn_iter {α : Type} {F : Fence} {n : Nat} {P : Program} {g : Operand} {ps : Array Tmp} {assign body : Code} {Q : Exit → Act → World → Prop} {a : Act} {w : World}
    (hro : F.round = none) (h1 : 1 ≤ n) {gf : Nat} {lb : Array Value} (hg : a.eval g = .func (.func gf) #[] lb) (hFg : F.fn gf) (eg : ∀ args w, (callFunc gf args).run P w = .ok (.enter gf args) w)
    {encs : α → Array Value} {G : List α → α → Prop} {S : List α → Prop} (I : List α → World → Prop) (hseq : SeqI F (n - 1) P gf lb encs I G S w)
    (hps : ∀ x, (encs x).size = ps.size) (Ix : Code → List α → World → Prop) (hI : OwnFrom w.heap.size I) (hIx : ∀ c, OwnFrom w.heap.size (Ix c)) (h0 : I [] w) (Ax : α → Act → World → Prop) (hAx : ∀ x a', OwnFrom w.heap.size (fun (_ : Unit) W => Ax x a' W))
    (hassign : ∀ (l : Nat) (pre : List α) (x : α) (W : World) (K : Act → World → Prop), I pre W → G pre x → (∀ a' W', KeepsFrom w.heap.size W W' → I pre W' → Ax x a' W' → K a' W') →
      assign.wpIn (F.inRound l) (n - 1 - 1) P (Exit.then K (fun _ _ _ => False)) { tmps := (ps.zip (encs x)).foldl (fun t (p, v) => t.setIfInBounds p v) a.tmps, defers := [] } W)
    (hbody : ∀ (l : Nat) (pre : List α) (x : α) (a' : Act) (W : World), w.heap.size ≤ l → I pre W → Ax x a' W → G pre x → body.wpIn (F.inRound l) (n - 1 - 1) P (roundPost w.heap.size I Ix (pre ++ [x]) W) a' W)
    (hdone : ∀ (D : Nat) (xs : List α) (W : World), w.heap.size ≤ D → S xs → I xs W → W.heap[D]? = some (.deferred (some [])) → Q .normal { a with defers := { target := .collected D, args := #[] } :: a.defers } W)
    (hstop : ∀ (D : Nat) (c : Code) (pre : List α) (W : World), w.heap.size ≤ D → Ix c pre W → W.heap[D]? = some (.deferred (some [])) → c.wpIn F n P Q { a with defers := { target := .collected D, args := #[] } :: a.defers } W) :
    (Code.rangeFunc g ps assign body).wpIn F n P Q a w := by
  refine wpIn_rangeFunc fun fn hfn => ?_
  rw [hro]
  obtain ⟨rec, hrec⟩ : ∃ rec : LoopState → Option Code → Loop, rec = fun st pe => { state := st, pending := pe, fn, tmps := a.tmps, params := ps, assign, body, defers := w.heap.size } := ⟨_, rfl⟩
  obtain ⟨W1, hW1⟩ : ∃ W1, (w.alloc (.deferred (some []))).alloc (.loop (rec .ready none)) = W1 := ⟨_, rfl⟩
  have hL1 : W1.heap[w.heap.size + 1]? = some (.loop (rec .ready none)) := by
    rw [← hW1]; have := World.alloc_heap_new (w.alloc (.deferred (some []))) (.loop (rec .ready none)); rwa [World.size_alloc] at this
  have hK1 : W1.heap[w.heap.size]? = some (.deferred (some [])) := by
    rw [← hW1]; exact (Below.heap_alloc _ _ _ (by simp)).trans (World.alloc_heap_new w _)
  have hI1 : I [] W1 := by rw [← hW1]; exact hI.alloc _ (hI.alloc _ h0)
  have hb1 : Below w.heap.size w W1 := by
    rw [← hW1]; exact ((Below.refl _ w).alloc (Nat.le_refl _) _).alloc (by simp) _
  have hs1 : w.heap.size ≤ W1.heap.size := hb1.size
  refine ⟨w.heap.size + 1, [{ target := .collected w.heap.size, args := #[] }], W1, { target := .fn (.func gf) lb, args := #[.func (.yield (w.heap.size + 1)) #[] #[]] }, W1, gf,
    #[.func (.yield (w.heap.size + 1)) #[] #[]] ++ lb, W1, ?_, ?_, ?_, ?_, fun _ => h1, ?_⟩
  · rw [← hW1, hrec]; exact run_enterLoop_outer _ _ _ _ _
  · simp only [resolve, hg]
    simp [go_sem]
  · intro f' hf'; simp [Target.leads] at hf'; subst hf'; exact hFg
  · simp [invoke, go_sem, eg]
  · have hnw : ∀ {A : World} {row : Option Nat}, (∀ r, row = some r → W1.heap.size ≤ r ∧ ∃ o : Obj, A.heap[r]? = some o ∧ o.isWalk = true) → (∀ r, row = some r → w.heap.size ≤ r ∧ ∃ o : Obj, A.heap[r]? = some o ∧ o.isCells = false) :=
      fun hr r e => by obtain ⟨hB, o, ho, hw⟩ := hr r e; exact ⟨Nat.le_trans hs1 hB, o, ho, Obj.not_cells_of_walk hw⟩
    refine (hseq (w.heap.size + 1)
      (fun pre W => I pre W ∧ W.heap[w.heap.size + 1]? = some (.loop (rec .ready none)) ∧ W.heap[w.heap.size]? = some (.deferred (some [])))
      (fun pre W => ∃ c, Ix c pre W ∧ W.heap[w.heap.size + 1]? = some (.loop (rec .done (some c))) ∧ W.heap[w.heap.size]? = some (.deferred (some [])))
      W1 hb1
      (fun s A B row hs hg' hr => ⟨hI s A B row hs.1 hg' (hnw hr), (grownBy_keeps hg' (fun r e => (hr r e).2) hs.2.1 rfl).trans hs.2.1, (grownBy_keeps hg' (fun r e => (hr r e).2) hs.2.2 rfl).trans hs.2.2⟩)
      (fun s A B row hs hg' hr => by
        obtain ⟨c, hc, hl, hk⟩ := hs
        exact ⟨c, hIx c s A B row hc hg' (hnw hr), (grownBy_keeps hg' (fun r e => (hr r e).2) hl rfl).trans hl, (grownBy_keeps hg' (fun r e => (hr r e).2) hk rfl).trans hk⟩)
      (fun _ _ h => h.1) ?_ ⟨hI1, hL1, hK1⟩).mono ?_
    · rintro pre x W ⟨hi, hl, hk⟩ hG
      have hy := run_yield (P := P) (args := encs x) hl (by rw [hrec]; exact hps x)
      rw [hrec] at hy
      refine ⟨fn, _, assign, body, hy, roundIn_of_wpIn hfn (hassign _ pre x W _ hi hG ?_)⟩
      clear hy
      intro a' Wa hkfa hia hax
      have hl := hkfa.same _ _ (Nat.le_succ _) hl rfl
      have hk := hkfa.same _ _ (Nat.le_refl _) hk rfl
      have hlt : w.heap.size + 1 < Wa.heap.size := (Array.getElem?_eq_some_iff.1 hl).1
      refine ⟨_, run_beginRound hl (by rw [hrec]), ?_⟩
      have hl2 : (Wa.putObj (w.heap.size + 1) (.loop { rec .ready none with state := .busy })).heap[w.heap.size + 1]? = some (.loop { rec .ready none with state := .busy }) := World.putObj_heap_same hlt
      have hk2 : (Wa.putObj (w.heap.size + 1) (.loop { rec .ready none with state := .busy })).heap[w.heap.size]? = some (.deferred (some [])) := (World.putObj_heap_other (by omega)).trans hk
      refine wpIn_mono (hbody _ pre x a' _ (Nat.le_succ _) (hI.putObj _ hia (Nat.le_succ _) hl rfl) ((hAx x a').putObj (s := ()) _ hax (Nat.le_succ _) hl rfl) hG) ?_
      have fin : ∀ (jump : Option Code) (W3 : World), KeepsFrom w.heap.size (Wa.putObj (w.heap.size + 1) (.loop { rec .ready none with state := .busy })) W3 →
          (Instr.endRound (w.heap.size + 1) jump).run P W3 = .ok (.bool jump.isNone) (W3.putObj (w.heap.size + 1) (.loop (rec (if jump.isNone then .ready else .done) jump))) ∧
          W3.heap[w.heap.size + 1]? = some (.loop { rec .ready none with state := .busy }) ∧
          (W3.putObj (w.heap.size + 1) (.loop (rec (if jump.isNone then .ready else .done) jump))).heap[w.heap.size + 1]? = some (.loop (rec (if jump.isNone then .ready else .done) jump)) ∧
          (W3.putObj (w.heap.size + 1) (.loop (rec (if jump.isNone then .ready else .done) jump))).heap[w.heap.size]? = some (.deferred (some [])) := fun jump W3 hk3 => by
        have hl3 := hk3.same _ _ (Nat.le_succ _) hl2 rfl
        have := run_endRound (P := P) jump hl3
        rw [hrec] at this ⊢
        exact ⟨this, by rw [hrec] at hl3; exact hl3, World.putObj_heap_same (Array.getElem?_eq_some_iff.1 hl3).1, (World.putObj_heap_other (by omega)).trans (hk3.same _ _ (Nat.le_refl _) hk2 rfl)⟩
      rintro e a3 W3 hp
      cases e with
      | normal =>
        obtain ⟨hk3, -, hi3⟩ := hp
        obtain ⟨hr, hl3, hl4, hk4⟩ := fin none W3 hk3
        exact ⟨_, _, hr, .inl ⟨rfl, hI.putObj _ hi3 (Nat.le_succ _) hl3 rfl, hl4, hk4⟩⟩
      | ret =>
        obtain ⟨hk3, hi3⟩ := hp
        obtain ⟨hr, hl3, hl4, hk4⟩ := fin (some .ret) W3 hk3
        exact ⟨_, _, hr, .inr ⟨rfl, .ret, (hIx _).putObj _ hi3 (Nat.le_succ _) hl3 rfl, hl4, hk4⟩⟩
      | exit id =>
        obtain ⟨hk3, hi3⟩ := hp
        obtain ⟨hr, hl3, hl4, hk4⟩ := fin (some (.exit id)) W3 hk3
        exact ⟨_, _, hr, .inr ⟨rfl, .exit id, (hIx _).putObj _ hi3 (Nat.le_succ _) hl3 rfl, hl4, hk4⟩⟩
      | goto t =>
        obtain ⟨hk3, hi3⟩ := hp
        obtain ⟨hr, hl3, hl4, hk4⟩ := fin (some (.goto t)) W3 hk3
        exact ⟨_, _, hr, .inr ⟨rfl, .goto t, (hIx _).putObj _ hi3 (Nat.le_succ _) hl3 rfl, hl4, hk4⟩⟩
      | panic ch => exact hp.elim
      | outgrown => exact hp.elim
    · rintro e W2 ⟨⟨v, rfl⟩, (⟨xs, hS, hi, hl, hk⟩ | ⟨pre, c, hi, hl, hk⟩)⟩
      · exact ⟨none, _, by have := run_endLoop (P := P) hl (by rw [hrec]; simp); rw [hrec] at this; exact this, hdone _ xs _ (Nat.le_refl _) hS (hI.putObj _ hi (Nat.le_succ _) hl rfl) ((World.putObj_heap_other (by omega)).trans hk)⟩
      · exact ⟨some c, _, by have := run_endLoop (P := P) hl (by rw [hrec]; simp); rw [hrec] at this; exact this, hstop _ c pre _ (Nat.le_refl _) ((hIx c).putObj _ hi (Nat.le_succ _) hl rfl) ((World.putObj_heap_other (by omega)).trans hk)⟩
/-- .. where the assigned variables lie in the frame -/
theorem wpIn_iter_moves {α : Type} {F : Fence} {n : Nat} {P : Program} {g : Operand} {ps : Array Tmp} {assign body : Code} {Q : Exit → Act → World → Prop} {a : Act} {w : World}
    (hro : F.round = none) (h1 : 1 ≤ n) {gf : Nat} {lb : Array Value} (hg : a.eval g = .func (.func gf) #[] lb) (hFg : F.fn gf) (eg : ∀ args w, (callFunc gf args).run P w = .ok (.enter gf args) w)
    {encs : α → Array Value} {G : List α → α → Prop} {S : List α → Prop} (I : List α → World → Prop) (hseq : SeqI F (n - 1) P gf lb encs I G S w)
    (hps : ∀ x, (encs x).size = ps.size) (Ix : Code → List α → World → Prop) (hI : OwnFrom w.heap.size I) (hIx : ∀ c, OwnFrom w.heap.size (Ix c)) (h0 : I [] w) (A1 : Act → α → Act)
    (hassign : ∀ (l : Nat) (x : α) (W : World) (K : Act → World → Prop), K (A1 a x) W →
      assign.wpIn (F.inRound l) (n - 1 - 1) P (Exit.then K (fun _ _ _ => False)) { tmps := (ps.zip (encs x)).foldl (fun t (p, v) => t.setIfInBounds p v) a.tmps, defers := [] } W)
    (hbody : ∀ (l : Nat) (pre : List α) (x : α) (W : World), w.heap.size ≤ l → I pre W → G pre x → body.wpIn (F.inRound l) (n - 1 - 1) P (roundPost w.heap.size I Ix (pre ++ [x]) W) (A1 a x) W)
    (hdone : ∀ (D : Nat) (xs : List α) (W : World), w.heap.size ≤ D → S xs → I xs W → W.heap[D]? = some (.deferred (some [])) → Q .normal { a with defers := { target := .collected D, args := #[] } :: a.defers } W)
    (hstop : ∀ (D : Nat) (c : Code) (pre : List α) (W : World), w.heap.size ≤ D → Ix c pre W → W.heap[D]? = some (.deferred (some [])) → c.wpIn F n P Q { a with defers := { target := .collected D, args := #[] } :: a.defers } W) :
    (Code.rangeFunc g ps assign body).wpIn F n P Q a w :=
  wpIn_iter hro h1 hg hFg eg I hseq hps Ix hI hIx h0 (fun x a' _ => a' = A1 a x) (fun _ _ _ _ _ _ h _ _ => h)
    (fun l _ x W _ hi _ hK => hassign l x W _ (hK _ _ (KeepsFrom.refl _ _) hi rfl)) (fun l pre x a' W hl hi ha hG => by subst ha; exact hbody l pre x W hl hi hG) hdone hstop
end Go.Proofs.YtfmclbacoffdaaaDoor

namespace Go.Proofs.YtfmclbacoffdaaaDoor
open Go.RowKit Go.Sort Go.Joins Go.Shelf
attribute [local go_sem] cell_grow frozen_grow size_grow Oper.semAt_some
theorem wide_any' (d : Nat) : Fence.wide.depth.isSome = true → 1 ≤ d := fun h => by simp [Fence.wide] at h
/-- the pages from f on, below k, that have a word -/
def wL (X : RM) (f k : Nat) : List Nat := (List.range k).filter fun q => decide (f ≤ q) && wdI X.st q != 0
theorem wL_mem {X : RM} {f k q : Nat} : q ∈ wL X f k ↔ q < k ∧ f ≤ q ∧ wdI X.st q ≠ 0 := by
  unfold wL
  simp [List.mem_filter]
theorem wL_step {X : RM} {f k : Nat} (h : f ≤ k) (hw : wdI X.st k ≠ 0) : wL X f (k + 1) = wL X f k ++ [k] := by
  unfold wL
  rw [List.range_succ, List.filter_append]
  simp [h, hw]
theorem wL_skip {X : RM} {f k : Nat} : ∀ n, (∀ q, k ≤ q → q < k + n → wdI X.st q = 0) → wL X f (k + n) = wL X f k
  | 0, _ => rfl
  | n + 1, h => by
    have ih := wL_skip (X := X) (f := f) (k := k) n (fun q a b => h q a (by omega))
    rw [show k + (n + 1) = (k + n) + 1 by omega]
    unfold wL at ih ⊢
    rw [List.range_succ, List.filter_append, ih]
    simp [h (k + n) (by omega) (by omega)]
theorem wL_next {X : RM} {f k : Nat} (hk : k ≤ 1024) : wL X f (nxI X k) = wL X f k := by
  obtain ⟨h1, h2, h3, _⟩ := nxI_spec X k hk
  have := wL_skip (X := X) (f := f) (k := k) (nxI X k - k) (fun q a b => h3 q a (by omega))
  rwa [show k + (nxI X k - k) = nxI X k by omega] at this
theorem wL_start (X : RM) (f : Nat) : wL X f f = [] := by
  unfold wL
  rw [List.filter_eq_nil_iff]
  intro q hq
  have := List.mem_range.1 hq
  simp; omega
theorem nxI_congr {X Y : RM} {k : Nat} (h : ∀ q, k ≤ q → q < 1024 → wdI Y.st q = wdI X.st q) : nxI Y k = nxI X k := by
  unfold nxI
  by_cases c : k < 1024
  · rw [if_pos c, if_pos c]
    exact nxt_congr (by omega) fun i a b => by rw [h i a b]
  · rw [if_neg c, if_neg c]
abbrev encW (X : RM) (q : Nat) : Array Value := #[.int .i64 q, getV X q]
/-- what is handed over -/
def GW (X : RM) (f : Nat) (pre : List Nat) (x : Nat) : Prop := pre = wL X f x ∧ f ≤ x ∧ x < 1024 ∧ wdI X.st x ≠ 0
def SW (X : RM) (f : Nat) (xs : List Nat) : Prop := xs = wL X f 1024
theorem walk_ok (p : Option Addr) (f : Int) (w : World) : Calls Tryd.prog 26 #[.pointer p, .int .i64 f] w fun e w' => e = .returned (.func (.func 50) #[] #[.pointer (some ⟨w.heap.size, 0, none⟩), .pointer (some ⟨w.heap.size + 1, 0, none⟩)]) ∧ (w.alloc (.cells #[.pointer p] 33)).alloc (.cells #[.int .i64 f] 3) = w' := by
  go_enter Tryd.func26, Tryd.ntmps26
  go_wp2
  go_ret
  exact ⟨rfl, rfl⟩
/-- what the loop keeps for the iterator -/
def KeepW (B p q Bm Bf : Nat) (X : RM) (f : Int) (pre : List Nat) (W : World) : Prop :=
  ∃ Y : RM, TM W B p q Y.st Y.m Y.r ∧ RGood Y ∧ (∀ r, r < 1024 → r ∉ pre → wdI Y.st r = wdI X.st r) ∧ W.cell? ⟨Bm, 0, none⟩ = some (.pointer (some ⟨p, 0, none⟩)) ∧ W.cell? ⟨Bf, 0, none⟩ = some (.int .i64 f)
theorem yform {R S : World → Prop} {e : Ending} {W : World} (h : (e = .returned (.bool true) ∧ R W) ∨ (e = .returned (.bool false) ∧ S W)) : ∃ b, e = .returned (.bool b) ∧ Hid ((b = true → R W) ∧ (b = false → S W)) := by
  rcases h with ⟨h1, h2⟩ | ⟨h1, h2⟩
  · exact ⟨true, h1, Lib.hid ⟨(fun _ => h2), (fun h => by cases h)⟩⟩
  · exact ⟨false, h1, Lib.hid ⟨(fun h => by cases h), (fun _ => h2)⟩⟩
theorem grown_of_below {W W' : World} (h : Below W.heap.size W W') : W.grownBy W' none := ⟨h.os, h.tape, h.output, h.size, fun k hk _ => h.block k hk⟩
set_option maxRecDepth 100000 in
set_option maxHeartbeats 3200000 in
theorem walk_seq (d B p q Bm Bf : Nat) (X : RM) (f0 : Int) (I : List Nat → World → Prop) (hI : ∀ pre W, I pre W → KeepW B p q Bm Bf X f0 pre W) (w : World) :
    SeqI Fence.wide d Tryd.prog 50 #[.pointer (some ⟨Bm, 0, none⟩), .pointer (some ⟨Bf, 0, none⟩)] (encW X) I (GW X f0.toNat) (SW X f0.toNat) w := by
  intro l J Jx W _ hJ _ hJI hY h0
  have hJI' : ∀ pre W, J pre W → KeepW B p q Bm Bf X f0 pre W := fun pre W h => hI _ _ (hJI _ _ h)
  obtain ⟨Y0, t0, g0, k0, z1, z2⟩ := hJI' _ _ h0
  have HM := Lib.hid (made_ok t0)
  refine callsIn_of_wp Tryd.func50 rfl trivial ?_ rfl
  simp only [Tryd.ntmps50, List.size_toArray, List.length_cons, List.length_nil, Nat.reduceAdd, Nat.reduceSub, Array.replicate_succ, Array.replicate_zero, List.push_toArray, List.append_toArray, List.nil_append, List.cons_append]
  by_cases hf : 1024 ≤ f0
  · have d1 : decide (1024 ≤ f0) = true := decide_eq_true hf
    have HS : Hid (SW X f0.toNat []) := Lib.hid (by
      unfold SW
      have : wL X f0.toNat 1024 = [] := by
        unfold wL
        rw [List.filter_eq_nil_iff]
        intro r hr
        have := List.mem_range.1 hr
        simp; omega
      exact this.symm)
    have HJ0 := Lib.hid h0
    clear t0 g0 k0 h0 hf
    gi_wp2_with (refine ⟨trivial, wide_any' _, (callsIn_wide.2 HM.out).mono ?_⟩; rintro e w1 ⟨rfl, rfl⟩)
    refine bodyPost_ret (results_none rfl _ _ _) rfl ?_
    exact ⟨⟨_, rfl⟩, .inl ⟨_, HS.out, HJ0.out⟩⟩
  have d1 : decide (1024 ≤ f0) = false := decide_eq_false hf
  obtain ⟨f, hf'⟩ : ∃ f, f0.toNat = f := ⟨_, rfl⟩
  have hmax : max f0 0 = ((f : Nat) : Int) := by omega
  have hfb : f ≤ 1024 := by omega
  have HNX := Lib.hid (next_ok t0 g0 f hfb)
  rw [nxI_congr (X := X) (fun r a b => k0 r b (List.not_mem_nil))] at HNX
  rw [← hmax] at HNX
  have HJ0 := Lib.hid h0
  rw [hf'] at hY ⊢
  have HX0 := Lib.hid (nxI_spec X f hfb)
  have HWL : Hid (wL X f (nxI X f) = []) := Lib.hid ((wL_next hfb).trans (wL_start X f))
  obtain ⟨z0, hz0⟩ : ∃ z, nxI X f = z := ⟨_, rfl⟩
  rw [hz0] at HNX HX0 HWL
  clear t0 g0 k0 h0 hf hf' hmax hz0
  gi_wp2_with (refine ⟨trivial, wide_any' _, (callsIn_wide.2 HM.out).mono ?_⟩; rintro e w1 ⟨rfl, rfl⟩)
  refine ⟨trivial, wide_any' _, (callsIn_wide.2 HNX.out).mono ?_⟩
  rintro e w2 ⟨rfl, b2⟩
  have HJ2 := Lib.hid (hJ _ _ _ none HJ0.out (grown_of_below b2) (fun r e => by cases e))
  rw [← HWL.out] at HJ2
  have hzb : z0 ≤ 1024 := HX0.out.2.1
  have hzf : f ≤ z0 := HX0.out.1
  have HZW : Hid (z0 < 1024 → wdI X.st z0 ≠ 0) := Lib.hid HX0.out.2.2.2
  clear b2 z1 z2 HM HJ0 HX0 HWL HNX
  gi_wp2
  gi_loopw [5] (fun v wr => ∃ z : Nat, v = .int .i64 z ∧ f ≤ z ∧ z ≤ 1024 ∧ Hid (z < 1024 → wdI X.st z ≠ 0) ∧ Hid (J (wL X f z) wr)) (fun v _ => 1024 - (intOf v).toNat)
  case atStart => exact ⟨z0, rfl, hzf, hzb, HZW, HJ2⟩
  case round =>
    obtain ⟨z, rfl, hz1, hz2, HZ, HJz⟩ := hrel
    by_cases hlt : z < 1024
    · have hw0 := HZ.out hlt
      obtain ⟨Y, ty, gy, ky, y1, y2⟩ := hJI' _ _ HJz.out
      have hyz := ky z hlt (fun h => by have := (wL_mem.1 h).1; omega)
      have HG := Lib.hid (get_ok ty gy.a gy.w (z : Int))
      obtain ⟨q1, q2⟩ := get_same (X := X) (Y := Y) hyz
      rw [q1, q2] at HG
      have hE : getE X z = 0 := by
        rw [← q1, getE_at gy.w hlt, if_neg (by rw [hyz]; exact hw0)]
      rw [hE] at HG
      have HGW : Hid (GW X f (wL X f z) z) := Lib.hid ⟨rfl, hz1, hlt, hw0⟩
      have HEN : Hid (encW X z = #[.int .i64 z, getV X z]) := Lib.hid rfl
      obtain ⟨vo, vs, vt, vg, hv⟩ := getV_dsv X (z : Int)
      rw [hv] at HG HEN
      have HWS : Hid (wL X f (z + 1) = wL X f z ++ [z]) := Lib.hid (wL_step hz1 hw0)
      have i1 : (z : Int) < 1024 := by omega
      have hwz : IntKind.i64.wrap ((z : Int) + 1) = (z : Int) + 1 := IntWalk.i64_in _ (by omega)
      clear ty gy ky hyz q1 q2 hE hv hw0
      gi_wp2_with fail
      refine ⟨trivial, wide_any' _, (callsIn_wide.2 HG.out).mono ?_⟩
      rintro e w3 ⟨rfl, b3⟩
      have HJ3 := hJ _ _ _ none HJz.out (grown_of_below (below_tr b3 (below_box0 w3 (.cells #[.int .i64 vo, .int .i64 vs, .int .i64 vt, .bool vg] 23)))) (fun r e => by cases e)
      obtain ⟨fn, tmps, assign, body, hy, hR⟩ := hY (wL X f z) z _ HJ3 HGW.out
      rw [HEN.out] at hy
      clear b3 HG y1 y2 HJ3
      gi_wp2_with fail
      refine ⟨wide_any' _, hR.mono ?_⟩
      intro e W3 hW3
      obtain ⟨b, rfl, HBB⟩ := yform hW3
      clear hW3 hR hy
      cases b with
      | true =>
        have HX2 := Lib.hid (HBB.out.1 rfl)
        obtain ⟨Y2, t2, g2, k2, _, _⟩ := hJI' _ _ HX2.out
        have HN2 := Lib.hid (next_ok t2 g2 (z + 1) (by omega))
        rw [nxI_congr (X := X) (fun r a b => k2 r b (fun h => by
          rw [List.mem_append, List.mem_singleton] at h
          rcases h with h | h
          · have := (wL_mem.1 h).1; omega
          · omega))] at HN2
        have e1 : ((z + 1 : Nat) : Int) = (z : Int) + 1 := by omega
        rw [e1] at HN2
        have HXN := Lib.hid (nxI_spec X (z + 1) (by omega))
        have HWN : Hid (wL X f (nxI X (z + 1)) = wL X f z ++ [z]) := Lib.hid ((wL_next (by omega)).trans HWS.out)
        obtain ⟨z', hz'⟩ : ∃ k, nxI X (z + 1) = k := ⟨_, rfl⟩
        rw [hz'] at HN2 HXN HWN
        clear HBB t2 g2 k2 e1 hz' HWS HEN HGW
        gi_wp2_with fail
        refine ⟨trivial, wide_any' _, (callsIn_wide.2 HN2.out).mono ?_⟩
        rintro e w5 ⟨rfl, b5⟩
        have HJ5 := hJ _ _ _ none HX2.out (grown_of_below b5) (fun r e => by cases e)
        rw [← HWN.out] at HJ5
        have HJ5' := Lib.hid HJ5
        have hzz1 := HXN.out.1
        have hzz2 := HXN.out.2.1
        clear HJ5 b5 HN2 HX2
        gi_wp2
        go_roundw
        case rel => exact ⟨z', rfl, by omega, hzz2, Lib.hid HXN.out.2.2.2, HJ5'⟩
        case measure => simp [intOf]; omega
      | false =>
        have HX2 := Lib.hid (HBB.out.2 rfl)
        clear HBB
        gi_wp2
        refine bodyPost_ret (results_none rfl _ _ _) rfl ?_
        exact ⟨⟨_, rfl⟩, .inr ⟨_, HX2.out⟩⟩
    · obtain rfl : z = 1024 := by omega
      have i1 : ¬ (((1024 : Nat) : Int) < 1024) := by omega
      gi_wp2
      go_end0
      exact ⟨⟨_, rfl⟩, .inl ⟨_, rfl, HJz.out⟩⟩
end Go.Proofs.YtfmclbacoffdaaaDoor

namespace Go.Proofs.YtfmclbacoffdaaaDoor
open Go.RowKit Go.Sort Go.Joins Go.Shelf
attribute [local go_sem] cell_grow frozen_grow size_grow Oper.semAt_some
theorem own_stays7 {W W' : World} {base : Nat} {e : TypeId} {size : Nat} {v : Value} {n : Nat} {xs : List Value} {row : Option Nat} (h : W.ownsRow base e size v n xs) (hg : W.grownBy W' row) (hr : ∀ r, row = some r → ∃ o : Obj, W.heap[r]? = some o ∧ o.isCells = false) : W'.ownsRow base e size v n xs := by
  refine h.kept hg ?_
  rcases h.2 with ⟨rfl, _⟩ | ⟨g, cap, cur, rfl, _, hgb, _⟩
  · exact .inl rfl
  · refine .inr fun hx => ?_
    obtain ⟨o, ho, hc⟩ := hr g hx.symm
    rw [hgb] at ho
    cases ho
    simp [Obj.isCells] at hc
theorem blk_kept7 {W W' : World} {row : Option Nat} {k : Nat} {cs : Array Value} {t : TypeId} (h : W.heap[k]? = some (.cells cs t (0, 0))) (hg : W.grownBy W' row) (hr : ∀ r, row = some r → ∃ o : Obj, W.heap[r]? = some o ∧ o.isCells = false) : W'.heap[k]? = some (.cells cs t (0, 0)) :=
  (grownBy_keeps_cells hg hr h rfl).trans h
theorem TM.kept {W W' : World} {B p q m : Nat} {st : List Nd} {r : Nat → Bool} (h : TM W B p q st m r) {row : Option Nat} (hg : W.grownBy W' row) (hr : ∀ r, row = some r → ∃ o : Obj, W.heap[r]? = some o ∧ o.isCells = false) : TM W' B p q st m r := by
  obtain ⟨ra, rcap, h1, h2⟩ := h.tbl
  exact ⟨h.hp, h.hq, h.ne, h.n1, h.n2, ⟨ra, rcap, blk_kept7 h1 hg hr, own_stays7 h2 hg hr⟩, blk_kept7 h.nodes hg hr, h.rb⟩
/-- a range over a function whose assigned variable is a box -/
theorem wpIn_iter_box {α : Type} {F : Fence} {n : Nat} {P : Program} {g : Operand} {ps : Array Tmp} {assign body : Code} {Q : Exit → Act → World → Prop} {a : Act} {w : World}
    (hro : F.round = none) (h1 : 1 ≤ n) {gf : Nat} {lb : Array Value} (hg : a.eval g = .func (.func gf) #[] lb) (hFg : F.fn gf) (eg : ∀ args w, (callFunc gf args).run P w = .ok (.enter gf args) w)
    {encs : α → Array Value} {G : List α → α → Prop} {S : List α → Prop} (I : List α → World → Prop) (hseq : SeqI F (n - 1) P gf lb encs I G S w)
    (hps : ∀ x, (encs x).size = ps.size) (Ix : Code → List α → World → Prop) (hI : OwnFrom w.heap.size I) (hIx : ∀ c, OwnFrom w.heap.size (Ix c)) (h0 : I [] w) (A1 : Act → α → Nat → Act) (AB : α → Nat → World → Prop) (hAB : ∀ x Bx, OwnFrom w.heap.size (fun (_ : Unit) W => AB x Bx W))
    (hassign : ∀ (l : Nat) (pre : List α) (x : α) (W : World) (K : Act → World → Prop), I pre W → G pre x → (∀ Bx W', KeepsFrom w.heap.size W W' → I pre W' → AB x Bx W' → K (A1 a x Bx) W') →
      assign.wpIn (F.inRound l) (n - 1 - 1) P (Exit.then K (fun _ _ _ => False)) { tmps := (ps.zip (encs x)).foldl (fun t (p, v) => t.setIfInBounds p v) a.tmps, defers := [] } W)
    (hbody : ∀ (l : Nat) (pre : List α) (x : α) (Bx : Nat) (W : World), w.heap.size ≤ l → I pre W → AB x Bx W → G pre x → body.wpIn (F.inRound l) (n - 1 - 1) P (roundPost w.heap.size I Ix (pre ++ [x]) W) (A1 a x Bx) W)
    (hdone : ∀ (D : Nat) (xs : List α) (W : World), w.heap.size ≤ D → S xs → I xs W → W.heap[D]? = some (.deferred (some [])) → Q .normal { a with defers := { target := .collected D, args := #[] } :: a.defers } W)
    (hstop : ∀ (D : Nat) (c : Code) (pre : List α) (W : World), w.heap.size ≤ D → Ix c pre W → W.heap[D]? = some (.deferred (some [])) → c.wpIn F n P Q { a with defers := { target := .collected D, args := #[] } :: a.defers } W) :
    (Code.rangeFunc g ps assign body).wpIn F n P Q a w :=
  wpIn_iter hro h1 hg hFg eg I hseq hps Ix hI hIx h0 (fun x a' W => ∃ Bx, a' = A1 a x Bx ∧ AB x Bx W) (fun x a' s X Y row h hg hr => by
    obtain ⟨Bx, e, hb⟩ := h
    exact ⟨Bx, e, hAB x Bx () X Y row hb hg hr⟩)
    (fun l pre x W K hi hG hK => hassign l pre x W K hi hG (fun Bx W' k i b => hK _ _ k i ⟨Bx, rfl, b⟩)) (fun l pre x a' W hl hi ha hG => by
      obtain ⟨Bx, rfl, hb⟩ := ha
      exact hbody l pre x Bx W hl hi hb hG) hdone hstop
/-- the owner of a page -/
def owI (X : RM) (q : Nat) : Int := unO (wdI X.st q : Int)
/-- the pages of an owner, out of some pages -/
def owL (X : RM) (o : Int) (pre : List Nat) : List Nat := pre.filter fun q => owI X q == o
theorem owL_snoc (X : RM) (o : Int) (pre : List Nat) (x : Nat) : owL X o (pre ++ [x]) = if owI X x = o then owL X o pre ++ [x] else owL X o pre := by
  unfold owL
  rw [List.filter_append]
  by_cases c : owI X x = o
  · rw [if_pos c]; simp [c]
  · rw [if_neg c]; simp [c]
theorem getV_word {X : RM} (hw : RWk X) {q : Nat} (hq : q < 1024) (h : wdI X.st q ≠ 0) : ∃ s t g, getV X q = dsV (owI X q) s t g := by
  have hE : getE X q = 0 := by rw [getE_at hw hq, if_neg h]
  refine ⟨unS (wdI X.st q : Int), unT (wdI X.st q : Int), unH (wdI X.st q : Int), ?_⟩
  unfold getV
  rw [if_pos hE, Int.toNat_natCast]
  unfold unV
  rw [if_pos (hw q hq h)]; rfl
def pgV (l : List Nat) : List Value := l.map fun (q : Nat) => Value.int .i64 (q : Int)
/-- what lies in memory while Owned walks -/
structure OwM (w W : World) (B p q : Nat) (X : RM) (o : Int) (pre : List Nat) (v : Value) : Prop where
  t : TM W B p q X.st X.m X.r
  b0 : W.heap[w.heap.size]? = some (.cells #[.int .i64 o] 3 (0, 0))
  b1 : W.heap[w.heap.size + 1]? = some (.cells #[v] 52 (0, 0))
  b2 : W.heap[w.heap.size + 1 + 1]? = some (.cells #[.pointer (some ⟨p, 0, none⟩)] 33 (0, 0))
  b3 : W.heap[w.heap.size + 1 + 1 + 1]? = some (.cells #[.int .i64 0] 3 (0, 0))
  ow : W.ownsRow (w.heap.size + 4) 3 1 v (owL X o pre).length (pgV (owL X o pre))
  k : Below w.heap.size w W
section
variable {w W W' : World} {B p q : Nat} {X : RM} {o : Int} {pre : List Nat} {v : Value}
theorem OwM.below (h : OwM w W B p q X o pre v) (hb : Below W.heap.size W W') : OwM w W' B p q X o pre v := by
  have N : ∀ {k : Nat} {o : Obj}, W.heap[k]? = some o → W'.heap[k]? = some o := fun ho => (hb.block _ (blk_lt ho)).trans ho
  exact ⟨h.t.below hb, N h.b0, N h.b1, N h.b2, N h.b3, own_belowW h.ow hb, below_tr h.k hb⟩
theorem OwM.kept (h : OwM w W B p q X o pre v) {row : Option Nat} {Z : Nat} (hZ : w.heap.size ≤ Z) (hg : W.grownBy W' row) (hr : ∀ r, row = some r → Z ≤ r ∧ ∃ o : Obj, W.heap[r]? = some o ∧ o.isCells = false) : OwM w W' B p q X o pre v := by
  have hr2 := fun r e => (hr r e).2
  exact ⟨h.t.kept hg hr2, blk_kept7 h.b0 hg hr2, blk_kept7 h.b1 hg hr2, blk_kept7 h.b2 hg hr2, blk_kept7 h.b3 hg hr2, own_stays7 h.ow hg hr2, h.k.grown hg h.k.size (fun r e => by have := (hr r e).1; omega)⟩
end
theorem own_cells {W : World} {base : Nat} {e : TypeId} {size : Nat} {v : Value} {n : Nat} {xs : List Value} (h : W.ownsRow base e size v n xs) : ∀ (j : Nat) (o : Obj), v.ownBlock = some j → W.heap[j]? = some o → ∃ cs, o = .cells cs e (0, 0) := by
  intro j o hj ho
  rcases h.2 with ⟨rfl, _⟩ | ⟨g, cap, cur, rfl, _, hgb, _⟩
  · simp [Value.ownBlock] at hj
  · have : g = j := by simpa [Value.ownBlock] using hj
    subst this; rw [hgb] at ho; cases ho; exact ⟨_, rfl⟩
theorem oneCell_at (W : World) (v : Value) (t : TypeId) : ∀ (j : Nat) (u : Value), [v][j]? = some u → (W.alloc (.cells #[v] t)).cell? ((⟨W.heap.size, 0, none⟩ : Addr).add j) = some u := by
  intro j u h
  match j, h with
  | 0, h =>
    obtain rfl : v = u := by simpa using h
    rw [show (⟨W.heap.size, 0, none⟩ : Addr).add 0 = ⟨W.heap.size, 0, none⟩ by rfl, cell_of_block (heap_alloc_new W _)]; rfl
  | j + 1, h => exact absurd h (by simp)
theorem info_int8 : (Tryd.prog.info? 3).map (fun i => (i.zero, i.size, i.bytes)) = some (some (.int .i64 0), 1, 8) := by kernel_rfl
/-- the error of Owned -/
def owE (o : Int) : Int := if o < 0 ∨ 4095 < o then 7 else 0
section
variable {w : World} {B p q : Nat} {X : RM}
set_option maxRecDepth 100000 in
set_option maxHeartbeats 1600000 in
theorem owned_bad (h : TM w B p q X.st X.m X.r) (o : Int) (ho : o < 0 ∨ 4095 < o) :
    Calls Tryd.prog 27 #[.pointer (some ⟨p, 0, none⟩), .int .i64 o] w fun e w' => e = .returned (.tuple #[.slice none 0 0, .int .i64 7]) ∧ Below w.heap.size w w' := by
  have HB := Lib.hid (below_box0 w (.cells #[.int .i64 o] 3))
  have HM := Lib.hid (made_ok (h.below HB.out))
  have hw : decide (o < 0) = true ∨ (decide (o < 0) = false ∧ decide (4095 < o) = true) := by
    by_cases c : o < 0
    · exact .inl (decide_eq_true c)
    · exact .inr ⟨decide_eq_false c, decide_eq_true (by omega)⟩
  clear h ho
  rcases hw with d1 | ⟨d1, d2⟩
  all_goals
    go_enter Tryd.func27, Tryd.ntmps27
    go_wp2_with fail
    refine HM.out.mono ?_
    rintro e w1 ⟨rfl, rfl⟩
    go_wp2
    go_ret2
    exact ⟨rfl, HB.out⟩
set_option maxRecDepth 100000 in
set_option maxHeartbeats 6400000 in
theorem owned_in (h : TM w B p q X.st X.m X.r) (hG : RGood X) (o : Int) (h0 : 0 ≤ o) (h1 : o ≤ 4095) :
    Calls Tryd.prog 27 #[.pointer (some ⟨p, 0, none⟩), .int .i64 o] w fun e w' => ∃ a c, e = .returned (.tuple #[.slice a (owL X o (wL X 0 1024)).length c, .int .i64 0]) ∧ w'.ownsRow w.heap.size 3 1 (.slice a (owL X o (wL X 0 1024)).length c) (owL X o (wL X 0 1024)).length (pgV (owL X o (wL X 0 1024))) ∧ Below w.heap.size w w' := by
  obtain ⟨i0, hi0, hz0, hz1, hz2'⟩ := info_parts info_int8
  have HB := Lib.hid (below_box0 w (.cells #[.int .i64 o] 3))
  have HM := Lib.hid (made_ok (h.below HB.out))
  have H := Lib.hid h
  have HG := Lib.hid hG
  have d1 : decide (o < 0) = false := decide_eq_false (by omega)
  have d2 : decide (4095 < o) = false := decide_eq_false (by omega)
  have hlp := h.lp
  have hlq := h.lq
  clear h hG h0 h1
  refine (callsIn_wide (n := 4)).1 ?_
  refine callsIn_of_wp_marks Tryd.func27 rfl trivial ?_ rfl
  simp only [Tryd.ntmps27, List.size_toArray, List.length_cons, List.length_nil, Nat.reduceAdd, Nat.reduceSub, Array.replicate_succ, Array.replicate_zero, List.push_toArray, List.append_toArray, List.nil_append, List.cons_append]
  gi_wp2_with fail
  refine ⟨trivial, (callsIn_wide.2 HM.out).mono ?_⟩
  rintro e w1 ⟨rfl, rfl⟩
  gi_wp2_with fail
  refine ⟨trivial, (callsIn_wide.2 (walk_ok _ _ _)).mono ?_⟩
  rintro e w2 ⟨rfl, hw2⟩
  have hOM : OwM w w2 B p q X o [] (.slice none 0 0) := by
    have b4 : Below w.heap.size w w2 := by
      rw [← hw2]
      exact (((((Below.refl _ w).alloc (Nat.le_refl _) _).alloc (by simp) _).alloc (by simp; omega) _).alloc (by simp; omega) _)
    have N0 : ∀ (W : World) (A : Array Value) (t : TypeId) (k : Nat), k = W.heap.size → (W.alloc (.cells A t)).heap[k]? = some (.cells A t (0, 0)) := fun W A t k e => by rw [e]; exact heap_alloc_new W _
    refine ⟨H.out.below b4, ?_, ?_, ?_, ?_, World.ownsRow_nil _ _ _ _, b4⟩
    · rw [← hw2]; refine (Below.heap_alloc _ _ _ (by simp <;> omega)).trans ?_; refine (Below.heap_alloc _ _ _ (by simp <;> omega)).trans ?_; refine (Below.heap_alloc _ _ _ (by simp <;> omega)).trans ?_; exact heap_alloc_new w _
    · rw [← hw2]; refine (Below.heap_alloc _ _ _ (by simp <;> omega)).trans ?_; refine (Below.heap_alloc _ _ _ (by simp <;> omega)).trans ?_; exact N0 _ _ _ _ (by simp)
    · rw [← hw2]; refine (Below.heap_alloc _ _ _ (by simp <;> omega)).trans ?_; exact N0 _ _ _ _ (by simp)
    · rw [← hw2]; exact N0 _ _ _ _ (by simp)
  have hsz2 : w.heap.size + 4 ≤ w2.heap.size := by rw [← hw2]; simp
  have HOM := Lib.hid hOM
  clear hw2 hOM HM HB
  gi_wp2
  refine wpIn_iter_box rfl (by omega) (gf := 50) (lb := #[.pointer (some ⟨w.heap.size + 1 + 1, 0, none⟩), .pointer (some ⟨w.heap.size + 1 + 1 + 1, 0, none⟩)]) rfl trivial (enters_of Tryd.func50 (by kernel_rfl) rfl)
    (fun pre W => ∃ v, OwM w W B p q X o pre v ∧ (∀ x ∈ pre, x < 1024))
    (walk_seq _ B p q (w.heap.size + 1 + 1) (w.heap.size + 1 + 1 + 1) X 0 _ ?keep _) (fun _ => rfl) (fun _ _ _ => False) ?own (fun _ _ _ _ _ hs _ _ => hs) ?start
    (fun a x Bx => { tmps := (((a.tmps.setIfInBounds 22 (.int .i64 x)).setIfInBounds 23 (getV X x)).setIfInBounds 7 (.int .i64 x)).setIfInBounds 8 (.pointer (some ⟨Bx, 0, none⟩)), defers := [] })
    (fun x Bx W => w.heap.size + 4 ≤ Bx ∧ ∃ r s t g, getV X x = dsV r s t g ∧ W.heap[Bx]? = some (.cells #[.int .i64 r, .int .i64 s, .int .i64 t, .bool g] 23 (0, 0))) ?ab
    ?assign ?body ?done (fun _ _ _ _ _ h _ => h.elim)
  case keep =>
    rintro pre W ⟨v, hM, _⟩
    exact ⟨X, hM.t, HG.out, fun _ _ _ => rfl, by rw [cell_of_block hM.b2]; rfl, by rw [cell_of_block hM.b3]; rfl⟩
  case own =>
    rintro pre A C row ⟨v, hM, hx⟩ hg hr
    exact ⟨v, hM.kept (by omega) hg hr, hx⟩
  case start => exact ⟨_, HOM.out, fun x hx => absurd hx (List.not_mem_nil)⟩
  case ab =>
    rintro x Bx s A C row ⟨h1, r, s', t, g, h2, h3⟩ hg hr
    exact ⟨h1, r, s', t, g, h2, blk_kept7 h3 hg (fun r e => (hr r e).2)⟩
  case assign =>
    rintro l pre x W K ⟨v, hM, hx⟩ hgw hK
    obtain ⟨r, s, t, g, hv⟩ := getV_dsv X (x : Int)
    have henc : encW X x = #[.int .i64 x, dsV r s t g] := by unfold encW; rw [hv]
    rw [hv] at hK
    rw [henc]
    simp only [List.setIfInBounds_toArray, List.set_cons_zero, List.set_cons_succ] at hK
    have bA := below_box0 W (.cells #[.int .i64 r, .int .i64 s, .int .i64 t, .bool g] 23)
    have hBx := heap_alloc_new W (.cells #[.int .i64 r, .int .i64 s, .int .i64 t, .bool g] 23)
    have hlt := blk_lt hM.b3
    gi_wp2
    exact hK _ _ ((KeepsOthers.alloc _ _).from _) ⟨v, hM.below bA, hx⟩ ⟨by have := hM.k.size; omega, r, s, t, g, rfl, hBx⟩
  case body =>
    rintro l pre x Bx W hl ⟨v, hM, hx⟩ ⟨hBx, r, s, t, g, hv, hB⟩ ⟨hpre, hfx, hx1, hwx⟩
    obtain ⟨s', t', g', hv'⟩ := getV_word HG.out.w hx1 hwx
    have hro : r = owI X x := by
      have := hv.symm.trans hv'
      simp [dsV] at this
      exact this.1
    have k0 : W.cell? ⟨Bx, 0, none⟩ = some (.int .i64 r) := by rw [cell_of_block hB]; rfl
    have k1 : W.cell? ⟨w.heap.size, 0, none⟩ = some (.int .i64 o) := by rw [cell_of_block hM.b0]; rfl
    have k2 : W.cell? ⟨w.heap.size + 1, 0, none⟩ = some v := by rw [cell_of_block hM.b1]; rfl
    have HM2 := Lib.hid hM
    have HXX := Lib.hid hx
    have HRO := Lib.hid hro
    have HLN : Hid ((owL X o pre).length ≤ 1024) := Lib.hid (by
      have h1 : (owL X o pre).length ≤ pre.length := List.length_filter_le _ _
      have h2 : pre.length ≤ x := by
        rw [hpre]
        exact Nat.le_trans (List.length_filter_le _ _) (by simp)
      omega)
    have lk := blk_lt hM.b1
    have lk3 := blk_lt hM.b3
    rw [hv]
    clear hM hx hB hv hv' hro hpre hfx hwx
    simp only [List.setIfInBounds_toArray, List.set_cons_zero, List.set_cons_succ]
    by_cases hr : r = o
    · have d3 : (r == o) = true := by simpa using hr
      have HE : Hid (owL X o (pre ++ [x]) = owL X o pre ++ [x]) := Lib.hid (by rw [owL_snoc, if_pos (by rw [← HRO.out]; exact hr)])
      have hlen : (owL X o pre).length ≤ 1024 := HLN.out
      have HHR := Lib.hid hr
      clear hr
      obtain ⟨kk, hkk⟩ : ∃ k, (owL X o pre).length = k := ⟨_, rfl⟩
      have HO := Lib.hid HM2.out.ow
      rw [hkk] at hlen HO
      have HKK := Lib.hid hkk
      clear hkk
      gi_wp2_with (gi_at_builtin; refine wpListIn_append_own _ rfl (.tmp 28) (.tmp 30) 52 rfl (w.heap.size + 4) 3 i0 (.int .i64 0) 1 8 Tryd.underlying52 hi0 hz0 hz1 hz2' rfl (by decide) _ _ _ rfl (HO.out.alloc _) ⟨W.heap.size, 0, none⟩ 1 1 [.int .i64 x] rfl rfl ?c1 ?c2 ?c3 ?c4 ?c5 ?_)
      case c1 => exact oneCell_at _ _ _
      case c2 => intro u hu; rw [List.mem_singleton.1 hu]; rfl
      case c3 => unfold maxLen; omega
      case c4 => omega
      case c5 => first | omega | (simp; omega)
      intro v' w3 hown hg _
      obtain ⟨va, vc, rfl⟩ := own_slice' hown
      have hrow : ∀ r, v.ownBlock = some r → w.heap.size + 4 ≤ r := fun r e => (HO.out.lt _ e).1
      have hne : ∀ b, b < w.heap.size + 4 → (some b : Option Nat) ≠ v.ownBlock := fun b hb e => by have := hrow _ e.symm; omega
      have bA := below_box0 W (.cells #[.int .i64 x] 3)
      have HAl : Hid (∀ b o, b < w.heap.size + 4 → W.heap[b]? = some o → w3.heap[b]? = some o) := Lib.hid (fun b o hb ho => (hg.block b (by have := blk_lt ho; simp; omega) (hne b hb)).trans ((Below.heap_alloc W _ b (blk_lt ho)).trans ho))
      have hbz3 := HAl.out _ _ (by omega) HM2.out.b1
      have d1 : w3.cell? ⟨w.heap.size + 1, 0, none⟩ = some v := by rw [cell_of_block hbz3]; rfl
      have d4 : w3.frozen? ⟨w.heap.size + 1, 0, none⟩ = false := unfrozen_of_block hbz3 0
      have HW := Lib.hid hown
      have HGr := Lib.hid hg
      have HB3 := Lib.hid hbz3
      have HROW := Lib.hid hrow
      have HBA := Lib.hid bA
      clear hown hg hne hbz3 hrow bA
      gi_wp2
      have hne' : (Value.slice va (kk + 1) vc).ownBlock ≠ some (⟨w.heap.size + 1, 0, none⟩ : Addr).block := fun e => by have := (HW.out.lt _ e).1; dsimp only at this; omega
      have hk' : Below w.heap.size w (w3.setCell ⟨w.heap.size + 1, 0, none⟩ (.slice va (kk + 1) vc)) := ((below_tr HM2.out.k HBA.out).grown HGr.out (by have := HM2.out.k.size; simp; omega) (fun r e => by have := HROW.out r e; omega)).setCell (by dsimp only; omega) _
      refine ⟨(((KeepsOthers.alloc W _).trans (KeepsOthers.of_grownBy HGr.out (fun j o hj ho => by obtain ⟨cs, rfl⟩ := own_cells (HO.out.alloc _) j o hj ho; rfl))).trans (KeepsOthers.setCell _ _ _)).from _, trivial, .slice va (kk + 1) vc, ?_, fun y hy => ?_⟩
      · refine ⟨H.out.below hk', ?_, (setCell_block HB3.out _).trans (by simp), ?_, ?_, ?_, hk'⟩
        · exact (Below.heap_setCell _ _ _ _ (show w.heap.size ≠ w.heap.size + 1 by omega)).trans (HAl.out _ _ (by omega) HM2.out.b0)
        · exact (Below.heap_setCell _ _ _ _ (show w.heap.size + 1 + 1 ≠ w.heap.size + 1 by omega)).trans (HAl.out _ _ (by omega) HM2.out.b2)
        · exact (Below.heap_setCell _ _ _ _ (show w.heap.size + 1 + 1 + 1 ≠ w.heap.size + 1 by omega)).trans (HAl.out _ _ (by omega) HM2.out.b3)
        · have := ownsRow_setCell_other HW.out hne' (.slice va (kk + 1) vc)
          rw [HE.out]
          unfold pgV
          rw [List.map_append, List.length_append, HKK.out]
          exact this
      · rw [List.mem_append, List.mem_singleton] at hy
        rcases hy with hy | rfl
        · exact HXX.out y hy
        · exact hx1
    · have d3 : (r == o) = false := by simpa using hr
      have HE : Hid (owL X o (pre ++ [x]) = owL X o pre) := Lib.hid (by rw [owL_snoc, if_neg (by rw [← HRO.out]; exact hr)])
      gi_wp2
      refine ⟨(KeepsOthers.refl _).from _, trivial, v, ?_, fun y hy => ?_⟩
      · have h := HM2.out
        exact ⟨h.t, h.b0, h.b1, h.b2, h.b3, by rw [HE.out]; exact h.ow, h.k⟩
      · rw [List.mem_append, List.mem_singleton] at hy
        rcases hy with hy | rfl
        · exact HXX.out y hy
        · exact hx1
  case done =>
    rintro D xs W hD hS2 ⟨v, hM, _⟩ hK
    have hS3 : xs = wL X 0 1024 := hS2
    subst hS3
    obtain ⟨va, vc, rfl⟩ := own_slice' hM.ow
    have k1 : W.cell? ⟨w.heap.size + 1, 0, none⟩ = some (.slice va (owL X o (wL X 0 1024)).length vc) := by rw [cell_of_block hM.b1]; rfl
    have HM2 := Lib.hid hM
    have HK := Lib.hid hK
    clear hM hK hS2
    gi_wp2
    refine ⟨by simp, .inl ⟨_, _, rfl, run_takeDeferred HK.out, ?_⟩⟩
    have hg := grownBy_putObj' W D (.deferred none)
    have hr : ∀ r, some D = some r → ∃ o : Obj, W.heap[r]? = some o ∧ o.isCells = false := fun r e => by cases e; exact ⟨_, HK.out, rfl⟩
    have hsz := HM2.out.k.size
    refine ⟨.tuple #[.slice va (owL X o (wL X 0 1024)).length vc, .int .i64 0], ?_, va, vc, rfl, own_stays7 (own_leW HM2.out.ow (by omega)) hg hr, HM2.out.k.grown hg hsz (fun r e => by cases e; omega)⟩
    simp [results, Tryd.results27, go_sem]
end
end Go.Proofs.YtfmclbacoffdaaaDoor
