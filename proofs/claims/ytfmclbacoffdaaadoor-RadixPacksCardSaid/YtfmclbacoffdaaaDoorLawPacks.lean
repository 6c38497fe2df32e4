/- The radix map: RadixPacks returns true. -/
import Derived.Test.YtfmclbacoffdaaaDoorR7Aw
namespace Go.Proofs.YtfmclbacoffdaaaDoor
open Go.RowKit Go.Sort Go.Joins
attribute [local go_sem] cell_grow frozen_grow size_grow
theorem eql_desc (o s t : Int) (g : Bool) (w : World) : Sem.run Tryd.prog (binOp .eql 23 (dsV o s t g) (dsV o s t g)) w = .ok (.bool true) w := by
  have u3 := Tryd.underlying3
  have u2 := Tryd.underlying2
  have u4 := Tryd.underlying4
  have hS : Tryd.prog.underlying 23 = some (.struct (Tryd.prog.fieldsOf 23)) := by kernel_rfl
  have hp : Tryd.prog.stoodInHeld 23 = false := by kernel_rfl
  rw [run_eql_struct, show (10000 : Nat) = 9999 + 1 from rfl, run_equalIn_agg w 9999 23 _ _ hS hp]
  simp only [Program.fieldsOf, Tryd.underlying23]
  go_simp
theorem neq_desc (o s t : Int) (g : Bool) (w : World) : Sem.run Tryd.prog (binOp .neq 23 (dsV o s t g) (dsV o s t g)) w = .ok (.bool false) w := by
  have u3 := Tryd.underlying3
  have u2 := Tryd.underlying2
  have u4 := Tryd.underlying4
  have hS : Tryd.prog.underlying 23 = some (.struct (Tryd.prog.fieldsOf 23)) := by kernel_rfl
  have hp : Tryd.prog.stoodInHeld 23 = false := by kernel_rfl
  rw [run_neq_struct, show (10000 : Nat) = 9999 + 1 from rfl, run_equalIn_agg w 9999 23 _ _ hS hp]
  simp only [Program.fieldsOf, Tryd.underlying23]
  go_simp
theorem guardD : Tryd.prog.eqGuardType Tryd.prog.depth 23 = false := by kernel_rfl
/-- a box that holds a description -/
abbrev BoxD (W : World) (b : Nat) (o s t : Int) (g : Bool) : Prop := W.heap[b]? = some (.cells #[.int .i64 o, .int .i64 s, .int .i64 t, .bool g] 23 (0, 0))
section
variable {W : World} {b : Nat} {o s t : Int} {g : Bool}
theorem BoxD.c0 (h : BoxD W b o s t g) : W.cell? ⟨b, 0, none⟩ = some (.int .i64 o) := by rw [cell_of_block h]; rfl
theorem BoxD.c1 (h : BoxD W b o s t g) : W.cell? ⟨b, 1, none⟩ = some (.int .i64 s) := by rw [cell_of_block h]; rfl
theorem BoxD.c2 (h : BoxD W b o s t g) : W.cell? ⟨b, 2, none⟩ = some (.int .i64 t) := by rw [cell_of_block h]; rfl
theorem BoxD.c3 (h : BoxD W b o s t g) : W.cell? ⟨b, 3, none⟩ = some (.bool g) := by rw [cell_of_block h]; rfl
theorem BoxD.below {W' : World} (h : BoxD W b o s t g) (hb : Below W.heap.size W W') : BoxD W' b o s t g := (hb.block _ (blk_lt h)).trans h
end
theorem unV_ds (x : Int) : ∃ o s t g, unV x = dsV o s t g := by
  unfold unV
  split
  · exact ⟨_, _, _, _, rfl⟩
  · exact ⟨_, _, _, _, rfl⟩
section
variable (o s t : Int) (g : Bool) (x : Int) (w : World)
set_option maxRecDepth 100000 in
set_option maxHeartbeats 6400000 in
theorem law_packs (h0 : 0 ≤ x) (hx : x < 18446744073709551616) (hT : Tab w) :
    Calls Tryd.prog 3 #[dsV o s t g, .int .u64 x] w fun e w' => e = .returned (.bool true) ∧ Below w.heap.size w w' := by
  have b0 := below_box0 w (.cells #[.int .i64 o, .int .i64 s, .int .i64 t, .bool g] 23)
  have HB0 := Lib.hid b0
  have HD0 : Hid (BoxD (w.alloc (.cells #[.int .i64 o, .int .i64 s, .int .i64 t, .bool g] 23)) w.heap.size o s t g) := Lib.hid (heap_alloc_new w _)
  have HT := Lib.hid hT
  have HP := Lib.hid (pack_ok o s t g)
  have HR := Lib.hid (rpack_ok o s t g)
  have HU := Lib.hid (unpack_ok x h0 hx)
  have HV := Lib.hid (runpack_ok x h0 hx)
  obtain ⟨uo, us, ut, ug, hu⟩ := unV_ds x
  obtain ⟨ue, hue⟩ : ∃ z, unE x = z := ⟨_, rfl⟩
  rw [hu, hue] at HU HV
  obtain ⟨pv, hpv⟩ : ∃ z, pkV o s t g = z := ⟨_, rfl⟩
  obtain ⟨pe, hpe⟩ : ∃ z, pkE o s t = z := ⟨_, rfl⟩
  rw [hpv, hpe] at HP HR
  have hw3 : pe = 0 → ∀ W, Calls Tryd.prog 15 #[.int .u64 pv] W fun e w' => e = .returned (.tuple #[dsV o s t g, .int .i64 0]) ∧ Below W.heap.size W w' := fun hz W => by
    rw [hz] at hpe
    obtain ⟨e1, e2, e3, e4, e5⟩ := un_pk (h := g) hpe
    have hb := pkW_bd (h := g) hpe
    have hpw : pv = pkW o s t g := by rw [← hpv, pkV_ok hpe]
    have := unpack_ok (pkW o s t g) (by omega) (by omega) W
    unfold unV at this
    rw [e5, if_pos rfl, e1, e2, e3, e4] at this
    rw [hpw]; exact this
  have HW3 := Lib.hid hw3
  have HNQ := Lib.hid (neq_desc uo us ut ug)
  have HEQ := Lib.hid (eql_desc o s t g)
  clear b0 hT h0 hx hu hue hpv hpe hw3
  go_enter Tryd.func3, Tryd.ntmps3
  go_wp2_with fail
  refine (HP.out _).mono ?_
  rintro e w1 ⟨rfl, b1⟩
  have HB1 := Lib.hid (below_tr HB0.out b1)
  have HD1 := Lib.hid (HD0.out.below b1)
  have d0 := HD1.out.c0
  have d1 := HD1.out.c1
  have d2 := HD1.out.c2
  have d3 := HD1.out.c3
  clear b1 HB0 HD0
  go_wp2_with fail
  refine (HR.out _).mono ?_
  clear d0 d1 d2 d3
  rintro e w2 ⟨rfl, b2⟩
  have HB2 := Lib.hid (below_tr HB1.out b2)
  have HD2 := Lib.hid (HD1.out.below b2)
  clear b2 HB1 HD1
  go_wp2_with fail
  refine (HU.out _).mono ?_
  rintro e w3 ⟨rfl, b3⟩
  have b4 := below_box0 w3 (.cells #[.int .i64 uo, .int .i64 us, .int .i64 ut, .bool ug] 23)
  have HB4 := Lib.hid (below_tr HB2.out (below_tr b3 b4))
  have HD4 := Lib.hid (HD2.out.below (below_tr b3 b4))
  have HE4 : Hid (BoxD (w3.alloc (.cells #[.int .i64 uo, .int .i64 us, .int .i64 ut, .bool ug] 23)) w3.heap.size uo us ut ug) := Lib.hid (heap_alloc_new w3 _)
  have HL4 := Lib.hid (Nat.lt_of_lt_of_le (blk_lt HD2.out) b3.size)
  clear b3 b4 HB2 HD2
  go_wp2_with fail
  obtain ⟨W4, hW4⟩ : ∃ W, w3.alloc (.cells #[.int .i64 uo, .int .i64 us, .int .i64 ut, .bool ug] 23) = W := ⟨_, rfl⟩
  rw [hW4] at HB4 HD4 HE4 ⊢
  obtain ⟨p, hp⟩ : ∃ z, w3.heap.size = z := ⟨_, rfl⟩
  rw [hp] at HE4 HL4 ⊢
  clear hW4 hp
  refine (HV.out _).mono ?_
  rintro e w5 ⟨rfl, b5⟩
  have b6 := below_box0 w5 (.cells #[.int .i64 uo, .int .i64 us, .int .i64 ut, .bool ug] 23)
  have HB6 := Lib.hid (below_tr HB4.out (below_tr b5 b6))
  have HD6 := Lib.hid (HD4.out.below (below_tr b5 b6))
  have HE6 := Lib.hid (HE4.out.below (below_tr b5 b6))
  have HE5 := Lib.hid (HE4.out.below b5)
  have e0 := HE5.out.c0
  have e1 := HE5.out.c1
  have e2 := HE5.out.c2
  have e3 := HE5.out.c3
  have lp := blk_lt HE5.out
  have hnq := HNQ.out
  have hgd := guardD
  have z1 : (pv != pv) = false := by simp
  have z2 : (pe != pe) = false := by simp
  have z3 : (ue != ue) = false := by simp
  clear b5 b6 HB4 HD4 HE4
  by_cases hz : pe = 0
  · have HW := Lib.hid (HW3.out hz)
    have z4 : (pe == 0) = true := by simpa using hz
    clear hz
    go_wp2_with fail
    refine (HW.out _).mono ?_
    clear e0 e1 e2 e3 lp hnq z1 z2 z3
    rintro e w7 ⟨rfl, b7⟩
    have HB7 := Lib.hid (below_tr HB6.out b7)
    have HD7 := Lib.hid (HD6.out.below b7)
    have HE7 := Lib.hid (HE6.out.below b7)
    have d0 := HD7.out.c0
    have d1 := HD7.out.c1
    have d2 := HD7.out.c2
    have d3 := HD7.out.c3
    have e0 := HE7.out.c0
    have e1 := HE7.out.c1
    have e2 := HE7.out.c2
    have e3 := HE7.out.c3
    have fe : ∀ j, w7.frozen? ⟨p, j, none⟩ = false := fun j => unfrozen_of_block HE7.out j
    have lp := blk_lt HE7.out
    have hpd := HL4.out
    have hpd1 : ¬ (w.heap.size = p) := by omega
    have hpd2 : ¬ (p = w.heap.size) := by omega
    have heq := HEQ.out
    have HB8 := Lib.hid ((((HB7.out.setCell (p := ⟨p, 0, none⟩) (Nat.le_of_lt hpd) (.int .i64 o)).setCell (p := ⟨p, 1, none⟩) (Nat.le_of_lt hpd) (.int .i64 s)).setCell (p := ⟨p, 2, none⟩) (Nat.le_of_lt hpd) (.int .i64 t)).setCell (p := ⟨p, 3, none⟩) (Nat.le_of_lt hpd) (.bool g))
    clear b7
    go_wp2_with fail
    refine (awake_ok _ (HT.out.below HB8.out)).mono ?_
    rintro e w9 ⟨rfl, b9⟩
    have HB9 := Lib.hid (below_tr HB8.out b9)
    clear b9
    go_wp2
    go_ret
    exact ⟨rfl, HB9.out⟩
  · have z4 : (pe == 0) = false := by simpa using hz
    clear hz
    go_wp2_with fail
    refine (awake_ok _ (HT.out.below HB6.out)).mono ?_
    rintro e w7 ⟨rfl, b7⟩
    have HB7 := Lib.hid (below_tr HB6.out b7)
    clear b7
    go_wp2
    go_ret
    exact ⟨rfl, HB7.out⟩
end
end Go.Proofs.YtfmclbacoffdaaaDoor
