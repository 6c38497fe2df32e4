/- Handles: the reference's Put, where a slot can give a handle. | Handles: the reference's All. | Handles: the reference's Load, a state in rows of its own. -/
import Derived.Test.YtpaecmpiokkdnaaDoorTypesZ21
import Derived.Test.YtpaecmpiokkdnaaDoorTypesZ20
namespace Go.Proofs.YtpaecmpiokkdnaaDoor
open Go.RowKit Go.Sort Go.Joins
attribute [local go_sem] cell_grow frozen_grow size_grow

theorem rdyF_yes {st : List Slt} {j : Nat} (h : rdyF st j = true) : j < st.length ∧ (st.getD j (0, false, undef)).2.1 = false ∧ (st.getD j (0, false, undef)).1 < 65535 := Int.rdyF_at h
theorem own_ne2 {w : World} {B n k0 k1 g0 g1 : Nat} {e0 e1 : TypeId} {xs ys : List Value} (h : w.ownsRow B e0 1 (.slice (some ⟨g0, 0, none⟩) n k0) n xs) (h' : w.ownsRow B e1 1 (.slice (some ⟨g1, 0, none⟩) n k1) n ys) (hne : e0 ≠ e1) : g0 ≠ g1 := fun e => by
  rcases h'.2 with ⟨h1, _⟩ | ⟨g', cap', cur, e1, _, e3, _⟩
  · cases h1
  · simp only [Value.slice.injEq, Option.some.injEq, Addr.mk.injEq, and_true, true_and] at e1
    obtain ⟨rfl, rfl⟩ := e1
    exact own_ne h e3 hne (by rw [e]; rfl)
theorem OA.ne01 {w : World} {B n k0 k1 g0 g1 : Nat} {f0 f1 f2 : Nat → Value} {r2 : Value} (h : OA w B n f0 f1 f2 (.slice (some ⟨g0, 0, none⟩) n k0) (.slice (some ⟨g1, 0, none⟩) n k1) r2) : g0 ≠ g1 := own_ne2 h.o0 h.o1 (by decide)
theorem OA.ne21 {w : World} {B n k0 k1 g0 g1 : Nat} {f0 f1 f2 : Nat → Value} {r0 : Value} (h : OA w B n f0 f1 f2 r0 (.slice (some ⟨g1, 0, none⟩) n k1) (.slice (some ⟨g0, 0, none⟩) n k0)) : g0 ≠ g1 := own_ne2 h.o2 h.o1 (by decide)
section
variable {st : List Slt} {ga aa va : Option Addr} {gc ac vc : Nat}
set_option maxRecDepth 100000 in
set_option maxHeartbeats 6400000 in
theorem rput_ok (v : Int) (i : Nat) (w : World) (hr : RA w st ga aa va) (hI : IV st) (hZ : DZ st) (h1 : 1 ≤ st.length) (hn : st.length ≤ 1024) (hg : ∀ j, j < st.length → (st.getD j (0, false, undef)).1 ≤ 65535) (hrd : rdyF st i = true) (hlo : ∀ j, j < i → rdyF st j = false) :
    Calls Tryd.prog 72 #[.agg #[.slice ga st.length gc, .slice aa st.length ac, .slice va st.length vc], .int .i64 v] w fun e w' => ∃ x, e = .returned (.tuple #[x, .int .i64 ((((st.getD i (0, false, undef)).1 : Int) + 1) * 65536 + i), .int .i64 0]) ∧
      ROA w' x (st.set i ((st.getD i (0, false, undef)).1 + 1, true, .int .i64 v)) ∧ Below w.heap.size w w' := by
  obtain ⟨hlt, hal, hg5⟩ := rdyF_yes hrd
  have bb := (below_box0 w (.cells #[.slice ga st.length gc, .slice aa st.length ac, .slice va st.length vc] 35)).trans ((below_box0 (w.alloc (.cells #[.slice ga st.length gc, .slice aa st.length ac, .slice va st.length vc] 35)) (.cells #[.slice none 0 0, .slice none 0 0, .slice none 0 0] 35)).mono (by simp))
  have HB := Lib.hid bb
  have HR := Lib.hid (hr.below bb)
  have HG := Lib.hid hg
  have HI := Lib.hid hI
  have HZ := Lib.hid hZ
  have HLO := Lib.hid hlo
  obtain ⟨old, hold⟩ := hI i hlt
  have hold' : vF st i = .int .i64 old := hold
  obtain ⟨g, hgg⟩ : ∃ g, (st.getD i (0, false, undef)).1 = g := ⟨_, rfl⟩
  rw [hgg] at hg5 ⊢
  have hgF : gF st i = (g : Int) := by unfold gF; rw [hgg]
  have haF : aF st i = false := hal
  obtain ⟨n, hnn⟩ : ∃ n, st.length = n := ⟨_, rfl⟩
  have HN := Lib.hid hnn
  have hcd := fun W (hr : RA W st ga aa va) => copy_st (gc := gc) (ac := ac) (vc := vc) W hr HI.out HZ.out h1 hn
  simp only [hnn] at hcd
  have HCD := Lib.hid hcd
  have h1' : 1 ≤ n := by omega
  have hl' : i < n := by omega
  have HL := Lib.hid hlt
  have HOV := Lib.hid hold'
  have HGF := Lib.hid hgF
  have HAF := Lib.hid haF
  have i0 : (0 : Int) ≤ (i : Int) := by omega
  have i1 : (i : Int) < (n : Int) := by omega
  have g0' : (0 : Int) ≤ (g : Int) := by omega
  have g1' : (g : Int) < 65535 := by omega
  clear bb hr hg hI hZ hlo hold hold' hgg hgF haF hcd hal hrd hlt
  rw [hnn] at HB HR hn ⊢
  clear hnn
  go_enter Tryd.func72, Tryd.ntmps72
  go_wp2
  go_loop [7] (fun x => ∃ j : Nat, j ≤ i ∧ x = .int .i64 j) (fun x => n - (intOf x).toNat)
  case atStart => exact ⟨0, Nat.zero_le _, rfl⟩
  case round =>
    obtain ⟨j, hj, rfl⟩ := hrel
    have hjl : j < n := by omega
    have hj' : j < st.length := by rw [HN.out]; exact hjl
    obtain ⟨b0, o0, h0, c0⟩ := HR.out.g.at_ hj'
    obtain ⟨b1, o1, h1, c1⟩ := HR.out.a.at_ hj'
    subst h0 h1
    dsimp only [zI, zB] at c0 c1
    have j0 : (0 : Int) ≤ (j : Int) := by omega
    have j1 : (j : Int) < (n : Int) := by omega
    have j2 : decide ((j : Int) < (n : Int)) = true := by simp; omega
    have j3 : decide (j < n) = true := by simpa using hjl
    by_cases hji : j < i
    · have hno := rdyF_no hj' (HLO.out j hji) (HG.out j hj')
      obtain ⟨⟨gj, al, vl⟩, hS⟩ : ∃ s, st.getD j (0, false, undef) = s := ⟨_, rfl⟩
      dsimp only [gF, aF] at c0 c1
      rw [hS] at c0 c1 hno
      dsimp only at c0 c1 hno
      clear hS
      cases al with
      | true =>
        clear hno
        go_wp2
        go_round
        case rel => exact ⟨j + 1, by omega, by go_num⟩
        case measure => simp [intOf]; omega
      | false =>
        have hg5' : gj = 65535 := by simpa using hno
        have q1 : ((gj : Int) == 65535) = true := by simp; omega
        clear hno hg5'
        go_wp2
        go_round
        case rel => exact ⟨j + 1, by omega, by go_num⟩
        case measure => simp [intOf]; omega
    · obtain rfl : i = j := by omega
      rw [HGF.out] at c0
      rw [HAF.out] at c1
      have q1 : ((g : Int) == 65535) = false := by simp; omega
      clear hji
      go_wp2_with fail
      refine (HCD.out _ HR.out).mono ?_
      rintro e w2 ⟨a0, q0, a1, q1', a2, q2, rfl, o2, b2⟩
      have hx1 : ((w.alloc (.cells #[.slice (some ⟨b0, o0, none⟩) n gc, .slice (some ⟨b1, o1, none⟩) n ac, .slice va n vc] 35)).alloc (.cells #[.slice none 0 0, .slice none 0 0, .slice none 0 0] 35)).heap[w.heap.size + 1]? = some (.cells #[.slice none 0 0, .slice none 0 0, .slice none 0 0] 35 (0, 0)) := by have := heap_alloc_new (w.alloc (.cells #[.slice (some ⟨b0, o0, none⟩) n gc, .slice (some ⟨b1, o1, none⟩) n ac, .slice va n vc] 35)) (.cells #[.slice none 0 0, .slice none 0 0, .slice none 0 0] 35); rwa [World.size_alloc] at this
      have HX2 := Lib.hid ((b2.block _ (by simp)).trans hx1)
      have HB2 := Lib.hid (HB.out.trans (b2.mono (by simp; omega)))
      obtain ⟨y0, hg0, hgB0, hgl0, hgz0, hgc0⟩ := o2.blk0 (by omega)
      obtain ⟨y1, hg1, hgB1, hgl1, hgz1, hgc1⟩ := o2.blk1 (by omega)
      obtain ⟨y2, hg2, hgB2, hgl2, hgz2, hgc2⟩ := o2.blk2 (by omega)
      subst hg0 hg1 hg2
      simp only [World.size_alloc] at hgB0 hgB1 hgB2
      have d0 := hgc0 i hl'
      have d1 := hgc1 i hl'
      have d2 := hgc2 i hl'
      dsimp only [zI, zB] at d0 d1 d2
      rw [HGF.out] at d0
      rw [HAF.out] at d1
      rw [HOV.out] at d2
      have z0 := hgz0 i
      have z1 := hgz1 i
      have z2 := hgz2 i
      have hs2 : w.heap.size + 1 < w2.heap.size := blk_lt HX2.out
      have n02 : y0 ≠ y2 := fun e => o2.n02 y0 rfl (by rw [e]; rfl)
      have n01 := o2.ne01
      have n12 := o2.ne21
      have HO2 := Lib.hid o2
      clear b2 o2 hgc0 hgc1 hgc2 hgz0 hgz1 hgz2 hx1 c0 c1
      go_wp2
      obtain ⟨W, hW⟩ : ∃ W, (w2.setCell ⟨y0, i, none⟩ (.int .i64 ((g : Int) + 1))).alloc (.cells #[.slice (some ⟨y0, 0, none⟩) n q0, .slice (some ⟨y1, 0, none⟩) n q1', .slice (some ⟨y2, 0, none⟩) n q2] 35) = W := ⟨_, rfl⟩
      have hbx : W.heap[w2.heap.size]? = some (.cells #[.slice (some ⟨y0, 0, none⟩) n q0, .slice (some ⟨y1, 0, none⟩) n q1', .slice (some ⟨y2, 0, none⟩) n q2] 35 (0, 0)) := by rw [← hW]; have := heap_alloc_new (w2.setCell ⟨y0, i, none⟩ (.int .i64 ((g : Int) + 1))) (.cells #[.slice (some ⟨y0, 0, none⟩) n q0, .slice (some ⟨y1, 0, none⟩) n q1', .slice (some ⟨y2, 0, none⟩) n q2] 35); rwa [World.size_setCell] at this
      have hbr : W.heap[w.heap.size + 1]? = some (.cells #[.slice none 0 0, .slice none 0 0, .slice none 0 0] 35 (0, 0)) := by rw [← hW, Below.heap_alloc _ _ _ (by rw [World.size_setCell]; omega), Below.heap_setCell _ _ _ _ (by dsimp only; omega)]; exact HX2.out
      have hkW : Below w.heap.size w W := by rw [← hW]; exact (HB2.out.setCell (p := ⟨y0, i, none⟩) (by dsimp only; omega) _).alloc (by rw [World.size_setCell]; exact HB2.out.size) _
      obtain ⟨B, hB⟩ : ∃ B, ((w.alloc (.cells #[.slice (some ⟨b0, o0, none⟩) n gc, .slice (some ⟨b1, o1, none⟩) n ac, .slice va n vc] 35)).alloc (.cells #[.slice none 0 0, .slice none 0 0, .slice none 0 0] 35)).heap.size + 2 = B := ⟨_, rfl⟩
      have hBw : w.heap.size + 1 < B := by rw [← hB]; simp
      have hoW : OA W B n (fun j => if j = i then Value.int .i64 ((g : Int) + 1) else zI (gF st) j) (zB (aF st)) (vF st) (.slice (some ⟨y0, 0, none⟩) n q0) (.slice (some ⟨y1, 0, none⟩) n q1') (.slice (some ⟨y2, 0, none⟩) n q2) := by rw [← hW, ← hB]; exact (HO2.out.set0 hl' _).below (below_box0 _ _)
      rw [hW]
      have hsW := blk_lt hbx
      have t0 : W.cell? ⟨w2.heap.size, 0, none⟩ = some (.slice (some ⟨y0, 0, none⟩) n q0) := by rw [cell_of_block hbx]; rfl
      have t1 : W.cell? ⟨w2.heap.size, 1, none⟩ = some (.slice (some ⟨y1, 0, none⟩) n q1') := by rw [cell_of_block hbx]; rfl
      have t2 : W.cell? ⟨w2.heap.size, 2, none⟩ = some (.slice (some ⟨y2, 0, none⟩) n q2) := by rw [cell_of_block hbx]; rfl
      obtain ⟨_, hq1, _, _, pz1, pc1⟩ := hoW.blk1 (by omega)
      obtain ⟨_, hq2, _, _, pz2, pc2⟩ := hoW.blk2 (by omega)
      cases hq1
      cases hq2
      have pz1 := pz1 i
      have pz2 := pz2 i
      have r1 := pc1 i hl'
      have r2 := pc2 i hl'
      dsimp only [zB] at r1
      rw [HAF.out] at r1
      rw [HOV.out] at r2
      have HBX := Lib.hid hbx
      have HBR := Lib.hid hbr
      have HKW := Lib.hid hkW
      have HOW := Lib.hid hoW
      clear hW hbx hbr hkW hoW hB pc1 pc2 d0 d1 d2 z0 z1 z2
      go_region
      go_wp2
      obtain ⟨W3, hW3⟩ : ∃ W3, ((W.setCell ⟨y1, i, none⟩ (.bool true)).setCell ⟨y2, i, none⟩ (.int .i64 v)).drew = W3 := ⟨_, rfl⟩
      have hbx3 : W3.heap[w2.heap.size]? = some (.cells #[.slice (some ⟨y0, 0, none⟩) n q0, .slice (some ⟨y1, 0, none⟩) n q1', .slice (some ⟨y2, 0, none⟩) n q2] 35 (0, 0)) := by
        rw [← hW3]
        exact (Below.heap_setCell _ _ _ _ (by dsimp only; omega)).trans ((Below.heap_setCell _ _ _ _ (by dsimp only; omega)).trans HBX.out)
      have hbr3 : W3.heap[w.heap.size + 1]? = some (.cells #[.slice none 0 0, .slice none 0 0, .slice none 0 0] 35 (0, 0)) := by
        rw [← hW3]
        exact (Below.heap_setCell _ _ _ _ (by dsimp only; omega)).trans ((Below.heap_setCell _ _ _ _ (by dsimp only; omega)).trans HBR.out)
      have hkW3 : Below w.heap.size w W3 := by rw [← hW3]; exact ((HKW.out.setCell (p := ⟨y1, i, none⟩) (by dsimp only; omega) _).setCell (p := ⟨y2, i, none⟩) (by dsimp only; omega) _).drew
      have hoW3 : OA W3 B n (fun j => if j = i then Value.int .i64 ((g : Int) + 1) else zI (gF st) j) (fun j => if j = i then Value.bool true else zB (aF st) j) (fun j => if j = i then Value.int .i64 v else vF st j) (.slice (some ⟨y0, 0, none⟩) n q0) (.slice (some ⟨y1, 0, none⟩) n q1') (.slice (some ⟨y2, 0, none⟩) n q2) := by rw [← hW3]; exact ((HOW.out.set1 hl' _).set2 hl' _).below (Below.refl _ _).drew
      rw [hW3]
      obtain ⟨_, hq0, _, _, pz0, pc0⟩ := hoW3.blk0 (by omega)
      cases hq0
      have r0 := pc0 i hl'
      rw [if_pos rfl] at r0
      have x0 : W3.cell? ⟨w2.heap.size, 0, none⟩ = some (.slice (some ⟨y0, 0, none⟩) n q0) := by rw [cell_of_block hbx3]; rfl
      have x1 : W3.cell? ⟨w2.heap.size, 1, none⟩ = some (.slice (some ⟨y1, 0, none⟩) n q1') := by rw [cell_of_block hbx3]; rfl
      have x2 : W3.cell? ⟨w2.heap.size, 2, none⟩ = some (.slice (some ⟨y2, 0, none⟩) n q2) := by rw [cell_of_block hbx3]; rfl
      have s0 : W3.cell? ⟨w.heap.size + 1, 0, none⟩ = some (.slice none 0 0) := by rw [cell_of_block hbr3]; rfl
      have s1 : W3.cell? ⟨w.heap.size + 1, 1, none⟩ = some (.slice none 0 0) := by rw [cell_of_block hbr3]; rfl
      have s2 : W3.cell? ⟨w.heap.size + 1, 2, none⟩ = some (.slice none 0 0) := by rw [cell_of_block hbr3]; rfl
      have sz : ∀ j, W3.frozen? ⟨w.heap.size + 1, j, none⟩ = false := fun j => unfrozen_of_block hbr3 j
      have HKW3 := Lib.hid hkW3
      have HOW3 := Lib.hid hoW3
      have wr1 : IntKind.i64.wrap (65536 * ((g : Int) + 1)) = 65536 * ((g : Int) + 1) := IntWalk.i64_in _ (by omega)
      have wr2 : IntKind.i64.wrap (65536 * ((g : Int) + 1) + (i : Int)) = 65536 * ((g : Int) + 1) + (i : Int) := IntWalk.i64_in _ (by omega)
      clear hW3 hbx3 hbr3 hkW3 hoW3 pc0 pz0 t0 t1 t2 r1 r2 pz1 pz2
      go_region
      go_wp2
      refine bodyPost_ret (v := .tuple #[.agg #[.slice (some ⟨y0, 0, none⟩) n q0, .slice (some ⟨y1, 0, none⟩) n q1', .slice (some ⟨y2, 0, none⟩) n q2], .int .i64 (65536 * ((g : Int) + 1) + i), .int .i64 0]) (by simp [results, Tryd.f72, go_sem, s0, s1, s2]) rfl ?_
      have hk := (((HKW3.out.setCell (p := ⟨w.heap.size + 1, 0, none⟩) (by dsimp only; omega) (.slice (some ⟨y0, 0, none⟩) n q0)).setCell (p := ⟨w.heap.size + 1, 1, none⟩) (by dsimp only; omega) (.slice (some ⟨y1, 0, none⟩) n q1')).setCell (p := ⟨w.heap.size + 1, 2, none⟩) (by dsimp only; omega) (.slice (some ⟨y2, 0, none⟩) n q2)).drew
      refine ⟨_, by rw [Int.mul_comm 65536 ((g : Int) + 1)], ?_, hk⟩
      have o6 := (((HOW3.out.low (k := w.heap.size + 1) (j := 0) hBw (.slice (some ⟨y0, 0, none⟩) n q0)).low (k := w.heap.size + 1) (j := 1) hBw (.slice (some ⟨y1, 0, none⟩) n q1')).low (k := w.heap.size + 1) (j := 2) hBw (.slice (some ⟨y2, 0, none⟩) n q2)).below (Below.refl _ _).drew
      obtain rfl := HN.out
      have hlt := HL.out
      refine OA.roa (by simp) (o6.congr (fun j hj => ?_) (fun j hj => ?_) (fun j hj => ?_))
      · unfold zI; rw [gF_set hlt]; by_cases e : j = i <;> simp [e]
      · unfold zB; rw [aF_set hlt]; by_cases e : j = i <;> simp [e]
      · rw [vF_set hlt]
end
end Go.Proofs.YtpaecmpiokkdnaaDoor

namespace Go.Proofs.YtpaecmpiokkdnaaDoor
open Go.RowKit Go.Sort Go.Joins
attribute [local go_sem] cell_grow frozen_grow size_grow

theorem hndL_yes {st : List Slt} {k : Nat} (h : (st.getD k (0, false, undef)).2.1 = true) : hndL st (alvL st (k + 1)) = hndL st (alvL st k) ++ [.int .i64 (hndI st k)] := by rw [alvL_yes h]; simp [hndL]
theorem hndL_no {st : List Slt} {k : Nat} (h : (st.getD k (0, false, undef)).2.1 = false) : hndL st (alvL st (k + 1)) = hndL st (alvL st k) := by rw [alvL_no h]
theorem alvL_le (st : List Slt) (k : Nat) : (alvL st k).length ≤ k := by
  unfold alvL
  exact Nat.le_trans (List.length_filter_le _ _) (by simp)
section
variable {st : List Slt} {ga aa va : Option Addr} {gc ac vc : Nat}
set_option maxRecDepth 100000 in
set_option maxHeartbeats 3200000 in
theorem rall_ok (w : World) (hr : RA w st ga aa va) (hn : st.length ≤ 1024) (hg : ∀ j, j < st.length → (st.getD j (0, false, undef)).1 ≤ 65535) :
    Calls Tryd.prog 50 #[.agg #[.slice ga st.length gc, .slice aa st.length ac, .slice va st.length vc]] w fun e w' => ∃ a k, e = .returned (.slice a (alvL st st.length).length k) ∧
      w'.ownsRow (w.heap.size + 1) 2 1 (.slice a (alvL st st.length).length k) (alvL st st.length).length (hndL st (alvL st st.length)) ∧ Below w.heap.size w w' := by
  obtain ⟨i0, hi, hz0, hz1, hz2⟩ := info_parts info_i64
  have bb := below_box0 w (.cells #[.slice ga st.length gc, .slice aa st.length ac, .slice va st.length vc] 35)
  have HB := Lib.hid bb
  have HR := Lib.hid (hr.below bb)
  have HG := Lib.hid hg
  obtain ⟨n, hnn⟩ : ∃ n, st.length = n := ⟨_, rfl⟩
  have HN := Lib.hid hnn
  have hbx := heap_alloc_new w (.cells #[.slice ga st.length gc, .slice aa st.length ac, .slice va st.length vc] 35)
  rw [hnn] at hn hbx HB HR ⊢
  have HBX := Lib.hid hbx
  clear bb hr hnn hg hbx
  go_enter Tryd.func50, Tryd.ntmps50
  go_wp2
  generalize hW0 : w.alloc (.cells #[.slice ga n gc, .slice aa n ac, .slice va n vc] 35) = W0
  rw [hW0] at HB HR HBX
  have HZ0 : Hid (W0.heap.size = w.heap.size + 1) := Lib.hid (by rw [← hW0]; simp)
  clear hW0
  go_loopw [3, 4] (fun s x wr => ∃ (k m : Nat) (a : Option Addr) (c : Nat), k ≤ n ∧ x = .int .i64 k ∧ s = .slice a m c ∧ Hid ((alvL st k).length = m) ∧ Hid (wr.ownsRow (w.heap.size + 1) 2 1 (.slice a m c) m (hndL st (alvL st k))) ∧ Hid (Below W0.heap.size W0 wr)) (fun _ x _ => n - (intOf x).toNat)
  case atStart => exact ⟨0, 0, none, 0, Nat.zero_le _, rfl, rfl, Lib.hid rfl, Lib.hid (World.ownsRow_nil _ _ _ _), Lib.hid (Below.refl _ _)⟩
  case round =>
    obtain ⟨k, m, a, c, hk, rfl, rfl, HM, HO, HK⟩ := hrel
    have hbx := (HK.out.block _ (blk_lt HBX.out)).trans HBX.out
    have x0 : wr.cell? ⟨w.heap.size, 0, none⟩ = some (.slice ga n gc) := by rw [cell_of_block hbx]; rfl
    have x1 : wr.cell? ⟨w.heap.size, 1, none⟩ = some (.slice aa n ac) := by rw [cell_of_block hbx]; rfl
    clear hbx
    by_cases hlt : k < n
    · have hr := HR.out.below HK.out
      obtain ⟨b0, o0, h0, c0⟩ := hr.g.at_ (j := k) (by have := HN.out; omega)
      obtain ⟨b1, o1, h1, c1⟩ := hr.a.at_ (j := k) (by have := HN.out; omega)
      subst h0 h1
      obtain ⟨⟨g, al, v⟩, hS⟩ : ∃ s, st.getD k (0, false, undef) = s := ⟨_, rfl⟩
      have hgb := HG.out k (by have := HN.out; omega)
      dsimp only [zI, zB, gF, aF] at c0 c1
      rw [hS] at c0 c1 hgb
      dsimp only at c0 c1 hgb
      have j0 : (0 : Int) ≤ (k : Int) := by omega
      have j1 : (k : Int) < (n : Int) := by omega
      have j2 : decide ((k : Int) < (n : Int)) = true := by simp; omega
      have j3 : decide (k < n) = true := by simpa using hlt
      have hm : m ≤ 1024 := by have := alvL_le st k; have := HM.out; omega
      have g0 : (0 : Int) ≤ (g : Int) := by omega
      have g1 : (g : Int) ≤ 65535 := by omega
      have HS := Lib.hid hS
      clear hr hS hgb
      cases al with
      | true =>
        have hh : 65536 * (g : Int) + (k : Int) = hndI st k := by unfold hndI; rw [HS.out]; dsimp only; omega
        have HH := Lib.hid hh
        clear hh
        go_wp2_with (at_builtin; refine wpList_append_own _ rfl (.tmp 17) (.tmp 26) 51 rfl (w.heap.size + 1) 2 i0 (.int .i64 0) 1 8 Tryd.underlying51 hi hz0 hz1 hz2 rfl (by decide) _ _ _ rfl (HO.out.alloc _) ⟨wr.heap.size, 0, none⟩ 1 1 [.int .i64 (65536 * (g : Int) + (k : Int))] rfl rfl ?c1 ?c2 ?c3 ?c4 ?c5 ?_)
        case c1 => exact World.news_of_block (heap_alloc_new wr _)
        case c2 => intro u hu; simp at hu; subst hu; rfl
        case c3 => unfold maxLen; omega
        case c4 => omega
        case c5 => have := HK.out.size; have := HZ0.out; simp; omega
        intro v' w1 hown hgrow _
        obtain ⟨a', c', rfl⟩ := own_slice hown
        have hk1 : Below W0.heap.size W0 w1 := (HK.out.alloc HK.out.size _).grown hgrow (by have := HK.out.size; simp; omega) (fun r e => by have := (HO.out.lt r e).1; have := HZ0.out; omega)
        have HO1 : Hid (w1.ownsRow (w.heap.size + 1) 2 1 (.slice a' (m + 1) c') (m + 1) (hndL st (alvL st (k + 1)))) := Lib.hid (by rw [hndL_yes (by rw [HS.out]), ← HH.out]; exact hown)
        have HK1 := Lib.hid hk1
        have HM1 : Hid ((alvL st (k + 1)).length = m + 1) := Lib.hid (by rw [alvL_yes (by rw [HS.out]), List.length_append, HM.out]; rfl)
        clear hown hgrow hk1
        go_wp2
        go_roundw
        case rel => exact ⟨k + 1, m + 1, a', c', by omega, by go_num, rfl, HM1, HO1, HK1⟩
        case measure => simp [intOf]; omega
      | false =>
        have HO1 : Hid (wr.ownsRow (w.heap.size + 1) 2 1 (.slice a m c) m (hndL st (alvL st (k + 1)))) := Lib.hid (by rw [hndL_no (by rw [HS.out])]; exact HO.out)
        have HM1 : Hid ((alvL st (k + 1)).length = m) := Lib.hid (by rw [alvL_no (by rw [HS.out])]; exact HM.out)
        go_wp2
        go_roundw
        case rel => exact ⟨k + 1, m, a, c, by omega, by go_num, rfl, HM1, HO1, HK⟩
        case measure => simp [intOf]; omega
    · have j2 : decide ((k : Int) < (n : Int)) = false := by simp; omega
      have j3 : decide (k < n) = false := by simpa using hlt
      obtain rfl : n = k := by omega
      go_wp2
      go_ret
      exact ⟨a, c, by rw [HM.out]; rfl, by rw [HM.out]; exact HO.out, HB.out.trans (HK.out.mono (by rw [HZ0.out]; omega))⟩
end
end Go.Proofs.YtpaecmpiokkdnaaDoor

namespace Go.Proofs.YtpaecmpiokkdnaaDoor
open Go.RowKit Go.Sort Go.Joins
attribute [local go_sem] cell_grow frozen_grow size_grow

theorem roa_stp {w : World} {B n : Nat} {G : Nat → Int} {A : Nat → Bool} {V : Nat → Value} {a0 a1 a2 : Option Addr} {k0 k1 k2 : Nat} (h : OA w B n (zI G) (zB A) (cV A V) (.slice a0 n k0) (.slice a1 n k1) (.slice a2 n k2)) (hb : ∀ j, j < n → badS G A j = false) :
    ROA w (.agg #[.slice a0 n k0, .slice a1 n k1, .slice a2 n k2]) (stP n G A V (.int .i64 0) n) := by
  refine OA.roa stP_length (h.congr (fun j hj => ?_) (fun j hj => ?_) (fun j hj => ?_))
  · unfold zI gF
    rw [stP_get hj, if_pos hj]
    have := (badS_ok (hb j hj)).1
    simp only
    rw [Int.toNat_of_nonneg this]
  · unfold zB aF
    rw [stP_get hj, if_pos hj]
  · unfold cV vF
    rw [stP_get hj, if_pos hj]
section
variable {n na nv : Nat} {ga aa va : Option Addr} {gc ac vc : Nat} {G : Nat → Int} {A : Nat → Bool} {V : Nat → Value}
set_option maxRecDepth 100000 in
set_option maxHeartbeats 1600000 in
theorem rload_roa (w : World) (hG : SlF w ga n (zI G)) (hA : SlF w aa na (zB A)) (hV : SlF w va nv V) (hVf : ∀ j, ∃ x : Int, V j = .int .i64 x) (he : hcE n na nv G A = 0) :
    Calls Tryd.prog 19 #[.agg #[.slice ga n gc, .slice aa na ac, .slice va nv vc]] w fun e w' => ∃ x, e = .returned (.tuple #[x, .int .i64 0]) ∧ ROA w' x (stP n G A V (.int .i64 0) n) ∧ Below w.heap.size w w' := by
  obtain ⟨h1, h2, rfl, rfl, hbad⟩ := hcE_zero he
  have hb0 := (below_box0 w (.cells #[.slice ga nv gc, .slice aa nv ac, .slice va nv vc] 35)).trans ((below_box0 (w.alloc (.cells #[.slice ga nv gc, .slice aa nv ac, .slice va nv vc] 35)) (.cells #[.slice none 0 0, .slice none 0 0, .slice none 0 0] 35)).mono (by simp))
  have HB := Lib.hid hb0
  have HG := Lib.hid (hG.below hb0)
  have HA := Lib.hid (hA.below hb0)
  have HV := Lib.hid (hV.below hb0)
  have HE := Lib.hid he
  have HBad := Lib.hid hbad
  clear hb0 he hG hA hV hbad
  go_enter Tryd.func19, Tryd.ntmps19
  go_wp2_with fail
  refine (rcheck_ok _ HG.out HA.out).mono ?_
  rintro e w1 ⟨rfl, b1⟩
  rw [HE.out]
  have HB1 := Lib.hid (HB.out.trans (b1.mono (by simp; omega)))
  have k0 : w1.cell? ⟨w.heap.size, 0, none⟩ = some (.slice ga nv gc) := (b1.cell (p := ⟨w.heap.size, 0, none⟩) (by simp; omega)).trans (by simp [go_sem])
  have k1 : w1.cell? ⟨w.heap.size, 1, none⟩ = some (.slice aa nv ac) := (b1.cell (p := ⟨w.heap.size, 1, none⟩) (by simp; omega)).trans (by simp [go_sem])
  have k2 : w1.cell? ⟨w.heap.size, 2, none⟩ = some (.slice va nv vc) := (b1.cell (p := ⟨w.heap.size, 2, none⟩) (by simp; omega)).trans (by simp [go_sem])
  have q0 : w1.cell? ⟨w.heap.size + 1, 0, none⟩ = some (.slice none 0 0) := (b1.cell (p := ⟨w.heap.size + 1, 0, none⟩) (by simp)).trans (by simp [go_sem])
  have q1 : w1.cell? ⟨w.heap.size + 1, 1, none⟩ = some (.slice none 0 0) := (b1.cell (p := ⟨w.heap.size + 1, 1, none⟩) (by simp)).trans (by simp [go_sem])
  have q2 : w1.cell? ⟨w.heap.size + 1, 2, none⟩ = some (.slice none 0 0) := (b1.cell (p := ⟨w.heap.size + 1, 2, none⟩) (by simp)).trans (by simp [go_sem])
  have qz : ∀ j, w1.frozen? ⟨w.heap.size + 1, j, none⟩ = false := fun j => (b1.frozen (p := ⟨w.heap.size + 1, j, none⟩) (by simp)).trans (by simp [go_sem])
  have hsz : w.heap.size + 2 ≤ w1.heap.size := by have := b1.size; simp at this; omega
  have HG1 := Lib.hid (HG.out.below b1)
  have HA1 := Lib.hid (HA.out.below b1)
  have HV1 := Lib.hid (HV.out.below b1)
  clear b1
  go_wp2_with fail
  refine (copy_ok _ HG1.out HA1.out HV1.out hVf h1 h2).mono ?_
  rintro e w2 ⟨a0, l0, a1, l1, a2, l2, rfl, oa, b2⟩
  have s0 := (b2.cell (p := ⟨w.heap.size + 1, 0, none⟩) (by dsimp only; omega)).trans q0
  have s1 := (b2.cell (p := ⟨w.heap.size + 1, 1, none⟩) (by dsimp only; omega)).trans q1
  have s2 := (b2.cell (p := ⟨w.heap.size + 1, 2, none⟩) (by dsimp only; omega)).trans q2
  have sz : ∀ j, w2.frozen? ⟨w.heap.size + 1, j, none⟩ = false := fun j => (b2.frozen (p := ⟨w.heap.size + 1, j, none⟩) (by dsimp only; omega)).trans (qz j)
  have HO := Lib.hid oa
  have HB2 := Lib.hid (HB1.out.trans (b2.mono (by omega)))
  clear oa b2
  go_wp2
  refine bodyPost_ret (v := .tuple #[.agg #[.slice a0 nv l0, .slice a1 nv l1, .slice a2 nv l2], .int .i64 0]) (by simp [results, Tryd.f19, go_sem, s0, s1, s2]) rfl ?_
  have ho := HO.out
  have hlt3 : ∀ j : Nat, (⟨w.heap.size + 1, j, none⟩ : Addr).block < w1.heap.size + 2 := fun j => by dsimp only; omega
  exact ⟨_, rfl, roa_stp ⟨ownsRow_setCell_below (ownsRow_setCell_below (ownsRow_setCell_below ho.o0 (hlt3 0) _) (hlt3 1) _) (hlt3 2) _, ownsRow_setCell_below (ownsRow_setCell_below (ownsRow_setCell_below ho.o1 (hlt3 0) _) (hlt3 1) _) (hlt3 2) _, ownsRow_setCell_below (ownsRow_setCell_below (ownsRow_setCell_below ho.o2 (hlt3 0) _) (hlt3 1) _) (hlt3 2) _, ho.n02⟩ HBad.out,
    ((HB2.out.setCell (p := ⟨w.heap.size + 1, 0, none⟩) (by dsimp only; omega) _).setCell (p := ⟨w.heap.size + 1, 1, none⟩) (by dsimp only; omega) _).setCell (p := ⟨w.heap.size + 1, 2, none⟩) (by dsimp only; omega) _⟩
end
end Go.Proofs.YtpaecmpiokkdnaaDoor
