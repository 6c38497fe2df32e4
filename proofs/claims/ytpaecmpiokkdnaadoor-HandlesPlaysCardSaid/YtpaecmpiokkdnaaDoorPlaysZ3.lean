/- Handles: HandlesPlays: what its walk uses. | Handles: HandlesPlays returns true. | The frame of a statement of this seat: the table of math/bits as the row lists it. | The arguments of types HnState[int] and []bool, as a row hands them. | Slices of structs whose fields are one cell each, as a row hands them. | The argument of type []Call, as a row hands it. | HandlesPlays returns true for every input, on every schedule; its arguments read afterwards as they read before. No condition beyond the row's own. -/
import Derived.Test.YtpaecmpiokkdnaaDoorPlaysZ2
import Derived.Deep.RegionHeld3
import Derived.RegionTactic
import Derived.Test.YtpaecmpiokkdnaaDoorCards
import Derived.Test.YtpaecmpiokkdnaaDoorTie
import Derived.Test.YtpaecmpiokkdnaaDoorOnceZ1
import Derived.ProofKit
import Derived.OpenShut
import Derived.Deep.DeepHandedRow
import Derived.Lib.LaidTab
import Derived.Test.YtpaecmpiokkdnaaDoorOnceZ2
import Derived.Lib.SmallJoins
import Derived.Deep.Grids
import Derived.Deep.Slices
import Derived.Deep.Fields
import Derived.ChangeSame
import Derived.Test.YtpaecmpiokkdnaaDoorOnceZ4
namespace Go.Proofs.YtpaecmpiokkdnaaDoor
open Go.RowKit Go.Sort Go.Joins Go.Shelf
attribute [local go_sem] cell_grow frozen_grow size_grow

/-- a box of a state is stored anew -/
theorem set3 {W : World} {B p q n S : Nat} {st su : List Slt} {a0 a1 a2 : Option Addr} {k0 k1 k2 : Nat} {u0 u1 u2 : Value} (ht : Int.TT W B p q st) (ho : OS W n su a0 k0 a1 k1 a2 k2) (hT : Tab W) (hb : W.heap[S]? = some (.cells #[u0, u1, u2] 35 (0, 0))) (hp : p ≠ S) (hq : q ≠ S) (hs : 0 ≠ S) (x y z : Value) :
    Int.TT (((W.setCell ⟨S, 0, none⟩ x).setCell ⟨S, 1, none⟩ y).setCell ⟨S, 2, none⟩ z) B p q st ∧ OS (((W.setCell ⟨S, 0, none⟩ x).setCell ⟨S, 1, none⟩ y).setCell ⟨S, 2, none⟩ z) n su a0 k0 a1 k1 a2 k2 ∧
      Tab (((W.setCell ⟨S, 0, none⟩ x).setCell ⟨S, 1, none⟩ y).setCell ⟨S, 2, none⟩ z) ∧ (((W.setCell ⟨S, 0, none⟩ x).setCell ⟨S, 1, none⟩ y).setCell ⟨S, 2, none⟩ z).heap[S]? = some (.cells #[x, y, z] 35 (0, 0)) := by
  have hb1 : (W.setCell ⟨S, 0, none⟩ x).heap[S]? = some (.cells #[x, u1, u2] 35 (0, 0)) := by rw [setCell_block hb]; rfl
  have hb2 : ((W.setCell ⟨S, 0, none⟩ x).setCell ⟨S, 1, none⟩ y).heap[S]? = some (.cells #[x, y, u2] 35 (0, 0)) := by rw [setCell_block hb1]; rfl
  have keep : ∀ {bs : Nat} {e : TypeId} {v : Value} {m : Nat} {xs : List Value}, W.ownsRow bs e 1 v m xs → e ≠ 35 → (((W.setCell ⟨S, 0, none⟩ x).setCell ⟨S, 1, none⟩ y).setCell ⟨S, 2, none⟩ z).ownsRow bs e 1 v m xs := fun ho hne =>
    ownsRow_setCell_other (ownsRow_setCell_other (ownsRow_setCell_other ho (a := ⟨S, 0, none⟩) (own_ne ho hb hne) _) (a := ⟨S, 1, none⟩) (own_ne ho hb hne) _) (a := ⟨S, 2, none⟩) (own_ne ho hb hne) _
  exact ⟨Tb.set_other (Tb.set_other (Tb.set_other ht hb (by decide) hp hq _) hb1 (by decide) hp hq _) hb2 (by decide) hp hq _, ⟨keep ho.o0 (by decide), keep ho.o1 (by decide), keep ho.o2 (by decide), ho.n02⟩, ((hT.blk hs _).blk hs _).blk hs _, by rw [setCell_block hb2]; rfl⟩
theorem os_set3 {W : World} {n S : Nat} {su : List Slt} {a0 a1 a2 : Option Addr} {k0 k1 k2 : Nat} {u0 u1 u2 : Value} (ho : OS W n su a0 k0 a1 k1 a2 k2) (hb : W.heap[S]? = some (.cells #[u0, u1, u2] 35 (0, 0))) (x y z : Value) : OS (((W.setCell ⟨S, 0, none⟩ x).setCell ⟨S, 1, none⟩ y).setCell ⟨S, 2, none⟩ z) n su a0 k0 a1 k1 a2 k2 := by
  have keep : ∀ {bs : Nat} {e : TypeId} {v : Value} {m : Nat} {xs : List Value}, W.ownsRow bs e 1 v m xs → e ≠ 35 → (((W.setCell ⟨S, 0, none⟩ x).setCell ⟨S, 1, none⟩ y).setCell ⟨S, 2, none⟩ z).ownsRow bs e 1 v m xs := fun ho hne =>
    ownsRow_setCell_other (ownsRow_setCell_other (ownsRow_setCell_other ho (a := ⟨S, 0, none⟩) (own_ne ho hb hne) _) (a := ⟨S, 1, none⟩) (own_ne ho hb hne) _) (a := ⟨S, 2, none⟩) (own_ne ho hb hne) _
  exact ⟨keep ho.o0 (by decide), keep ho.o1 (by decide), keep ho.o2 (by decide), ho.n02⟩
/-- New, whatever it answers -/
theorem pnew_any (N : Int) (w : World) : Calls Tryd.prog 13 #[.int .i64 N] w fun e w' => ∃ pv ev, e = .returned (.tuple #[.pointer pv, .int .i64 ev]) ∧ Below w.heap.size w w' := by
  by_cases h : N < 1 ∨ 1024 < N
  · refine (Int.new_bad N w h).mono ?_
    rintro e w' ⟨rfl, rfl⟩
    exact ⟨_, _, rfl, Below.refl _ _⟩
  · obtain ⟨k, rfl⟩ := Int.eq_ofNat_of_zero_le (show 0 ≤ N by omega)
    refine (Int.tnew_ok k w (by omega) (by omega)).mono ?_
    rintro e w' ⟨rfl, _, hb⟩
    exact ⟨_, _, rfl, hb⟩
theorem prnew_any (N : Int) (w : World) : Calls Tryd.prog 46 #[.int .i64 N] w fun e w' => ∃ x0 y0 z0 x1 y1 z1 x2 y2 z2 ev, e = .returned (.tuple #[.agg #[.slice x0 y0 z0, .slice x1 y1 z1, .slice x2 y2 z2], .int .i64 ev]) ∧ Below w.heap.size w w' := by
  by_cases h : N < 1 ∨ 1024 < N
  · refine (rnew_err N w h).mono ?_
    rintro e w' ⟨rfl, hb⟩
    exact ⟨_, _, _, _, _, _, _, _, _, _, rfl, hb⟩
  · obtain ⟨k, rfl⟩ := Int.eq_ofNat_of_zero_le (show 0 ≤ N by omega)
    refine (rnew_ok k w (by omega) (by omega)).mono ?_
    rintro e w' ⟨x, rfl, hr, hb⟩
    obtain ⟨_, a0, k0, a1, k1, a2, k2, rfl, _⟩ := hr
    exact ⟨_, _, _, _, _, _, _, _, _, _, rfl, hb⟩
theorem field0 (w : World) : (Instr.field 35 (.agg #[.slice none 0 0, .slice none 0 0, .slice none 0 0]) 0).run Tryd.prog w = .ok (.slice none 0 0) w := by kernel_rfl
theorem PS.new (n : Nat) : PS n (List.replicate n (0, false, .int .i64 0)) := by
  have hg : ∀ j, j < (List.replicate n ((0, false, .int .i64 0) : Slt)).length → (List.replicate n ((0, false, .int .i64 0) : Slt)).getD j (0, false, undef) = (0, false, .int .i64 0) := fun j hj => by
    rw [List.length_replicate] at hj
    simp [List.getD_eq_getElem?_getD, hj]
  refine ⟨List.length_replicate, fun j hj => by rw [hg j hj]; exact Nat.zero_le _, fun j hj h => ?_, fun j hj => ⟨0, ?_⟩, fun j hj _ => ?_⟩
  · rw [hg j hj] at h; cases h
  · unfold sAt; rw [hg j hj]
  · unfold sAt; rw [hg j hj]
theorem PS.load {n : Nat} {G : Nat → Int} {A : Nat → Bool} {V : Nat → Int} (hb : ∀ j, j < n → badS G A j = false) : PS n (stP n G A (zI V) (.int .i64 0) n) := by
  have hg : ∀ j, j < (stP n G A (zI V) (.int .i64 0) n).length → (stP n G A (zI V) (.int .i64 0) n).getD j (0, false, undef) = ((G j).toNat, A j, if A j then .int .i64 (V j) else .int .i64 0) ∧ j < n := fun j hj => by
    rw [stP_length] at hj
    exact ⟨by rw [stP_get hj, if_pos hj], hj⟩
  refine ⟨stP_length, fun j hj => ?_, fun j hj h => ?_, fun j hj => ?_, fun j hj h => ?_⟩
  · obtain ⟨e, hn⟩ := hg j hj
    obtain ⟨b1, b2, b3⟩ := badS_ok (hb j hn)
    rw [e]; dsimp only; omega
  · obtain ⟨e, hn⟩ := hg j hj
    obtain ⟨b1, b2, b3⟩ := badS_ok (hb j hn)
    rw [e] at h ⊢
    have := b3 h
    dsimp only; omega
  · obtain ⟨e, hn⟩ := hg j hj
    unfold sAt; rw [e]
    cases A j
    · exact ⟨0, rfl⟩
    · exact ⟨V j, rfl⟩
  · obtain ⟨e, hn⟩ := hg j hj
    unfold sAt at h ⊢; rw [e] at h ⊢
    dsimp only at h ⊢
    rw [h]; rfl
theorem pall (W : World) {n : Nat} {st : List Slt} {a0 a1 a2 : Option Addr} {k0 k1 k2 : Nat} (hp : PS n st) (ho : OS W n st a0 k0 a1 k1 a2 k2) (hn : n ≤ 1024) :
    Calls Tryd.prog 50 #[.agg #[.slice a0 n k0, .slice a1 n k1, .slice a2 n k2]] W fun e w' => ∃ a k, e = .returned (.slice a (alvL st st.length).length k) ∧ SlF w' a (alvL st st.length).length (zI fun j => hndI st ((alvL st st.length).getD j 0)) ∧ Below W.heap.size W w' := by
  obtain rfl := hp.len
  refine (rall_ok W (ho.ra rfl) hn hp.gb).mono ?_
  rintro e w' ⟨a, k, rfl, ho', hb⟩
  exact ⟨a, k, rfl, SlF.of_own ho' (fun j hj => by simp [hndL, List.getElem?_map, List.getElem?_eq_getElem hj]), hb⟩
theorem SlCB.of {w W : World} {a : Option Addr} {n : Nat} {C : Nat → Cll} (h : SlC w a n C) (hb : Below w.heap.size w W) : SlCB W w.heap.size a n C := by
  rcases h with h | ⟨b, o, ha, hc⟩
  · exact .inl h
  · by_cases hn : n = 0
    · exact .inl hn
    · have hl := World.block_lt_of_cell? _ _ (hc 0 (by omega)).1
      dsimp only at hl
      refine .inr ⟨b, o, ha, hl, fun j hj => ?_⟩
      obtain ⟨h0, h1, h2, h3⟩ := hc j hj
      exact ⟨(hb.cell (p := ⟨b, o + j * 4, none⟩) hl).trans h0, (hb.cell (p := ⟨b, o + j * 4 + 1, none⟩) hl).trans h1, (hb.cell (p := ⟨b, o + j * 4 + 2, none⟩) hl).trans h2, (hb.cell (p := ⟨b, o + j * 4 + 3, none⟩) hl).trans h3⟩
end Go.Proofs.YtpaecmpiokkdnaaDoor

namespace Go.Proofs.YtpaecmpiokkdnaaDoor
open Go.RowKit Go.Sort Go.Joins
attribute [local go_sem] cell_grow frozen_grow size_grow

section
variable {n na nv m : Nat} {ga aa va ca : Option Addr} {gc ac vc cc : Nat} {G : Nat → Int} {A : Nat → Bool} {V : Nat → Int} {C : Nat → Cll}
set_option maxRecDepth 100000 in
set_option maxHeartbeats 12800000 in
/-- no state is given: a new table -/
theorem plays_new (N0 : Nat) (w : World) (hn : N0 ≤ 60) (h1 : 1 ≤ N0) (hC : SlC w ca m C) (hm : m ≤ 60) (hcb : ∀ j, j < m → (C j).1 ≤ 255 ∧ (C j).2.2.1 ≤ 255) (hT : Tab w) :
    Calls Tryd.prog 10 #[.int .i64 N0, .agg #[.slice ga 0 gc, .slice aa na ac, .slice va nv vc], .slice ca m cc] w fun e w' => e = .returned (.bool true) ∧ Below w.heap.size w w' := by
  obtain ⟨n, rfl⟩ : ∃ n, n = N0 := ⟨_, rfl⟩
  have bb := below_box0 w (.cells #[.slice ga 0 gc, .slice aa na ac, .slice va nv vc] 35)
  have hbx := heap_alloc_new w (.cells #[.slice ga 0 gc, .slice aa na ac, .slice va nv vc] 35)
  have HB := Lib.hid bb
  have HBX := Lib.hid hbx
  have HT := Lib.hid (hT.below bb)
  have HTl := Lib.hid hT.lt
  have HCt : Hid (∀ W, Below w.heap.size w W → SlCB W w.heap.size ca m C) := Lib.hid (fun W hb => SlCB.of hC hb)
  have HCB := Lib.hid hcb
  have d1 : decide ((60 : Int) < (n : Int)) = false := by simp; omega
  have d2 : decide (60 < n) = false := by simp; omega
  have d3 : decide ((60 : Int) < (m : Int)) = false := by simp; omega
  have d4 : decide (60 < m) = false := by simp; omega
  have hl := HTl.out
  clear bb hbx hT hC hcb
  go_enter Tryd.func10, Tryd.ntmps10
  go_wp2_with fail
  refine (Int.tnew_ok n _ h1 (by omega)).mono ?_
  rintro e w1 ⟨rfl, t1, b1⟩
  simp only [World.size_alloc] at t1
  have T1 := Lib.hid (Tg.base t1 (Nat.le_succ _))
  have K1 := Lib.hid (HB.out.trans (b1.mono (by simp)))
  have X1 := Lib.hid (HT.out.below b1)
  have BX1 := Lib.hid ((b1.block _ (by simp)).trans HBX.out)
  have hpl := World.block_lt_of_cell? _ _ (Tb.c0 t1)
  have hql := blk_lt (Tb.slots t1)
  dsimp only at hpl
  clear t1 b1
  go_wp2_with fail
  refine (rnew_ok n _ h1 (by omega)).mono ?_
  rintro e w2 ⟨x, rfl, hr, b2⟩
  obtain ⟨a0, k0, a1, k1, a2, k2, rfl, ho⟩ := hr.os (n := n) List.length_replicate
  have hb3 := below_box0 w2 (.cells #[.slice a0 n k0, .slice a1 n k1, .slice a2 n k2] 35)
  have TT := Lib.hid (Tg.below (Tg.below T1.out b2) hb3)
  have OO := Lib.hid (ho.below hb3)
  have PP := Lib.hid (PS.new n)
  have KK := Lib.hid ((K1.out.trans (b2.mono K1.out.size)).trans (hb3.mono (by have := K1.out.size; have := b2.size; omega)))
  have XX := Lib.hid ((X1.out.below b2).below hb3)
  have BX := Lib.hid (heap_alloc_new w2 (.cells #[.slice a0 n k0, .slice a1 n k1, .slice a2 n k2] 35))
  have bx2 := (b2.block _ (blk_lt BX1.out)).trans BX1.out
  have g20 : w2.cell? ⟨w.heap.size, 0, none⟩ = some (.slice ga 0 gc) := by rw [cell_of_block bx2]; rfl
  have g2l := blk_lt bx2
  have hsz2 := b2.size
  have hS9 := KK.out.size
  clear T1 K1 X1 BX1 b2 bx2 hr ho hb3
  go_wp2_with fail
  obtain ⟨Wt, hWt⟩ : ∃ W, w2.alloc (.cells #[.slice a0 n k0, .slice a1 n k1, .slice a2 n k2] 35) = W := ⟨_, rfl⟩
  rw [hWt] at TT OO KK XX BX hS9 ⊢
  clear hWt g20
  refine (play_ok Wt TT.out OO.out PP.out hn (HCt.out Wt KK.out) hm HCB.out XX.out HTl.out).mono ?_
  rintro e w6 ⟨b0, l0, b1, l1, b2, l2, st', rfl, t6, o6, ps6, f6, x6⟩
  have bx6 := (f6.block _ (blk_lt BX.out) (by omega) (by omega)).trans BX.out
  have hs3 := set3 t6 o6 x6 bx6 (by omega) (by omega) (by omega) (.slice b0 n l0) (.slice b1 n l1) (.slice b2 n l2)
  have k6 : Below w.heap.size w (((w6.setCell ⟨w2.heap.size, 0, none⟩ (.slice b0 n l0)).setCell ⟨w2.heap.size, 1, none⟩ (.slice b1 n l1)).setCell ⟨w2.heap.size, 2, none⟩ (.slice b2 n l2)) := (((Fr.below KK.out f6 (by omega) (by omega) KK.out.size).setCell (p := ⟨w2.heap.size, 0, none⟩) (by dsimp only; omega) _).setCell (p := ⟨w2.heap.size, 1, none⟩) (by dsimp only; omega) _).setCell (p := ⟨w2.heap.size, 2, none⟩) (by dsimp only; omega) _
  have z0 : w6.cell? ⟨w2.heap.size, 0, none⟩ = some (.slice a0 n k0) := by rw [cell_of_block bx6]; rfl
  have z1 : w6.cell? ⟨w2.heap.size, 1, none⟩ = some (.slice a1 n k1) := by rw [cell_of_block bx6]; rfl
  have z2 : w6.cell? ⟨w2.heap.size, 2, none⟩ = some (.slice a2 n k2) := by rw [cell_of_block bx6]; rfl
  have zz : ∀ j, w6.frozen? ⟨w2.heap.size, j, none⟩ = false := fun j => unfrozen_of_block bx6 j
  have T7 := Lib.hid hs3.1
  have O7 := Lib.hid hs3.2.1
  have X7 := Lib.hid hs3.2.2.1
  have B7 := Lib.hid hs3.2.2.2
  have K7 := Lib.hid k6
  have P7 := Lib.hid ps6
  clear t6 o6 x6 bx6 hs3 k6 ps6 f6
  go_wp2_with fail
  refine (walked_ok _ T7.out P7.out.gb P7.out.iv).mono ?_
  rintro e w8 ⟨ra, rk, rb, rl, rfl, oa8, ob8, bb8⟩
  have T8 := Lib.hid (Tg.below T7.out bb8)
  have O8 := Lib.hid (O7.out.below bb8)
  have X8 := Lib.hid (X7.out.below bb8)
  have B8 := Lib.hid ((bb8.block _ (blk_lt B7.out)).trans B7.out)
  have K8 := Lib.hid (K7.out.trans (bb8.mono K7.out.size))
  obtain ⟨N, hN⟩ : ∃ N, (alvL st' st'.length).length = N := ⟨_, rfl⟩
  have hNn : N ≤ n := by rw [← hN]; exact Nat.le_trans (alvL_le st' _) (by rw [P7.out.len]; exact Nat.le_refl _)
  rw [hN] at oa8 ob8
  rw [hN]
  have SFa : Hid (SlF w8 ra N (zI fun j => hndI st' ((alvL st' st'.length).getD j 0))) := Lib.hid (SlF.of_own oa8 (fun j hj => by
    have hj : j < (alvL st' st'.length).length := by rw [hN]; exact hj
    simp [hndL, List.getElem?_map, List.getElem?_eq_getElem hj]))
  have SFb : Hid (SlF w8 rb N (fun j => (st'.getD ((alvL st' st'.length).getD j 0) (0, false, undef)).2.2)) := Lib.hid (SlF.of_own ob8 (fun j hj => by
    have hj : j < (alvL st' st'.length).length := by rw [hN]; exact hj
    simp [valL, List.getElem?_map, List.getElem?_eq_getElem hj]))
  have HNN := Lib.hid hN
  clear bb8 oa8 ob8 hN T7 O7 X7 B7 K7 z0 z1 z2 zz
  have v0 : w8.cell? ⟨w2.heap.size, 0, none⟩ = some (.slice b0 n l0) := by rw [cell_of_block B8.out]; rfl
  have v1 : w8.cell? ⟨w2.heap.size, 1, none⟩ = some (.slice b1 n l1) := by rw [cell_of_block B8.out]; rfl
  have v2 : w8.cell? ⟨w2.heap.size, 2, none⟩ = some (.slice b2 n l2) := by rw [cell_of_block B8.out]; rfl
  have HC : Hid (∀ w', Below w8.heap.size w8 w' → w'.cell? ⟨w2.heap.size, 0, none⟩ = some (.slice b0 n l0) ∧ w'.cell? ⟨w2.heap.size, 1, none⟩ = some (.slice b1 n l1) ∧ w'.cell? ⟨w2.heap.size, 2, none⟩ = some (.slice b2 n l2)) := Lib.hid (fun w' h => ⟨cell_later h v0, cell_later h v1, cell_later h v2⟩)
  clear v0 v1 v2
  go_wp2
  go_loopw [15, 18] (fun s x wr => ∃ j : Nat, s = .bool true ∧ j ≤ N ∧ x = .int .i64 j ∧ Hid (Below w8.heap.size w8 wr)) (fun _ x _ => N - (intOf x).toNat)
  case atStart => exact ⟨0, rfl, Nat.zero_le _, rfl, Lib.hid (Below.refl _ _)⟩
  case round =>
    obtain ⟨j, rfl, hj, rfl, HJ⟩ := hrel
    by_cases hjl : j < N
    · obtain ⟨x, hx⟩ : ∃ x, (alvL st' st'.length).getD j 0 = x := ⟨_, rfl⟩
      have hxm : x ∈ alvL st' st'.length := by
        rw [← hx, List.getD_eq_getElem?_getD, List.getElem?_eq_getElem (by rw [HNN.out]; exact hjl)]
        exact List.getElem_mem _
      have hxl : x < st'.length := alvL_lt hxm
      have hxa : (st'.getD x (0, false, undef)).2.1 = true := by have := (List.mem_filter.1 hxm).2; simpa using this
      obtain ⟨z, hz⟩ := P7.out.iv x hxl
      have hz' : (st'.getD x (0, false, undef)).2.2 = .int .i64 z := hz
      have hg1 := P7.out.one x hxl hxa
      have hg2 := P7.out.gb x hxl
      obtain ⟨g, hgg⟩ : ∃ g, (st'.getD x (0, false, undef)).1 = g := ⟨_, rfl⟩
      rw [hgg] at hg1 hg2
      have hSx : st'.getD x (0, false, undef) = (g, true, .int .i64 z) := slt_eta hgg hxa hz'
      have hlen := P7.out.len
      have hfind := find_hnd hxl hSx hg1 hg2 (by omega)
      obtain ⟨e1, _⟩ := hnd_slot (x := x) hg1 hg2 (by omega)
      have hnd1 : hndI st' x = (g : Int) * 65536 + x := by unfold hndI; rw [hgg]
      rw [← hnd1] at hfind e1
      obtain ⟨h, hh⟩ : ∃ h, hndI st' x = h := ⟨_, rfl⟩
      rw [hh] at hfind e1
      have hgv := getV_ok hfind e1 hz'
      have HPG : Hid (∀ W', Below w8.heap.size w8 W' → Calls Tryd.prog 48 #[.agg #[.slice b0 n l0, .slice b1 n l1, .slice b2 n l2], .int .i64 h] W' fun e w' => e = .returned (.tuple #[.int .i64 z, .int .i64 0]) ∧ Below W'.heap.size W' w') := Lib.hid (fun W' hb => by rw [← hgv, ← hfind]; exact pget h W' P7.out (O8.out.below hb) (by omega))
      obtain ⟨ga', go', hga, ca0⟩ := SFa.out.at_ hjl
      obtain ⟨gb', gp', hgb, cb0⟩ := SFb.out.at_ hjl
      subst hga hgb
      dsimp only [zI] at ca0
      rw [hx] at ca0 cb0
      rw [hh] at ca0
      rw [hz'] at cb0
      have j0 : (0 : Int) ≤ (j : Int) := by omega
      have j1 : (j : Int) < (N : Int) := by omega
      have j2 : decide ((j : Int) < (N : Int)) = true := by simp; omega
      have j3 : decide (j < N) = true := by simpa using hjl
      have qz : (z == z) = true := by simp
      have HD : Hid (∀ w', Below wr.heap.size wr w' → (w'.cell? ⟨w2.heap.size, 0, none⟩ = some (.slice b0 n l0) ∧ w'.cell? ⟨w2.heap.size, 1, none⟩ = some (.slice b1 n l1) ∧ w'.cell? ⟨w2.heap.size, 2, none⟩ = some (.slice b2 n l2)) ∧ w'.cell? ⟨ga', go' + j, none⟩ = some (.int .i64 h)) := Lib.hid (fun w' hb => ⟨HC.out w' (HJ.out.trans (hb.mono HJ.out.size)), cell_later (HJ.out.trans (hb.mono HJ.out.size)) ca0⟩)
      clear hx hxm hxl hxa hz hz' hg1 hg2 hgg hSx hlen hfind e1 hnd1 hh hgv ca0
      have cbr := cell_later HJ.out cb0
      go_wp2
      go_region_held3 (fun w' => Below wr.heap.size wr w' ∧ (w'.cell? ⟨w2.heap.size, 0, none⟩ = some (.slice b0 n l0) ∧ w'.cell? ⟨w2.heap.size, 1, none⟩ = some (.slice b1 n l1) ∧ w'.cell? ⟨w2.heap.size, 2, none⟩ = some (.slice b2 n l2)) ∧ w'.cell? ⟨ga', go' + j, none⟩ = some (.int .i64 h))
        ((refine keepN HD ?_; first | exact (Below.refl _ _).drew | exact And.left (by assumption) | exact bel_call (by assumption) (by assumption)))
        ((go_at_call 48; (refine (HPG.out _ (HJ.out.trans ((And.left (by assumption) : Below wr.heap.size wr _).mono HJ.out.size))).mono ?_); rintro e w9 ⟨rfl, b9⟩; have g9 : Below wr.heap.size wr w9 := bel_call (by assumption) b9; have cb9 := cell_later g9 cbr))
      all_goals
        go_wp2
        refine ⟨⟨j + 1, rfl, by omega, by simp, Lib.hid (HJ.out.trans (g9.mono HJ.out.size))⟩, by simp [intOf]; omega⟩
    · have j2 : decide ((j : Int) < (N : Int)) = false := by simp; omega
      have j3 : decide (j < N) = false := by simpa using hjl
      have qN : ((N : Int) == (N : Int)) = true := by simp
      have TR := Lib.hid (Tg.below T8.out HJ.out)
      have OR' := Lib.hid (O8.out.below HJ.out)
      have XR := Lib.hid (X8.out.below HJ.out)
      have SFr := Lib.hid (SFa.out.below HJ.out)
      have HD : Hid (∀ w', Below wr.heap.size wr w' → w'.cell? ⟨w2.heap.size, 0, none⟩ = some (.slice b0 n l0) ∧ w'.cell? ⟨w2.heap.size, 1, none⟩ = some (.slice b1 n l1) ∧ w'.cell? ⟨w2.heap.size, 2, none⟩ = some (.slice b2 n l2)) := Lib.hid (fun w' hb => HC.out w' (HJ.out.trans (hb.mono HJ.out.size)))
      have hlen := P7.out.len
      have LA : Hid (∀ W', Below wr.heap.size wr W' → Calls Tryd.prog 50 #[.agg #[.slice b0 n l0, .slice b1 n l1, .slice b2 n l2]] W' fun e w' => ∃ a k, e = .returned (.slice a N k) ∧ SlF w' a N (zI fun j => hndI st' ((alvL st' st'.length).getD j 0)) ∧ Below W'.heap.size W' w') := Lib.hid (fun W' hb => by
        have := pall W' P7.out (OR'.out.below hb) (by omega)
        rw [HNN.out] at this; exact this)
      have LS : Hid (∀ W', Below wr.heap.size wr W' → Calls Tryd.prog 21 #[.pointer (some ⟨w.heap.size + 1 + 1, 0, none⟩)] W' fun e w' => ∃ x, e = .returned x ∧ RS w' x st' ∧ Below W'.heap.size W' w') := Lib.hid (fun W' hb => Int.save_ok W' (Tg.below TR.out hb) P7.out.iv)
      have LQ : Hid (∀ W' x, Below wr.heap.size wr W' → RS W' x st' → Calls Tryd.prog 20 #[x, .agg #[.slice b0 n l0, .slice b1 n l1, .slice b2 n l2]] W' fun e w' => e = .returned (.bool true) ∧ Below W'.heap.size W' w') := Lib.hid (fun W' x hb hr => rsame_rs hr (by
        have := OR'.out.below hb
        have hl := P7.out.len
        subst hl
        exact OA.rs this) P7.out.iv (by omega))
      clear hlen
      go_wp2
      go_region_held3 (fun w' => Below wr.heap.size wr w' ∧ w'.cell? ⟨w2.heap.size, 0, none⟩ = some (.slice b0 n l0) ∧ w'.cell? ⟨w2.heap.size, 1, none⟩ = some (.slice b1 n l1) ∧ w'.cell? ⟨w2.heap.size, 2, none⟩ = some (.slice b2 n l2))
        ((refine keepN HD ?_; first | exact (Below.refl _ _).drew | exact And.left (by assumption) | exact bel_call (by assumption) (by assumption)))
        (first
          | (go_at_call 50; (with_reducible refine (LA.out _ (And.left (by assumption))).mono ?_); rintro e w10 ⟨xa, xk, rfl, sa10, b10⟩; have g10 : Below wr.heap.size wr w10 := bel_call (by assumption) b10; have SA10 := Lib.hid sa10; clear sa10)
          | (go_at_call 49; (with_reducible refine (rsh_ok _ (SFr.out.below (And.left (by assumption))) SA10.out (by omega)).mono ?_); rintro e w11 ⟨rfl, b11⟩; have g11 : Below wr.heap.size wr w11 := bel_call (by assumption) b11)
          | (go_at_call 21; (with_reducible refine (LS.out _ (And.left (by assumption))).mono ?_); rintro e w12 ⟨xs, rfl, rs12, b12⟩; have g12 : Below wr.heap.size wr w12 := bel_call (by assumption) b12; have RS12 := Lib.hid rs12; clear rs12)
          | (go_at_call 20; (with_reducible refine (LQ.out _ _ (And.left (by assumption)) RS12.out).mono ?_); rintro e w13 ⟨rfl, b13⟩; have g13 : Below wr.heap.size wr w13 := bel_call (by assumption) b13)
          | (go_at_call 15; (with_reducible refine (awake_ok _ (XR.out.below (And.left (by assumption)))).mono ?_); rintro e w14 ⟨rfl, b14⟩; have g14 : Below wr.heap.size wr w14 := bel_call (by assumption) b14))
      all_goals
        go_wp2
        go_ret
        exact ⟨rfl, (K8.out.trans (HJ.out.mono K8.out.size)).trans (g14.mono (by have := K8.out.size; have := HJ.out.size; omega))⟩
set_option maxRecDepth 100000 in
set_option maxHeartbeats 12800000 in
/-- a state is given and loaded -/
theorem plays_load (slots : Int) (w : World) (hs : slots ≤ 60 ∨ 1024 < slots) (hG : SlF w ga n (zI G)) (hA : SlF w aa n (zB A)) (hV : SlF w va n (zI V)) (hn : n ≤ 60) (he : hcE n n n G A = 0) (hC : SlC w ca m C) (hm : m ≤ 60) (hcb : ∀ j, j < m → (C j).1 ≤ 255 ∧ (C j).2.2.1 ≤ 255) (hT : Tab w) :
    Calls Tryd.prog 10 #[.int .i64 slots, .agg #[.slice ga n gc, .slice aa n ac, .slice va n vc], .slice ca m cc] w fun e w' => e = .returned (.bool true) ∧ Below w.heap.size w w' := by
  obtain ⟨hn1, -, -, -, hbad⟩ := hcE_zero he
  have bb := below_box0 w (.cells #[.slice ga n gc, .slice aa n ac, .slice va n vc] 35)
  have hbx := heap_alloc_new w (.cells #[.slice ga n gc, .slice aa n ac, .slice va n vc] 35)
  have HB := Lib.hid bb
  have HBX := Lib.hid hbx
  have HT := Lib.hid (hT.below bb)
  have HTl := Lib.hid hT.lt
  have HG := Lib.hid (hG.below bb)
  have HA := Lib.hid (hA.below bb)
  have HV := Lib.hid (hV.below bb)
  have HE := Lib.hid he
  have PP := Lib.hid (PS.load (V := V) hbad)
  have HCt : Hid (∀ W, Below w.heap.size w W → SlCB W w.heap.size ca m C) := Lib.hid (fun W hb => SlCB.of hC hb)
  have HCB := Lib.hid hcb
  have d1 : decide ((60 : Int) < (n : Int)) = false := by simp; omega
  have d2 : decide (60 < n) = false := by simp; omega
  have d3 : decide ((60 : Int) < (m : Int)) = false := by simp; omega
  have d4 : decide (60 < m) = false := by simp; omega
  have d5 : decide ((0 : Int) < (n : Int)) = true := by simp; omega
  have d6 : decide (0 < n) = true := by simp; omega
  have key : decide (60 < slots) = false ∨ (decide (60 < slots) = true ∧ decide (slots ≤ 1024) = false) := by
    rcases hs with h | h
    · exact .inl (by simp; omega)
    · exact .inr ⟨by simp; omega, by simp; omega⟩
  have hl := HTl.out
  clear bb hbx hT hC hcb hG hA hV he hbad hs
  rcases key with d7 | ⟨d7, d8⟩
  all_goals
    go_enter Tryd.func10, Tryd.ntmps10
    go_wp2_with fail
    refine (pnew_any slots _).mono ?_
    rintro e w1 ⟨pv, ev, rfl, b1⟩
    have K1 := Lib.hid (HB.out.trans (b1.mono (by simp)))
    have X1 := Lib.hid (HT.out.below b1)
    have BX1 := Lib.hid ((b1.block _ (by simp)).trans HBX.out)
    have HG1 := Lib.hid (HG.out.below b1)
    have HA1 := Lib.hid (HA.out.below b1)
    have HV1 := Lib.hid (HV.out.below b1)
    clear b1
    go_wp2_with fail
    refine (prnew_any slots _).mono ?_
    rintro e w2 ⟨x0, y0, z0, x1, y1, z1, x2, y2, z2, ev2, rfl, b2⟩
    have hb3 := below_box0 w2 (.cells #[.slice x0 y0 z0, .slice x1 y1 z1, .slice x2 y2 z2] 35)
    have b23 := below_tr b2 hb3
    have K2 := Lib.hid (K1.out.trans (b23.mono K1.out.size))
    have X2 := Lib.hid (X1.out.below b23)
    have HG2 := Lib.hid (HG1.out.below b23)
    have HA2 := Lib.hid (HA1.out.below b23)
    have HV2 := Lib.hid (HV1.out.below b23)
    have hx2 := (b2.block _ (blk_lt BX1.out)).trans BX1.out
    have BX2 := Lib.hid ((b23.block _ (blk_lt BX1.out)).trans BX1.out)
    have BN2 := Lib.hid (heap_alloc_new w2 (.cells #[.slice x0 y0 z0, .slice x1 y1 z1, .slice x2 y2 z2] 35))
    have g20 : w2.cell? ⟨w.heap.size, 0, none⟩ = some (.slice ga n gc) := by rw [cell_of_block hx2]; rfl
    have g21 : w2.cell? ⟨w.heap.size, 1, none⟩ = some (.slice aa n ac) := by rw [cell_of_block hx2]; rfl
    have g22 : w2.cell? ⟨w.heap.size, 2, none⟩ = some (.slice va n vc) := by rw [cell_of_block hx2]; rfl
    have g2l := blk_lt hx2
    have hk2 := K1.out.size
    have hb2s := b2.size
    clear K1 X1 BX1 HG1 HA1 HV1 b2 hb3 b23 hx2
    go_wp2_with fail
    refine (Int.load_ok _ HG2.out HA2.out HV2.out (fun _ => ⟨_, rfl⟩) HE.out).mono ?_
    rintro e w3 ⟨p, q, rfl, t3, b3⟩
    simp only [World.size_alloc] at t3
    have hp := Tb.hp t3
    have hq := Tb.hq t3
    have hpl := World.block_lt_of_cell? _ _ (Tb.c0 t3)
    have hql := blk_lt (Tb.slots t3)
    dsimp only at hpl
    have T3 := Lib.hid (Tg.base t3 (show w.heap.size ≤ _ by omega))
    have K3 := Lib.hid (K2.out.trans (b3.mono K2.out.size))
    have X3 := Lib.hid (X2.out.below b3)
    have HG3 := Lib.hid (HG2.out.below b3)
    have HA3 := Lib.hid (HA2.out.below b3)
    have HV3 := Lib.hid (HV2.out.below b3)
    have hx3 := (b3.block _ (blk_lt BX2.out)).trans BX2.out
    have BX3 := Lib.hid hx3
    have BN3 := Lib.hid ((b3.block _ (blk_lt BN2.out)).trans BN2.out)
    have g30 : w3.cell? ⟨w.heap.size, 0, none⟩ = some (.slice ga n gc) := by rw [cell_of_block hx3]; rfl
    have g31 : w3.cell? ⟨w.heap.size, 1, none⟩ = some (.slice aa n ac) := by rw [cell_of_block hx3]; rfl
    have g32 : w3.cell? ⟨w.heap.size, 2, none⟩ = some (.slice va n vc) := by rw [cell_of_block hx3]; rfl
    clear K2 X2 HG2 HA2 HV2 BX2 BN2 t3 b3 hx3 g20 g21 g22
    go_wp2_with fail
    refine (rload_roa _ HG3.out HA3.out HV3.out (fun _ => ⟨_, rfl⟩) HE.out).mono ?_
    rintro e w4 ⟨xv, rfl, hr, b4⟩
    obtain ⟨a0, k0, a1, k1, a2, k2, rfl, ho⟩ := hr.os (n := n) stP_length
    have bn4 := (b4.block _ (blk_lt BN3.out)).trans BN3.out
    have hT4 := Tg.below T3.out b4
    have hX4 := X3.out.below b4
    have hs4 := set3 hT4 ho hX4 bn4 (by omega) (by omega) (by have := HTl.out; omega) (.slice a0 n k0) (.slice a1 n k1) (.slice a2 n k2)
    have hsz4 := b4.size
    have hK4 := (((K3.out.trans (b4.mono K3.out.size)).setCell (p := ⟨w2.heap.size, 0, none⟩) (by dsimp only; omega) (.slice a0 n k0)).setCell (p := ⟨w2.heap.size, 1, none⟩) (by dsimp only; omega) (.slice a1 n k1)).setCell (p := ⟨w2.heap.size, 2, none⟩) (by dsimp only; omega) (.slice a2 n k2)
    have TT := Lib.hid hs4.1
    have OO := Lib.hid hs4.2.1
    have XX := Lib.hid hs4.2.2.1
    have BX := Lib.hid hs4.2.2.2
    have KK := Lib.hid hK4
    have q0 : w4.cell? ⟨w2.heap.size, 0, none⟩ = some (.slice x0 y0 z0) := by rw [cell_of_block bn4]; rfl
    have q1 : w4.cell? ⟨w2.heap.size, 1, none⟩ = some (.slice x1 y1 z1) := by rw [cell_of_block bn4]; rfl
    have q2 : w4.cell? ⟨w2.heap.size, 2, none⟩ = some (.slice x2 y2 z2) := by rw [cell_of_block bn4]; rfl
    have qf : ∀ j, w4.frozen? ⟨w2.heap.size, j, none⟩ = false := fun j => unfrozen_of_block bn4 j
    clear T3 K3 X3 HG3 HA3 HV3 BX3 BN3 hr ho b4 bn4 hT4 hX4 hs4 hK4 g30 g31 g32
    go_wp2_with fail
    obtain ⟨Wt, hWt⟩ : ∃ W, ((w4.setCell ⟨w2.heap.size, 0, none⟩ (.slice a0 n k0)).setCell ⟨w2.heap.size, 1, none⟩ (.slice a1 n k1)).setCell ⟨w2.heap.size, 2, none⟩ (.slice a2 n k2) = W := ⟨_, rfl⟩
    rw [hWt] at TT OO KK XX BX ⊢
    have hsWt : Wt.heap.size = w4.heap.size := by rw [← hWt]; simp only [World.size_setCell]
    clear hWt q0 q1 q2 qf
    have hS9 := KK.out.size
    refine (play_ok Wt TT.out OO.out PP.out hn (HCt.out Wt KK.out) hm HCB.out XX.out HTl.out).mono ?_
    rintro e w6 ⟨b0, l0, b1, l1, b2, l2, st', rfl, t6, o6, ps6, f6, x6⟩
    have bx6 := (f6.block _ (blk_lt BX.out) (by omega) (by omega)).trans BX.out
    have hs3 := set3 t6 o6 x6 bx6 (by omega) (by omega) (by omega) (.slice b0 n l0) (.slice b1 n l1) (.slice b2 n l2)
    have k6 : Below w.heap.size w (((w6.setCell ⟨w2.heap.size, 0, none⟩ (.slice b0 n l0)).setCell ⟨w2.heap.size, 1, none⟩ (.slice b1 n l1)).setCell ⟨w2.heap.size, 2, none⟩ (.slice b2 n l2)) := (((Fr.below KK.out f6 (by omega) (by omega) KK.out.size).setCell (p := ⟨w2.heap.size, 0, none⟩) (by dsimp only; omega) _).setCell (p := ⟨w2.heap.size, 1, none⟩) (by dsimp only; omega) _).setCell (p := ⟨w2.heap.size, 2, none⟩) (by dsimp only; omega) _
    have z0 : w6.cell? ⟨w2.heap.size, 0, none⟩ = some (.slice a0 n k0) := by rw [cell_of_block bx6]; rfl
    have z1 : w6.cell? ⟨w2.heap.size, 1, none⟩ = some (.slice a1 n k1) := by rw [cell_of_block bx6]; rfl
    have z2 : w6.cell? ⟨w2.heap.size, 2, none⟩ = some (.slice a2 n k2) := by rw [cell_of_block bx6]; rfl
    have zz : ∀ j, w6.frozen? ⟨w2.heap.size, j, none⟩ = false := fun j => unfrozen_of_block bx6 j
    have T7 := Lib.hid hs3.1
    have O7 := Lib.hid hs3.2.1
    have X7 := Lib.hid hs3.2.2.1
    have B7 := Lib.hid hs3.2.2.2
    have K7 := Lib.hid k6
    have P7 := Lib.hid ps6
    clear t6 o6 x6 bx6 hs3 k6 ps6 f6
    go_wp2_with fail
    refine (walked_ok _ T7.out P7.out.gb P7.out.iv).mono ?_
    rintro e w8 ⟨ra, rk, rb, rl, rfl, oa8, ob8, bb8⟩
    have T8 := Lib.hid (Tg.below T7.out bb8)
    have O8 := Lib.hid (O7.out.below bb8)
    have X8 := Lib.hid (X7.out.below bb8)
    have B8 := Lib.hid ((bb8.block _ (blk_lt B7.out)).trans B7.out)
    have K8 := Lib.hid (K7.out.trans (bb8.mono K7.out.size))
    obtain ⟨N, hN⟩ : ∃ N, (alvL st' st'.length).length = N := ⟨_, rfl⟩
    have hNn : N ≤ n := by rw [← hN]; exact Nat.le_trans (alvL_le st' _) (by rw [P7.out.len]; exact Nat.le_refl _)
    rw [hN] at oa8 ob8
    rw [hN]
    have SFa : Hid (SlF w8 ra N (zI fun j => hndI st' ((alvL st' st'.length).getD j 0))) := Lib.hid (SlF.of_own oa8 (fun j hj => by
      have hj : j < (alvL st' st'.length).length := by rw [hN]; exact hj
      simp [hndL, List.getElem?_map, List.getElem?_eq_getElem hj]))
    have SFb : Hid (SlF w8 rb N (fun j => (st'.getD ((alvL st' st'.length).getD j 0) (0, false, undef)).2.2)) := Lib.hid (SlF.of_own ob8 (fun j hj => by
      have hj : j < (alvL st' st'.length).length := by rw [hN]; exact hj
      simp [valL, List.getElem?_map, List.getElem?_eq_getElem hj]))
    have HNN := Lib.hid hN
    clear bb8 oa8 ob8 hN T7 O7 X7 B7 K7 z0 z1 z2 zz
    have v0 : w8.cell? ⟨w2.heap.size, 0, none⟩ = some (.slice b0 n l0) := by rw [cell_of_block B8.out]; rfl
    have v1 : w8.cell? ⟨w2.heap.size, 1, none⟩ = some (.slice b1 n l1) := by rw [cell_of_block B8.out]; rfl
    have v2 : w8.cell? ⟨w2.heap.size, 2, none⟩ = some (.slice b2 n l2) := by rw [cell_of_block B8.out]; rfl
    have HC : Hid (∀ w', Below w8.heap.size w8 w' → w'.cell? ⟨w2.heap.size, 0, none⟩ = some (.slice b0 n l0) ∧ w'.cell? ⟨w2.heap.size, 1, none⟩ = some (.slice b1 n l1) ∧ w'.cell? ⟨w2.heap.size, 2, none⟩ = some (.slice b2 n l2)) := Lib.hid (fun w' h => ⟨cell_later h v0, cell_later h v1, cell_later h v2⟩)
    clear v0 v1 v2
    go_wp2
    go_loopw [15, 18] (fun s x wr => ∃ j : Nat, s = .bool true ∧ j ≤ N ∧ x = .int .i64 j ∧ Hid (Below w8.heap.size w8 wr)) (fun _ x _ => N - (intOf x).toNat)
    case atStart => exact ⟨0, rfl, Nat.zero_le _, rfl, Lib.hid (Below.refl _ _)⟩
    case round =>
      obtain ⟨j, rfl, hj, rfl, HJ⟩ := hrel
      by_cases hjl : j < N
      · obtain ⟨x, hx⟩ : ∃ x, (alvL st' st'.length).getD j 0 = x := ⟨_, rfl⟩
        have hxm : x ∈ alvL st' st'.length := by
          rw [← hx, List.getD_eq_getElem?_getD, List.getElem?_eq_getElem (by rw [HNN.out]; exact hjl)]
          exact List.getElem_mem _
        have hxl : x < st'.length := alvL_lt hxm
        have hxa : (st'.getD x (0, false, undef)).2.1 = true := by have := (List.mem_filter.1 hxm).2; simpa using this
        obtain ⟨z, hz⟩ := P7.out.iv x hxl
        have hz' : (st'.getD x (0, false, undef)).2.2 = .int .i64 z := hz
        have hg1 := P7.out.one x hxl hxa
        have hg2 := P7.out.gb x hxl
        obtain ⟨g, hgg⟩ : ∃ g, (st'.getD x (0, false, undef)).1 = g := ⟨_, rfl⟩
        rw [hgg] at hg1 hg2
        have hSx : st'.getD x (0, false, undef) = (g, true, .int .i64 z) := slt_eta hgg hxa hz'
        have hlen := P7.out.len
        have hfind := find_hnd hxl hSx hg1 hg2 (by omega)
        obtain ⟨e1, _⟩ := hnd_slot (x := x) hg1 hg2 (by omega)
        have hnd1 : hndI st' x = (g : Int) * 65536 + x := by unfold hndI; rw [hgg]
        rw [← hnd1] at hfind e1
        obtain ⟨h, hh⟩ : ∃ h, hndI st' x = h := ⟨_, rfl⟩
        rw [hh] at hfind e1
        have hgv := getV_ok hfind e1 hz'
        have HPG : Hid (∀ W', Below w8.heap.size w8 W' → Calls Tryd.prog 48 #[.agg #[.slice b0 n l0, .slice b1 n l1, .slice b2 n l2], .int .i64 h] W' fun e w' => e = .returned (.tuple #[.int .i64 z, .int .i64 0]) ∧ Below W'.heap.size W' w') := Lib.hid (fun W' hb => by rw [← hgv, ← hfind]; exact pget h W' P7.out (O8.out.below hb) (by omega))
        obtain ⟨ga', go', hga, ca0⟩ := SFa.out.at_ hjl
        obtain ⟨gb', gp', hgb, cb0⟩ := SFb.out.at_ hjl
        subst hga hgb
        dsimp only [zI] at ca0
        rw [hx] at ca0 cb0
        rw [hh] at ca0
        rw [hz'] at cb0
        have j0 : (0 : Int) ≤ (j : Int) := by omega
        have j1 : (j : Int) < (N : Int) := by omega
        have j2 : decide ((j : Int) < (N : Int)) = true := by simp; omega
        have j3 : decide (j < N) = true := by simpa using hjl
        have qz : (z == z) = true := by simp
        have HD : Hid (∀ w', Below wr.heap.size wr w' → (w'.cell? ⟨w2.heap.size, 0, none⟩ = some (.slice b0 n l0) ∧ w'.cell? ⟨w2.heap.size, 1, none⟩ = some (.slice b1 n l1) ∧ w'.cell? ⟨w2.heap.size, 2, none⟩ = some (.slice b2 n l2)) ∧ w'.cell? ⟨ga', go' + j, none⟩ = some (.int .i64 h)) := Lib.hid (fun w' hb => ⟨HC.out w' (HJ.out.trans (hb.mono HJ.out.size)), cell_later (HJ.out.trans (hb.mono HJ.out.size)) ca0⟩)
        clear hx hxm hxl hxa hz hz' hg1 hg2 hgg hSx hlen hfind e1 hnd1 hh hgv ca0
        have cbr := cell_later HJ.out cb0
        go_wp2
        go_region_held3 (fun w' => Below wr.heap.size wr w' ∧ (w'.cell? ⟨w2.heap.size, 0, none⟩ = some (.slice b0 n l0) ∧ w'.cell? ⟨w2.heap.size, 1, none⟩ = some (.slice b1 n l1) ∧ w'.cell? ⟨w2.heap.size, 2, none⟩ = some (.slice b2 n l2)) ∧ w'.cell? ⟨ga', go' + j, none⟩ = some (.int .i64 h))
          ((refine keepN HD ?_; first | exact (Below.refl _ _).drew | exact And.left (by assumption) | exact bel_call (by assumption) (by assumption)))
          ((go_at_call 48; (refine (HPG.out _ (HJ.out.trans ((And.left (by assumption) : Below wr.heap.size wr _).mono HJ.out.size))).mono ?_); rintro e w9 ⟨rfl, b9⟩; have g9 : Below wr.heap.size wr w9 := bel_call (by assumption) b9; have cb9 := cell_later g9 cbr))
        all_goals
          go_wp2
          refine ⟨⟨j + 1, rfl, by omega, by simp, Lib.hid (HJ.out.trans (g9.mono HJ.out.size))⟩, by simp [intOf]; omega⟩
      · have j2 : decide ((j : Int) < (N : Int)) = false := by simp; omega
        have j3 : decide (j < N) = false := by simpa using hjl
        have qN : ((N : Int) == (N : Int)) = true := by simp
        have TR := Lib.hid (Tg.below T8.out HJ.out)
        have OR' := Lib.hid (O8.out.below HJ.out)
        have XR := Lib.hid (X8.out.below HJ.out)
        have SFr := Lib.hid (SFa.out.below HJ.out)
        have HD : Hid (∀ w', Below wr.heap.size wr w' → w'.cell? ⟨w2.heap.size, 0, none⟩ = some (.slice b0 n l0) ∧ w'.cell? ⟨w2.heap.size, 1, none⟩ = some (.slice b1 n l1) ∧ w'.cell? ⟨w2.heap.size, 2, none⟩ = some (.slice b2 n l2)) := Lib.hid (fun w' hb => HC.out w' (HJ.out.trans (hb.mono HJ.out.size)))
        have hlen := P7.out.len
        have LA : Hid (∀ W', Below wr.heap.size wr W' → Calls Tryd.prog 50 #[.agg #[.slice b0 n l0, .slice b1 n l1, .slice b2 n l2]] W' fun e w' => ∃ a k, e = .returned (.slice a N k) ∧ SlF w' a N (zI fun j => hndI st' ((alvL st' st'.length).getD j 0)) ∧ Below W'.heap.size W' w') := Lib.hid (fun W' hb => by
          have := pall W' P7.out (OR'.out.below hb) (by omega)
          rw [HNN.out] at this; exact this)
        have LS : Hid (∀ W', Below wr.heap.size wr W' → Calls Tryd.prog 21 #[.pointer (some ⟨p, 0, none⟩)] W' fun e w' => ∃ x, e = .returned x ∧ RS w' x st' ∧ Below W'.heap.size W' w') := Lib.hid (fun W' hb => Int.save_ok W' (Tg.below TR.out hb) P7.out.iv)
        have LQ : Hid (∀ W' x, Below wr.heap.size wr W' → RS W' x st' → Calls Tryd.prog 20 #[x, .agg #[.slice b0 n l0, .slice b1 n l1, .slice b2 n l2]] W' fun e w' => e = .returned (.bool true) ∧ Below W'.heap.size W' w') := Lib.hid (fun W' x hb hr => rsame_rs hr (by
          have := OR'.out.below hb
          have hl := P7.out.len
          subst hl
          exact OA.rs this) P7.out.iv (by omega))
        clear hlen
        go_wp2
        go_region_held3 (fun w' => Below wr.heap.size wr w' ∧ w'.cell? ⟨w2.heap.size, 0, none⟩ = some (.slice b0 n l0) ∧ w'.cell? ⟨w2.heap.size, 1, none⟩ = some (.slice b1 n l1) ∧ w'.cell? ⟨w2.heap.size, 2, none⟩ = some (.slice b2 n l2))
          ((refine keepN HD ?_; first | exact (Below.refl _ _).drew | exact And.left (by assumption) | exact bel_call (by assumption) (by assumption)))
          (first
            | (go_at_call 50; (with_reducible refine (LA.out _ (And.left (by assumption))).mono ?_); rintro e w10 ⟨xa, xk, rfl, sa10, b10⟩; have g10 : Below wr.heap.size wr w10 := bel_call (by assumption) b10; have SA10 := Lib.hid sa10; clear sa10)
            | (go_at_call 49; (with_reducible refine (rsh_ok _ (SFr.out.below (And.left (by assumption))) SA10.out (by omega)).mono ?_); rintro e w11 ⟨rfl, b11⟩; have g11 : Below wr.heap.size wr w11 := bel_call (by assumption) b11)
            | (go_at_call 21; (with_reducible refine (LS.out _ (And.left (by assumption))).mono ?_); rintro e w12 ⟨xs, rfl, rs12, b12⟩; have g12 : Below wr.heap.size wr w12 := bel_call (by assumption) b12; have RS12 := Lib.hid rs12; clear rs12)
            | (go_at_call 20; (with_reducible refine (LQ.out _ _ (And.left (by assumption)) RS12.out).mono ?_); rintro e w13 ⟨rfl, b13⟩; have g13 : Below wr.heap.size wr w13 := bel_call (by assumption) b13)
            | (go_at_call 15; (with_reducible refine (awake_ok _ (XR.out.below (And.left (by assumption)))).mono ?_); rintro e w14 ⟨rfl, b14⟩; have g14 : Below wr.heap.size wr w14 := bel_call (by assumption) b14))
        all_goals
          go_wp2
          go_ret
          exact ⟨rfl, (K8.out.trans (HJ.out.mono K8.out.size)).trans (g14.mono (by have := K8.out.size; have := HJ.out.size; omega))⟩
set_option maxRecDepth 100000 in
set_option maxHeartbeats 6400000 in
/-- no state is given, and the number of slots is refused -/
theorem plays_bad (slots : Int) (w : World) (hs : slots < 1 ∨ 1024 < slots) (hm : m ≤ 60) (hT : Tab w) :
    Calls Tryd.prog 10 #[.int .i64 slots, .agg #[.slice ga 0 gc, .slice aa na ac, .slice va nv vc], .slice ca m cc] w fun e w' => e = .returned (.bool true) ∧ Below w.heap.size w w' := by
  have bb := below_box0 w (.cells #[.slice ga 0 gc, .slice aa na ac, .slice va nv vc] 35)
  have hbx := heap_alloc_new w (.cells #[.slice ga 0 gc, .slice aa na ac, .slice va nv vc] 35)
  have HB := Lib.hid bb
  have HBX := Lib.hid hbx
  have HT := Lib.hid (hT.below bb)
  have d3 : decide ((60 : Int) < (m : Int)) = false := by simp; omega
  have d4 : decide (60 < m) = false := by simp; omega
  have key : decide (60 < slots) = false ∨ (decide (60 < slots) = true ∧ decide (slots ≤ 1024) = false) := by
    rcases hs with h | h
    · exact .inl (by simp; omega)
    · exact .inr ⟨by simp; omega, by simp; omega⟩
  have HS := Lib.hid hs
  clear bb hbx hT hs
  rcases key with d7 | ⟨d7, d8⟩
  all_goals
    go_enter Tryd.func10, Tryd.ntmps10
    go_wp2_with fail
    refine (Int.new_bad slots _ HS.out).mono ?_
    rintro e w1 ⟨rfl, rfl⟩
    go_wp2_with fail
    refine (rnew_err slots _ HS.out).mono ?_
    rintro e w2 ⟨rfl, b2⟩
    have hb3 := below_box0 w2 (.cells #[.slice none 0 0, .slice none 0 0, .slice none 0 0] 35)
    have b23 := below_tr b2 hb3
    have KK := Lib.hid (HB.out.trans (b23.mono (by simp)))
    have XX := Lib.hid (HT.out.below b23)
    have hx2 := (b2.block _ (blk_lt HBX.out)).trans HBX.out
    have g20 : w2.cell? ⟨w.heap.size, 0, none⟩ = some (.slice ga 0 gc) := by rw [cell_of_block hx2]; rfl
    have g2l := blk_lt hx2
    clear b2 b23 hb3 hx2
    go_wp2_with fail
    obtain ⟨Wt, hWt⟩ : ∃ W, w2.alloc (.cells #[.slice none 0 0, .slice none 0 0, .slice none 0 0] 35) = W := ⟨_, rfl⟩
    rw [hWt] at KK XX ⊢
    clear hWt g20
    have hfd := field0
    refine (nput 1 _).mono ?_
    rintro e w6 ⟨rfl, rfl⟩
    go_wp2_with fail
    refine (nget 65536 _).mono ?_
    rintro e w6 ⟨rfl, rfl⟩
    go_wp2_with fail
    refine (ndrop 65536 _).mono ?_
    rintro e w6 ⟨rfl, rfl⟩
    go_wp2_with fail
    refine (nwalked _).mono ?_
    rintro e w7 ⟨rfl, b7⟩
    go_wp2_with fail
    refine (nset 65536 1 _).mono ?_
    rintro e w6 ⟨rfl, rfl⟩
    go_wp2_with fail
    refine (nlen _).mono ?_
    rintro e w6 ⟨rfl, rfl⟩
    go_wp2_with fail
    refine (nroom _).mono ?_
    rintro e w6 ⟨rfl, rfl⟩
    go_wp2_with fail
    refine (nsave _).mono ?_
    rintro e w8 ⟨rfl, b8⟩
    go_wp2_with fail
    refine (awake_ok _ ((XX.out.below b7).below b8)).mono ?_
    rintro e w9 ⟨rfl, b9⟩
    have b79 : Below Wt.heap.size Wt w9 := below_tr (below_tr b7 b8) b9
    have K9 := Lib.hid (KK.out.trans (b79.mono KK.out.size))
    clear b7 b8 b9 b79
    go_wp2
    go_ret
    exact ⟨rfl, K9.out⟩
set_option maxRecDepth 100000 in
set_option maxHeartbeats 6400000 in
/-- a state is given that is refused -/
theorem plays_wrong (slots : Int) (w : World) (hs : slots ≤ 60 ∨ 1024 < slots) (hG : SlF w ga n (zI G)) (hA : SlF w aa na (zB A)) (hn : n ≤ 60) (hn1 : 1 ≤ n) (he : hcE n na nv G A ≠ 0) (hm : m ≤ 60) (hT : Tab w) :
    Calls Tryd.prog 10 #[.int .i64 slots, .agg #[.slice ga n gc, .slice aa na ac, .slice va nv vc], .slice ca m cc] w fun e w' => e = .returned (.bool true) ∧ Below w.heap.size w w' := by
  have bb := below_box0 w (.cells #[.slice ga n gc, .slice aa na ac, .slice va nv vc] 35)
  have hbx := heap_alloc_new w (.cells #[.slice ga n gc, .slice aa na ac, .slice va nv vc] 35)
  have HB := Lib.hid bb
  have HBX := Lib.hid hbx
  have HT := Lib.hid (hT.below bb)
  have HG := Lib.hid (hG.below bb)
  have HA := Lib.hid (hA.below bb)
  have HE := Lib.hid he
  have hqe := bne0_true he
  obtain ⟨ee, hee⟩ : ∃ ee, hcE n na nv G A = ee := ⟨_, rfl⟩
  rw [hee] at hqe
  have HEE := Lib.hid hee
  have qee : (ee != ee) = false := by simp
  have d1 : decide ((60 : Int) < (n : Int)) = false := by simp; omega
  have d2 : decide (60 < n) = false := by simp; omega
  have d3 : decide ((60 : Int) < (m : Int)) = false := by simp; omega
  have d4 : decide (60 < m) = false := by simp; omega
  have d5 : decide ((0 : Int) < (n : Int)) = true := by simp; omega
  have d6 : decide (0 < n) = true := by simp; omega
  have key : decide (60 < slots) = false ∨ (decide (60 < slots) = true ∧ decide (slots ≤ 1024) = false) := by
    rcases hs with h | h
    · exact .inl (by simp; omega)
    · exact .inr ⟨by simp; omega, by simp; omega⟩
  clear bb hbx hT hG hA he hs hee
  rcases key with d7 | ⟨d7, d8⟩
  all_goals
    go_enter Tryd.func10, Tryd.ntmps10
    go_wp2_with fail
    refine (pnew_any slots _).mono ?_
    rintro e w1 ⟨pv, ev, rfl, b1⟩
    have K1 := Lib.hid (HB.out.trans (b1.mono (by simp)))
    have X1 := Lib.hid (HT.out.below b1)
    have BX1 := Lib.hid ((b1.block _ (by simp)).trans HBX.out)
    have HG1 := Lib.hid (HG.out.below b1)
    have HA1 := Lib.hid (HA.out.below b1)
    clear b1
    go_wp2_with fail
    refine (prnew_any slots _).mono ?_
    rintro e w2 ⟨x0, y0, z0, x1, y1, z1, x2, y2, z2, ev2, rfl, b2⟩
    have hb3 := below_box0 w2 (.cells #[.slice x0 y0 z0, .slice x1 y1 z1, .slice x2 y2 z2] 35)
    have b23 := below_tr b2 hb3
    have K2 := Lib.hid (K1.out.trans (b23.mono K1.out.size))
    have X2 := Lib.hid (X1.out.below b23)
    have HG2 := Lib.hid (HG1.out.below b23)
    have HA2 := Lib.hid (HA1.out.below b23)
    have hx2 := (b2.block _ (blk_lt BX1.out)).trans BX1.out
    have BX2 := Lib.hid ((b23.block _ (blk_lt BX1.out)).trans BX1.out)
    have BN2 := Lib.hid (heap_alloc_new w2 (.cells #[.slice x0 y0 z0, .slice x1 y1 z1, .slice x2 y2 z2] 35))
    have g20 : w2.cell? ⟨w.heap.size, 0, none⟩ = some (.slice ga n gc) := by rw [cell_of_block hx2]; rfl
    have g21 : w2.cell? ⟨w.heap.size, 1, none⟩ = some (.slice aa na ac) := by rw [cell_of_block hx2]; rfl
    have g22 : w2.cell? ⟨w.heap.size, 2, none⟩ = some (.slice va nv vc) := by rw [cell_of_block hx2]; rfl
    have g2l := blk_lt hx2
    clear K1 X1 BX1 HG1 HA1 b2 hb3 b23 hx2
    go_wp2_with fail
    refine (Int.load_err _ HG2.out HA2.out HE.out).mono ?_
    rintro e w3 ⟨rfl, b3⟩
    rw [HEE.out]
    have K3 := Lib.hid (K2.out.trans (b3.mono K2.out.size))
    have X3 := Lib.hid (X2.out.below b3)
    have HG3 := Lib.hid (HG2.out.below b3)
    have HA3 := Lib.hid (HA2.out.below b3)
    have hx3 := (b3.block _ (blk_lt BX2.out)).trans BX2.out
    have BN3 := Lib.hid ((b3.block _ (blk_lt BN2.out)).trans BN2.out)
    have g30 : w3.cell? ⟨w.heap.size, 0, none⟩ = some (.slice ga n gc) := by rw [cell_of_block hx3]; rfl
    have g31 : w3.cell? ⟨w.heap.size, 1, none⟩ = some (.slice aa na ac) := by rw [cell_of_block hx3]; rfl
    have g32 : w3.cell? ⟨w.heap.size, 2, none⟩ = some (.slice va nv vc) := by rw [cell_of_block hx3]; rfl
    clear K2 X2 HG2 HA2 BX2 BN2 b3 hx3 g20 g21 g22
    go_wp2_with fail
    refine (rload_err _ HG3.out HA3.out HE.out).mono ?_
    rintro e w4 ⟨rfl, b4⟩
    rw [HEE.out]
    have bn4 := (b4.block _ (blk_lt BN3.out)).trans BN3.out
    have hX4 := X3.out.below b4
    have hK4 := (((K3.out.trans (b4.mono K3.out.size)).setCell (p := ⟨w2.heap.size, 0, none⟩) (by dsimp only; omega) (.slice none 0 0)).setCell (p := ⟨w2.heap.size, 1, none⟩) (by dsimp only; omega) (.slice none 0 0)).setCell (p := ⟨w2.heap.size, 2, none⟩) (by dsimp only; omega) (.slice none 0 0)
    have hTl := HT.out.lt
    simp only [World.size_alloc] at hTl
    have hXs := (((hX4.blk (k := w2.heap.size) (j := 0) (by omega) (.slice none 0 0)).blk (k := w2.heap.size) (j := 1) (by omega) (.slice none 0 0)).blk (k := w2.heap.size) (j := 2) (by omega) (.slice none 0 0))
    have XX := Lib.hid hXs
    have KK := Lib.hid hK4
    have q0 : w4.cell? ⟨w2.heap.size, 0, none⟩ = some (.slice x0 y0 z0) := by rw [cell_of_block bn4]; rfl
    have q1 : w4.cell? ⟨w2.heap.size, 1, none⟩ = some (.slice x1 y1 z1) := by rw [cell_of_block bn4]; rfl
    have q2 : w4.cell? ⟨w2.heap.size, 2, none⟩ = some (.slice x2 y2 z2) := by rw [cell_of_block bn4]; rfl
    have qf : ∀ j, w4.frozen? ⟨w2.heap.size, j, none⟩ = false := fun j => unfrozen_of_block bn4 j
    clear K3 X3 HG3 HA3 BN3 b4 bn4 hX4 hK4 hXs g30 g31 g32 hTl
    go_wp2_with fail
    obtain ⟨Wt, hWt⟩ : ∃ W, ((w4.setCell ⟨w2.heap.size, 0, none⟩ (.slice none 0 0)).setCell ⟨w2.heap.size, 1, none⟩ (.slice none 0 0)).setCell ⟨w2.heap.size, 2, none⟩ (.slice none 0 0) = W := ⟨_, rfl⟩
    rw [hWt] at KK XX ⊢
    clear hWt q0 q1 q2 qf
    have hfd := field0
    refine (nput 1 _).mono ?_
    rintro e w6 ⟨rfl, rfl⟩
    go_wp2_with fail
    refine (nget 65536 _).mono ?_
    rintro e w6 ⟨rfl, rfl⟩
    go_wp2_with fail
    refine (ndrop 65536 _).mono ?_
    rintro e w6 ⟨rfl, rfl⟩
    go_wp2_with fail
    refine (nwalked _).mono ?_
    rintro e w7 ⟨rfl, b7⟩
    go_wp2_with fail
    refine (nset 65536 1 _).mono ?_
    rintro e w6 ⟨rfl, rfl⟩
    go_wp2_with fail
    refine (nlen _).mono ?_
    rintro e w6 ⟨rfl, rfl⟩
    go_wp2_with fail
    refine (nroom _).mono ?_
    rintro e w6 ⟨rfl, rfl⟩
    go_wp2_with fail
    refine (nsave _).mono ?_
    rintro e w8 ⟨rfl, b8⟩
    go_wp2_with fail
    refine (awake_ok _ ((XX.out.below b7).below b8)).mono ?_
    rintro e w9 ⟨rfl, b9⟩
    have b79 : Below Wt.heap.size Wt w9 := below_tr (below_tr b7 b8) b9
    have K9 := Lib.hid (KK.out.trans (b79.mono KK.out.size))
    clear b7 b8 b9 b79
    go_wp2
    go_ret
    exact ⟨rfl, K9.out⟩
set_option maxRecDepth 100000 in
set_option maxHeartbeats 6400000 in
theorem law_plays (slots : Int) (w : World) (hG : SlF w ga n (zI G)) (hA : SlF w aa na (zB A)) (hV : SlF w va nv (zI V)) (hC : SlC w ca m C) (hn : n ≤ 9223372036854775807) (hm : m ≤ 9223372036854775807) (hcb : ∀ j, j < m → (C j).1 ≤ 255 ∧ (C j).2.2.1 ≤ 255) (hT : Tab w) :
    Calls Tryd.prog 10 #[.int .i64 slots, .agg #[.slice ga n gc, .slice aa na ac, .slice va nv vc], .slice ca m cc] w fun e w' => e = .returned (.bool true) ∧ Below w.heap.size w w' := by
  by_cases hfar : 60 < m ∨ (60 < slots ∧ slots ≤ 1024) ∨ 60 < n
  · have bb := below_box0 w (.cells #[.slice ga n gc, .slice aa na ac, .slice va nv vc] 35)
    have key : (decide ((60 : Int) < (m : Int)) = true ∧ decide (60 < m) = true) ∨ (decide ((60 : Int) < (m : Int)) = false ∧ decide (60 < m) = false ∧ decide (60 < slots) = true ∧ decide (slots ≤ 1024) = true) ∨
        (decide ((60 : Int) < (m : Int)) = false ∧ decide (60 < m) = false ∧ decide (60 < slots) = true ∧ decide (slots ≤ 1024) = false ∧ decide ((60 : Int) < (n : Int)) = true ∧ decide (60 < n) = true) ∨
        (decide ((60 : Int) < (m : Int)) = false ∧ decide (60 < m) = false ∧ decide (60 < slots) = false ∧ decide ((60 : Int) < (n : Int)) = true ∧ decide (60 < n) = true) := by
      by_cases h : 60 < m
      · exact .inl ⟨by simp; omega, by simpa using h⟩
      · by_cases h1 : 60 < slots
        · by_cases h2 : slots ≤ 1024
          · exact .inr (.inl ⟨by simp; omega, by simpa using h, by simpa using h1, by simpa using h2⟩)
          · exact .inr (.inr (.inl ⟨by simp; omega, by simpa using h, by simpa using h1, by simpa using h2, by simp; omega, by simp; omega⟩))
        · exact .inr (.inr (.inr ⟨by simp; omega, by simpa using h, by simpa using h1, by simp; omega, by simp; omega⟩))
    have HB := Lib.hid bb
    have HT := Lib.hid (hT.below bb)
    clear bb hfar hT hG hA hV hC hcb
    rcases key with ⟨d1, d2⟩ | ⟨d1, d2, d3, d4⟩ | ⟨d1, d2, d3, d4, d5, d6⟩ | ⟨d1, d2, d3, d5, d6⟩
    all_goals
      go_enter Tryd.func10, Tryd.ntmps10
      go_wp2_with fail
      refine (awake_ok _ HT.out).mono ?_
      rintro e w1 ⟨rfl, b1⟩
      have HB1 := Lib.hid (HB.out.trans (b1.mono (by simp)))
      clear b1
      go_wp2
      go_ret
      exact ⟨rfl, HB1.out⟩
  · by_cases hn0 : n = 0
    · subst hn0
      by_cases hs : slots < 1 ∨ 1024 < slots
      · exact plays_bad slots w hs (by omega) hT
      · obtain ⟨k, rfl⟩ := Int.eq_ofNat_of_zero_le (show 0 ≤ slots by omega)
        exact plays_new k w (by omega) (by omega) hC (by omega) hcb hT
    · by_cases he : hcE n na nv G A = 0
      · obtain ⟨-, -, rfl, rfl, -⟩ := hcE_zero he
        exact plays_load slots w (by omega) hG hA hV (by omega) he hC (by omega) hcb hT
      · exact plays_wrong slots w (by omega) hG hA (by omega) (by omega) he (by omega) hT
end
end Go.Proofs.YtpaecmpiokkdnaaDoor

namespace Go.Proofs.YtpaecmpiokkdnaaDoor
open Go.ChangeShapes Go.WideShapes Go.ChangeAt Go.RowKit

theorem own : ownKnob Tryd.prog.godebug = none := by kernel_rfl
theorem gTab : Tryd.prog.globalNamed "math/bits.deBruijn64tab" = some 0 := by kernel_rfl
theorem gTabType : (Tryd.prog.globals[0]?).map (·.type) = some 150 := by kernel_rfl
theorem cellsTab : Tryd.prog.cellsOf 150 = 64 := by kernel_rfl
theorem cellsU8 : Tryd.prog.cellsOf 5 = 1 := by kernel_rfl

theorem tab_of {W : World} (h : laidMetH Tryd.prog [("math/bits.deBruijn64tab", Rows.laid_math_bits_deBruijn64tab)] W) : Tab W := by
  have ht : Lib.TabIs Tryd.prog W "math/bits.deBruijn64tab" .u8 (Lib.deBruijn64tab.map fun (x : Nat) => (x : Int)) :=
    Lib.tabIs_of_head (rest := []) gTab gTabType Tryd.underlying150 Tryd.underlying5 cellsU8 cellsTab h
  intro i hi
  have := ht.cell gTab i (by rw [List.length_map]; exact hi)
  rw [this]
  have e : (Lib.deBruijn64tab.map fun (x : Nat) => (x : Int)).getD i 0 = ((Lib.deBruijn64tab.getD i 0 : Nat) : Int) := by
    have h64 : Lib.deBruijn64tab.length = 64 := rfl
    simp [List.getD_eq_getElem?_getD, h64, hi]
  rw [e]

/-- A world for the witness: the settled one, the table holding what its initialiser lays. -/
noncomputable def laidWorld (os : Os) : World :=
  { World.holding Tryd.prog os ⟨#[], #[], []⟩ with heap := (World.holding Tryd.prog os ⟨#[], #[], []⟩).heap.modify 0 fun
      | .cells _ t frozen => .cells (Lib.deBruijn64tab.map fun (x : Nat) => Value.int .u8 (x : Int)).toArray t frozen
      | o => o }
theorem laidOut : laidOutB Tryd.prog = true := by kernel_rfl

theorem trodAll_below {H : Type} {enc : TypeId × Value → H} {W W' : World} (hb : Below W.heap.size W W') (ts : List TypeId) : ∀ (vs : List Value) (ds : List (DataW H)) (ps : List MemPlace),
    (ts.all fun t => Tryd.prog.readableRec t && decide (t < Tryd.prog.types.size)) = true → (∀ x ∈ ps, x.block < W.heap.size) → DataW.TrodAll enc Tryd.prog W 0 (fun _ => true) true ts vs ds ps →
    DataW.TrodAll enc Tryd.prog W' 0 (fun b => decide (b < W.heap.size)) true ts vs ds ps := by
  induction ts with
  | nil =>
    intro vs ds ps _ _ h
    obtain ⟨rfl, rfl, rfl⟩ := trodAll_nil h
    exact trodAll_mk0
  | cons t ts ih =>
    intro vs ds ps hr hlt h
    obtain ⟨v, vs', d, ds', p, q, rfl, rfl, rfl, h1, h2⟩ := trodAll_cons h
    rw [List.all_cons, Bool.and_eq_true, Bool.and_eq_true] at hr
    exact trodAll_cons_mk (Below.trod laidOut hr.1.1 (of_decide_eq_true hr.1.2) h1 hb (fun x hx => hlt x (List.mem_append_left _ hx))) (ih vs' ds' q hr.2 (fun x hx => hlt x (List.mem_append_right _ hx)) h2)

/-- WHAT A LAW's WALK GIVES THE ROW: true, the arguments read as they did. -/
theorem law_post {H : Type} {enc : TypeId × Value → H} {fn : Func} {s : ChangeSpec} {W W' : World} {args : Array Value} {ds gs : List (DataW H)} {before : List MemPlace}
    (hW : DataW.Whole enc Tryd.prog fn.params.toList s.vars false W args.toList ds gs before) (hv : s.vars = []) (hr : (fn.params.toList.all fun t => Tryd.prog.readableRec t && decide (t < Tryd.prog.types.size)) = true) (hrt : fn.resultTypes = #[4])
    (h1 : (s.fn H (ds ++ gs)).results = [.lit (.bool true)]) (h2 : (s.fn H (ds ++ gs)).args = ds) (h3 : (s.fn H (ds ++ gs)).vars = []) (hb : Below W.heap.size W W') :
    s.post enc Tryd.prog fn false true false false W args (.bool true) W' := by
  have hW' := hW
  have hlt := hW.lt
  obtain ⟨p, q, hA, hV, rfl, hfz, hnd⟩ := hW
  refine ⟨ds, gs, p ++ q, [], p, [], hW', ?_, ?_, ?_, hb.frame _, fun h => by cases h⟩
  · rw [h1, hrt]
    exact trodAll_cons_mk (shut_bool Tryd.underlying4 _) trodAll_mk0
  · rw [h2]
    exact trodAll_below hb _ _ _ _ hr (fun x hx => hlt x (List.mem_append_left _ hx)) hA
  · rw [h3, hv]; rfl
end Go.Proofs.YtpaecmpiokkdnaaDoor

namespace Go.Proofs.YtpaecmpiokkdnaaDoor
open Go.ChangeShapes Go.WideShapes Go.ChangeAt Go.RowKit Go.Joins

/-- the bounds of an int -/
def I64 (x : Int) : Prop := -9223372036854775808 ≤ x ∧ x ≤ 9223372036854775807
theorem I64.zero : I64 0 := ⟨by decide, by decide⟩
theorem cellsInt : Tryd.prog.cellsOf 3 = 1 := by kernel_rfl
theorem cellsBool : Tryd.prog.cellsOf 4 = 1 := by kernel_rfl
section
variable {H : Type} {enc : TypeId × Value → H} {W : World} {base : Nat}
theorem open_intsF {fuel : Nat} {v : Value} {x : DataW H × List MemPlace} (h : DataW.trod enc Tryd.prog W base (fun _ => true) true fuel 32 [v] = some x) :
    ∃ (a : Option Addr) (len cap : Nat) (G : Nat → Int), v = .slice a len cap ∧ SlF W a len (zI G) ∧ len ≤ 9223372036854775807 ∧ (∀ j, I64 (G j)) := by
  rcases open_ints Tryd.underlying32 Tryd.underlying3 cellsInt h with ⟨h, _⟩ | ⟨A, len, cap, zs, h, _, hl, hm, hz, _, hc, hwf⟩
  · cases h
    exact ⟨none, 0, 0, fun _ => 0, rfl, .inl rfl, by decide, fun _ => I64.zero⟩
  · cases h
    have hz' : zs.length = cap := by simpa using hz
    have hml : maxLen ≤ 9223372036854775807 := by decide
    refine ⟨some A, len, cap, fun j => zs.getD j 0, rfl, ?_, by omega, fun j => ?_⟩
    · by_cases h0 : len = 0
      · exact .inl h0
      · obtain ⟨b, off, rfl, hc'⟩ := ints_at hc (by omega)
        exact .inr ⟨b, off, rfl, fun j hj => hc' j (by omega)⟩
    · by_cases hj : j < zs.length
      · have := bounds_i64 (hwf zs[j] (List.getElem_mem _))
        have e : zs.getD j 0 = zs[j] := by simp [List.getD_eq_getElem?_getD, hj]
        dsimp only
        rw [e]; exact this
      · have e : zs.getD j 0 = 0 := by simp [List.getD_eq_getElem?_getD, hj]
        dsimp only
        rw [e]; exact I64.zero
theorem bools_at {a : Addr} {n : Nat} {B : Nat → Bool} (h : ∀ i, i < n → W.cell? (a.add i) = some (.bool (B i))) (hp : 0 < n) : ∃ b off, a = ⟨b, off, none⟩ ∧ ∀ j, j < n → W.cell? ⟨b, off + j, none⟩ = some (.bool (B j)) := by
  obtain ⟨b, off, spot⟩ := a
  have hspot : spot = none := by simpa [Addr.add] using World.cell?_spot (h 0 hp)
  subst hspot
  exact ⟨b, off, rfl, fun j hj => by rw [← Go.WideShapes.add_plain]; exact h j hj⟩
theorem open_boolsF {fuel : Nat} {v : Value} {x : DataW H × List MemPlace} (h : DataW.trod enc Tryd.prog W base (fun _ => true) true fuel 33 [v] = some x) :
    ∃ (a : Option Addr) (len cap : Nat) (B : Nat → Bool), v = .slice a len cap ∧ SlF W a len (zB B) ∧ len ≤ 9223372036854775807 := by
  rcases Go.Deep.open_bools Tryd.underlying33 Tryd.underlying4 cellsBool h with ⟨h, _⟩ | ⟨A, len, cap, B, h, _, hl, hm, _, hc⟩
  · cases h
    exact ⟨none, 0, 0, fun _ => false, rfl, .inl rfl, by decide⟩
  · cases h
    have hml : maxLen ≤ 9223372036854775807 := by decide
    refine ⟨some A, len, cap, B, rfl, ?_, by omega⟩
    by_cases h0 : len = 0
    · exact .inl h0
    · obtain ⟨b, off, rfl, hc'⟩ := bools_at hc (by omega)
      exact .inr ⟨b, off, rfl, fun j hj => hc' j (by omega)⟩
set_option maxRecDepth 100000 in
theorem open_boolsT {v : Value} {d : DataW H} {p : List MemPlace} (hv : Value.okWide Tryd.prog W .any base 33 v) (h : DataW.Trod enc Tryd.prog W 0 (fun _ => true) true 33 v d p) :
    ∃ (a : Option Addr) (len cap : Nat) (B : Nat → Bool), v = .slice a len cap ∧ SlF W a len (zB B) ∧ len ≤ 9223372036854775807 := by
  obtain ⟨a, l, c, rfl⟩ := okWide_slice Tryd.underlying33 hv
  obtain ⟨fuel, hf⟩ := h
  exact open_boolsF hf
set_option maxRecDepth 100000 in
theorem open_state {v : Value} {d : DataW H} {p : List MemPlace} (hv : Value.okWide Tryd.prog W .any base 35 v) (h : DataW.Trod enc Tryd.prog W 0 (fun _ => true) true 35 v d p) :
    ∃ (ga aa va : Option Addr) (n na nv gc ac vc : Nat) (G : Nat → Int) (A : Nat → Bool) (V : Nat → Int), v = .agg #[.slice ga n gc, .slice aa na ac, .slice va nv vc] ∧ SlF W ga n (zI G) ∧ SlF W aa na (zB A) ∧ SlF W va nv (zI V) ∧
      n ≤ 9223372036854775807 ∧ na ≤ 9223372036854775807 ∧ nv ≤ 9223372036854775807 ∧ (∀ j, I64 (G j)) ∧ (∀ j, I64 (V j)) := by
  obtain ⟨v0, v1, v2, y0, y1, y2, m, rfl, _, _, t0, t1, t2⟩ := open_agg3 Tryd.underlying35 (by kernel_rfl) (by kernel_rfl) hv h
  obtain ⟨ga, n, gc, G, rfl, h0, l0, b0⟩ := open_intsF t0
  obtain ⟨aa, na, ac, A, rfl, h1, l1⟩ := open_boolsF t1
  obtain ⟨va, nv, vc, V, rfl, h2, l2, b2⟩ := open_intsF t2
  exact ⟨ga, aa, va, n, na, nv, gc, ac, vc, G, A, V, rfl, h0, h1, h2, l0, l1, l2, b0, b2⟩
end
end Go.Proofs.YtpaecmpiokkdnaaDoor

namespace Go.Proofs.YtpaecmpiokkdnaaDoor
open Go.ChangeShapes Go.WideShapes Go.ChangeAt Go.RowKit Go.Joins Go.Deep
section
variable {H : Type} {enc : TypeId × Value → H} {P : Program} {w : World} {base : Nat} {spare : Nat → Bool} {held : Bool}
theorem open_slice_fields {t e : TypeId} {fs : Array Field} {fuel : Nat} {cs : List Value} {x : DataW H × List MemPlace} (ht : P.underlying t = some (.slice e)) (he : P.underlying e = some (.struct fs))
    (hone : oneCellFields P fs = true) (hC : P.cellsOf e = fs.size) (h : DataW.trod enc P w base spare held fuel t cs = some x) :
    (cs = [.slice none 0 0] ∧ x = (.nil, [])) ∨
    ∃ (a : Addr) (len cap m : Nat) (D : Nat → DataW H) (Pl : Nat → List MemPlace), cs = [.slice (some a) len cap] ∧ base ≤ a.block ∧ len ≤ cap ∧ cap ≤ maxLen ∧ m = (if spare a.block then cap else len) ∧
      x = (.slice ((List.range len).map D) ((List.range (m - len)).map fun j => D (len + j)), MemPlace.row a (m * fs.size) ++ (List.range m).flatMap Pl) ∧
      ∀ i, i < m → ∃ (ys : List (DataW H × List MemPlace)) (n : Nat), D i = .agg (ys.map (·.1)) ∧ Pl i = ys.flatMap (·.2) ∧ ys.length = fs.size ∧
        ∀ (j : Nat) (f : Field), fs[j]? = some f → ∃ (v : Value) (y : DataW H × List MemPlace), w.cell? (a.add (i * fs.size + j)) = some v ∧ ys[j]? = some y ∧ DataW.trod enc P w base spare held n f.type [v] = some y := by
  rcases open_slice ht h with h0 | ⟨a, len, cap, m, n, D, Pl, hcs, hb, hl, hm, hmm, hx, hi⟩
  · exact .inl h0
  · refine .inr ⟨a, len, cap, m, D, Pl, hcs, hb, hl, hm, hmm, by rw [hC] at hx; exact hx, fun i him => ?_⟩
    obtain ⟨cs', hc, ht'⟩ := hi i him
    rw [hC] at hc
    obtain ⟨ys, n', hn', hy, hlen, hyl, hf⟩ := DataW.trod_struct he ht'
    obtain ⟨_, hcl, hat⟩ := World.cells?_some hc
    simp only [Prod.mk.injEq] at hy
    refine ⟨ys, n', hy.1, hy.2, hyl, fun j f hj => ?_⟩
    obtain ⟨ho, hk⟩ := hone_of hone j f hj
    have hjl : j < fs.size := (Array.getElem?_eq_some_iff.1 hj).1
    have hcell := hat j hjl
    have hv : cs'[j]? = some (cs'[j]'(by omega)) := List.getElem?_eq_getElem (by omega)
    have h1 := hf j f hj
    rw [ho, hk] at h1
    have hone' : (cs'.drop j).take 1 = [cs'[j]'(by omega)] := by
      rw [List.drop_eq_getElem_cons (by omega)]
      rfl
    rw [hone'] at h1
    have hys : ys[j]? = some (ys[j]'(by omega)) := List.getElem?_eq_getElem (by omega)
    refine ⟨_, _, ?_, hys, h1.trans hys⟩
    rw [← Go.Deep.add_add, hcell, hv]
/-- the address of such a slice is plain -/
theorem plain_addr {a : Addr} {v : Value} {w : World} (h : w.cell? a = some v) : ∃ b o, a = ⟨b, o, none⟩ := by
  obtain ⟨b, o, spot⟩ := a
  have hs : spot = none := World.cell?_spot h
  subst hs
  exact ⟨b, o, rfl⟩
theorem choose4 {α : Type} [Inhabited α] {n : Nat} {p : Nat → α → Prop} (h : ∀ i, i < n → ∃ x, p i x) : ∃ f : Nat → α, ∀ i, i < n → p i (f i) := by
  classical
  refine ⟨fun i => if hi : i < n then Classical.choose (h i hi) else default, fun i hi => ?_⟩
  dsimp only
  rw [dif_pos hi]
  exact Classical.choose_spec (h i hi)
end
end Go.Proofs.YtpaecmpiokkdnaaDoor

namespace Go.Proofs.YtpaecmpiokkdnaaDoor
open Go.ChangeShapes Go.WideShapes Go.ChangeAt Go.RowKit Go.Joins Go.Deep

set_option maxRecDepth 100000 in
theorem open_calls {H : Type} {enc : TypeId × Value → H} {W : World} {base : Nat} {v : Value} {d : DataW H} {p : List MemPlace} (hv : Value.okWide Tryd.prog W .any base 50 v) (h : DataW.Trod enc Tryd.prog W 0 (fun _ => true) true 50 v d p) :
    ∃ (a : Option Addr) (n cap : Nat) (C : Nat → Cll), v = .slice a n cap ∧ SlC W a n C ∧ n ≤ 9223372036854775807 ∧ ∀ j, j < n → (C j).1 ≤ 255 ∧ (C j).2.2.1 ≤ 255 := by
  obtain ⟨a, l, c, rfl⟩ := okWide_slice Tryd.underlying50 hv
  obtain ⟨fuel, hf⟩ := h
  rcases open_slice_fields Tryd.underlying50 Tryd.underlying55 (by kernel_rfl) (by kernel_rfl) hf with ⟨h, _⟩ | ⟨A, len, cap, mm, D, Pl, h, _, hl, hm, hmm, _, hi⟩
  · cases h
    exact ⟨none, 0, 0, fun _ => (0, 0, 0, 0), rfl, .inl rfl, by decide, fun j hj => by omega⟩
  · cases h
    have hml : maxLen ≤ 9223372036854775807 := by decide
    simp only [↓reduceIte] at hmm
    have key : ∀ i, i < c → ∃ x : Cll, W.cell? (A.add (i * 4)) = some (.int .u8 (x.1 : Int)) ∧ W.cell? (A.add (i * 4 + 1)) = some (.int .i64 x.2.1) ∧ W.cell? (A.add (i * 4 + 2)) = some (.int .u8 (x.2.2.1 : Int)) ∧ W.cell? (A.add (i * 4 + 3)) = some (.int .i64 x.2.2.2) ∧ x.1 ≤ 255 ∧ x.2.2.1 ≤ 255 := by
      intro i hic
      obtain ⟨ys, n', _, _, _, hf⟩ := hi i (by omega)
      obtain ⟨v0, y0, g0, _, t0⟩ := hf 0 _ rfl
      obtain ⟨v1, y1, g1, _, t1⟩ := hf 1 _ rfl
      obtain ⟨v2, y2, g2, _, t2⟩ := hf 2 _ rfl
      obtain ⟨v3, y3, g3, _, t3⟩ := hf 3 _ rfl
      obtain ⟨x0, e0, _, w0⟩ := DataW.trod_int Tryd.underlying5 t0
      obtain ⟨x1, e1, _, _⟩ := DataW.trod_int Tryd.underlying2 t1
      obtain ⟨x2, e2, _, w2⟩ := DataW.trod_int Tryd.underlying5 t2
      obtain ⟨x3, e3, _, _⟩ := DataW.trod_int Tryd.underlying3 t3
      cases e0; cases e1; cases e2; cases e3
      have b0 := bounds_u8 w0
      have b2 := bounds_u8 w2
      obtain ⟨z0, rfl⟩ := Int.eq_ofNat_of_zero_le b0.1
      obtain ⟨z2, rfl⟩ := Int.eq_ofNat_of_zero_le b2.1
      exact ⟨(z0, x1, z2, x3), g0, g1, g2, g3, by dsimp only; omega, by dsimp only; omega⟩
    obtain ⟨C, hC⟩ := choose4 key
    refine ⟨some A, l, c, C, rfl, ?_, by omega, fun j hj => (hC j (by omega)).2.2.2.2⟩
    by_cases h0 : l = 0
    · exact .inl h0
    · obtain ⟨b, o, rfl⟩ := plain_addr (hC 0 (by omega)).1
      refine .inr ⟨b, o, rfl, fun j hj => ?_⟩
      obtain ⟨e0, e1, e2, e3, _⟩ := hC j (by omega)
      simp only [Go.WideShapes.add_plain] at e0 e1 e2 e3
      exact ⟨e0, e1, e2, e3⟩
end Go.Proofs.YtpaecmpiokkdnaaDoor

namespace Go.Proofs.YtpaecmpiokkdnaaDoor.handlesPlays
open Go.ChangeShapes Go.WideShapes Go.ChangeAt Go.RowKit

set_option maxRecDepth 100000 in
theorem contract (H : Type) (enc : TypeId × Value → H) (W : World) (base : Nat) (args : Array Value) (ds gs : List (DataW H)) (before : List MemPlace)
    (hval : ∀ (j : Nat) t v, Tryd.f10.params[j]? = some t → args[j]? = some v → Value.okWide Tryd.prog W .any base t v)
    (hW : DataW.Whole enc Tryd.prog Tryd.f10.params.toList Rows.handlesPlaysSpec.vars false W args.toList ds gs before) (hL : laidMetH Tryd.prog Rows.handlesPlaysRow.laid W) :
    Calls Tryd.prog 10 args W fun e W' => ∃ v, e = .returned v ∧ Rows.handlesPlaysSpec.post enc Tryd.prog Tryd.f10 false true false false W args v W' := by
  have hW' := hW
  obtain ⟨p, q, hA0, hV, rfl, hfz, hnd⟩ := hW
  have hA : DataW.TrodAll enc Tryd.prog W 0 (fun _ => true) true Tryd.f10.params.toList args.toList ds p := hA0
  rw [Tryd.params10] at hA hval
  obtain ⟨v0, vs0, d0, ds0, p0, q0, hargs, rfl, rfl, h0, r0⟩ := trodAll_cons hA
  obtain ⟨v1, vs1, d1, ds1, p1, q1, rfl, rfl, rfl, h1, r1⟩ := trodAll_cons r0
  obtain ⟨v2, vs2, d2, ds2, p2, q2, rfl, rfl, rfl, h2, r2⟩ := trodAll_cons r1
  obtain ⟨rfl, rfl, rfl⟩ := trodAll_nil r2
  obtain rfl : args = #[v0, v1, v2] := by cases args; simp_all
  obtain ⟨rfl, rfl⟩ := trodVars_none hV
  obtain ⟨x0, rfl, rfl, rfl, w0⟩ := open_int Tryd.underlying3 (hval 0 3 v0 rfl rfl) h0
  have b0 := bounds_i64 w0
  obtain ⟨ga1, aa1, va1, n1, na1, nv1, gc1, ac1, vc1, G1, A1, V1, rfl, sG1, sA1, sV1, ln1, la1, lv1, bG1, bV1⟩ := open_state (hval 1 35 v1 rfl rfl) h1
  obtain ⟨a2, l2, c2, C2, rfl, hC2, ll2, cb2⟩ := open_calls (hval 2 50 v2 rfl rfl) h2
  refine (law_plays x0 W sG1 sA1 sV1 hC2 ln1 ll2 cb2 (tab_of hL)).mono fun e W' ⟨he, hb⟩ => ?_
  exact ⟨_, he, law_post hW' rfl (by rw [Tryd.params10]; kernel_rfl) rfl rfl rfl rfl hb⟩

theorem laid_met (os : Os) : laidMet Tryd.prog Rows.handlesPlaysRow.laid ((laidWorld os).forCall (fun _ _ => 0) ⟨#[], #[.int .i64 0, .agg #[.slice none 0 0, .slice none 0 0, .slice none 0 0], .slice none 0 0], []⟩).memory :=
  laidMet_of_run' 8 (by kernel_rfl) (by kernel_rfl)
theorem reads (os : Os) {H : Type} (enc : TypeId × Value → H) : ∃ places, DataW.whole enc Tryd.prog ((laidWorld os).forCall (fun _ _ => 0) ⟨#[], #[.int .i64 0, .agg #[.slice none 0 0, .slice none 0 0, .slice none 0 0], .slice none 0 0], []⟩).memory Tryd.f10.params.toList Rows.handlesPlaysSpec.vars false #[Value.int .i64 0, Value.agg #[.slice none 0 0, .slice none 0 0, .slice none 0 0], Value.slice none 0 0].toList 8 = some ([.lit (.int .i64 0), .agg [.nil, .nil, .nil], .nil], [], places) :=
  ⟨[], by kernel_rfl⟩

set_option maxRecDepth 100000 in
theorem lifted (os : Os) (started : os.Started) (H : Type) (enc : TypeId × Value → H) (F : Stop.Interp) :
    ReturnsInHanded {} Tryd.checked os 10 .any ((OpenSpec.ofChange Rows.handlesPlaysSpec).preRow enc Tryd.prog Tryd.f10 Rows.handlesPlaysRow.domain false Rows.handlesPlaysRow.laid) (((OpenSpec.ofChange Rows.handlesPlaysSpec).at F).post enc Tryd.prog Tryd.f10 false true false false) := by
  obtain ⟨places, hx⟩ := reads os enc
  refine returnsInHanded_of_row (C := Tryd.checked) (s := OpenSpec.ofChange Rows.handlesPlaysSpec) own started (by kernel_rfl) Tryd.func10
    (witness_row_at (enc := enc) (C := Tryd.checked) false (laidWorld os) #[.int .i64 0, .agg #[.slice none 0 0, .slice none 0 0, .slice none 0 0], .slice none 0 0] rfl (by kernel_rfl) (by kernel_rfl) (by kernel_rfl)
      (OpenSpec.preRow_of_cond 8 hx (by kernel_rfl) (fun k hk => by cases hk) (by kernel_rfl) (laid_met os))) ?_
  intro W base args ds gs before hval hW _ _ _ hL _ _
  exact contract H enc W base args ds gs before hval hW hL

theorem said : Rows.HandlesPlaysSaid :=
  OpenClaim.holds_of_cond 10 Tryd.f10 rfl rfl rfl rfl rfl rfl rfl ⟨rfl, rfl, rfl, rfl, rfl⟩ rfl rfl rfl rfl rfl (by kernel_rfl) Tryd.func10 (by kernel_rfl)
    (of_decide_eq_true (by kernel_rfl)) (by unfold Func.isWrapper; first | (rw [if_pos (by decide +kernel)]; kernel_rfl) | (rw [if_neg (by decide +kernel)]; exact ⟨rfl, rfl⟩))
    (fun os started H enc _ F => by rw [OpenClaim.pre_eq_preRow]; exact lifted os started H enc F)

theorem plain (f : FuncId) (fn : Func) (hf : Tryd.pinned.checked.prog.funcNamed "polder/polderlaw16.HandlesPlays" = some f) (hfn : Tryd.pinned.checked.prog.funcs[f]? = some fn) :
    false = Tryd.pinned.checked.prog.looks [] ∧ ∀ (j : Nat) t, fn.params[j]? = some t → Tryd.pinned.checked.prog.wantsStandIn t = false := by
  obtain rfl : f = 10 := Option.some.inj ((show Tryd.prog.funcNamed "polder/polderlaw16.HandlesPlays" = some 10 by kernel_rfl).symm.trans hf) |>.symm
  obtain rfl : fn = Tryd.f10 := (Option.some.inj (Tryd.func10.symm.trans hfn)).symm
  refine ⟨by kernel_rfl, fun j t ht => ?_⟩
  rw [Tryd.params10] at ht
  have hm : t ∈ [3, 35, 50] := by simpa using Array.mem_of_getElem? ht
  have hall : ([3, 35, 50].all fun u => !Tryd.prog.wantsStandIn u) = true := by kernel_rfl
  exact (show Tryd.prog.wantsStandIn t = false by simpa using List.all_eq_true.1 hall t hm)

/-- THE CARD. -/
theorem card : Rows.HandlesPlaysCardSaid :=
  Claim7.holds_tied_plain_at .later [] _ _ _ _ said (fun _ h => by cases h) (by kernel_rfl) (fun _ h => by cases h) handlesPlays_row_tie rfl ⟨rfl, rfl⟩ (by kernel_rfl) rfl plain (by kernel_rfl)
#print axioms card
end Go.Proofs.YtpaecmpiokkdnaaDoor.handlesPlays
