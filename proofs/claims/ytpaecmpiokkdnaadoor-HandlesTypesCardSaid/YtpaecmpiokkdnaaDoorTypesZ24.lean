/- Handles: play of the laws: calls on a table and on a state. -/
import Derived.Test.YtpaecmpiokkdnaaDoorTypesZ23
import Derived.Deep.RegionHeld3
import Derived.RegionTactic
namespace Go.Proofs.YtpaecmpiokkdnaaDoor
open Go.RowKit Go.Sort Go.Joins
attribute [local go_sem] cell_grow frozen_grow size_grow

/-- calls that lie below a block -/
def SlCB (w : World) (B : Nat) (a : Option Addr) (n : Nat) (C : Nat → Cll) : Prop := n = 0 ∨ ∃ b o, a = some ⟨b, o, none⟩ ∧ b < B ∧ ∀ j, j < n → w.cell? ⟨b, o + j * 4, none⟩ = some (.int .u8 ((C j).1 : Int)) ∧ w.cell? ⟨b, o + j * 4 + 1, none⟩ = some (.int .i64 (C j).2.1) ∧ w.cell? ⟨b, o + j * 4 + 2, none⟩ = some (.int .u8 ((C j).2.2.1 : Int)) ∧ w.cell? ⟨b, o + j * 4 + 3, none⟩ = some (.int .i64 (C j).2.2.2)
theorem getV_ok {st : List Slt} {h z : Int} {i : Nat} (he : findE st h = 0) (hi : slotI h = i) (hz : (st.getD i (0, false, undef)).2.2 = .int .i64 z) : getV st h = .int .i64 z := by unfold getV; rw [if_pos he, hi, Int.toNat_natCast, hz]
theorem getV_err {st : List Slt} {h : Int} (he : findE st h ≠ 0) : getV st h = .int .i64 0 := by unfold getV; rw [if_neg he]
theorem slt_eta {s : Slt} {g : Nat} {z : Int} (h0 : s.1 = g) (h1 : s.2.1 = true) (h2 : s.2.2 = .int .i64 z) : s = (g, true, .int .i64 z) := by rw [← h0, ← h1, ← h2]
theorem PL.result {w W : World} {B p q n : Nat} {st su : List Slt} {K : List Kn} {a0 a1 a2 : Option Addr} {k0 k1 k2 : Nat} {r : Value} (h : PL w W B p q n st su K a0 k0 a1 k1 a2 k2 r) (x y z : Value) :
    Int.TT (((W.setCell ⟨w.heap.size + 1, 0, none⟩ x).setCell ⟨w.heap.size + 1, 1, none⟩ y).setCell ⟨w.heap.size + 1, 2, none⟩ z) B p q st ∧ OS (((W.setCell ⟨w.heap.size + 1, 0, none⟩ x).setCell ⟨w.heap.size + 1, 1, none⟩ y).setCell ⟨w.heap.size + 1, 2, none⟩ z) n su a0 k0 a1 k1 a2 k2 ∧
      Fr p q w (((W.setCell ⟨w.heap.size + 1, 0, none⟩ x).setCell ⟨w.heap.size + 1, 1, none⟩ y).setCell ⟨w.heap.size + 1, 2, none⟩ z) ∧ Tab (((W.setCell ⟨w.heap.size + 1, 0, none⟩ x).setCell ⟨w.heap.size + 1, 1, none⟩ y).setCell ⟨w.heap.size + 1, 2, none⟩ z) := by
  have hb := h.rb
  have hp := h.pw
  have hq := h.qw
  have hb1 : (W.setCell ⟨w.heap.size + 1, 0, none⟩ x).heap[w.heap.size + 1]? = some (.cells #[x, .slice none 0 0, .slice none 0 0] 35 (0, 0)) := by rw [setCell_block hb]; rfl
  have hb2 : ((W.setCell ⟨w.heap.size + 1, 0, none⟩ x).setCell ⟨w.heap.size + 1, 1, none⟩ y).heap[w.heap.size + 1]? = some (.cells #[x, y, .slice none 0 0] 35 (0, 0)) := by rw [setCell_block hb1]; rfl
  have keep : ∀ {bs : Nat} {e : TypeId} {v : Value} {m : Nat} {xs : List Value}, W.ownsRow bs e 1 v m xs → e ≠ 35 → (((W.setCell ⟨w.heap.size + 1, 0, none⟩ x).setCell ⟨w.heap.size + 1, 1, none⟩ y).setCell ⟨w.heap.size + 1, 2, none⟩ z).ownsRow bs e 1 v m xs := fun ho hne =>
    ownsRow_setCell_other (ownsRow_setCell_other (ownsRow_setCell_other ho (a := ⟨w.heap.size + 1, 0, none⟩) (own_ne ho hb hne) _) (a := ⟨w.heap.size + 1, 1, none⟩) (own_ne ho hb hne) _) (a := ⟨w.heap.size + 1, 2, none⟩) (own_ne ho hb hne) _
  refine ⟨Tb.set_other (Tb.set_other (Tb.set_other h.t hb (by decide) (by omega) (by omega) _) hb1 (by decide) (by omega) (by omega) _) hb2 (by decide) (by omega) (by omega) _, ⟨keep h.oa.o0 (by decide), keep h.oa.o1 (by decide), keep h.oa.o2 (by decide), h.oa.n02⟩, ?_, ?_⟩
  · have f := h.fr
    refine ⟨f.os, f.tape, f.output, by simp only [World.size_setCell]; exact f.size, fun k hk h1 h2 => ?_⟩
    exact (Below.heap_setCell _ _ _ _ (by dsimp only; omega)).trans ((Below.heap_setCell _ _ _ _ (by dsimp only; omega)).trans ((Below.heap_setCell _ _ _ _ (by dsimp only; omega)).trans (f.block k hk h1 h2)))
  · have e1 : 0 ≠ w.heap.size + 1 := by have := h.tw; have := h.bp.1; omega
    exact ((h.tab.blk e1 _).blk e1 _).blk e1 _
section
variable {B p q n m cc : Nat} {ca : Option Addr} {C : Nat → Cll}
set_option maxRecDepth 100000 in
set_option maxHeartbeats 12800000 in
theorem play_ok (w : World) {st0 : List Slt} {a0 a1 a2 : Option Addr} {k0 k1 k2 : Nat} (ht : Int.TT w B p q st0) (ho : OS w n st0 a0 k0 a1 k1 a2 k2) (hps : PS n st0) (hn : n ≤ 60) (hC : SlCB w B ca m C) (hm : m ≤ 60) (hcb : ∀ j, j < m → (C j).1 ≤ 255 ∧ (C j).2.2.1 ≤ 255) (hT : Tab w) (htw : 0 < B) :
    Calls Tryd.prog 47 #[.pointer (some ⟨p, 0, none⟩), .agg #[.slice a0 n k0, .slice a1 n k1, .slice a2 n k2], .slice ca m cc] w fun e w' => ∃ b0 l0 b1 l1 b2 l2 st', e = .returned (.tuple #[.agg #[.slice b0 n l0, .slice b1 n l1, .slice b2 n l2], .bool true]) ∧
      Int.TT w' B p q st' ∧ OS w' n st' b0 l0 b1 l1 b2 l2 ∧ PS n st' ∧ Fr p q w w' ∧ Tab w' := by
  obtain ⟨i0, hi0, hz0, hs0, hb0⟩ := info_parts info_i64
  have h1n : 1 ≤ n := by rw [← hps.len]; exact ht.n1
  have bb := (below_box0 w (.cells #[.slice a0 n k0, .slice a1 n k1, .slice a2 n k2] 35)).trans ((below_box0 (w.alloc (.cells #[.slice a0 n k0, .slice a1 n k1, .slice a2 n k2] 35)) (.cells #[.slice none 0 0, .slice none 0 0, .slice none 0 0] 35)).mono (by simp))
  have hpw := World.block_lt_of_cell? _ _ (Tb.c0 ht)
  have hqw := blk_lt (Tb.slots ht)
  dsimp only at hpw
  have hbx1 : ((w.alloc (.cells #[.slice a0 n k0, .slice a1 n k1, .slice a2 n k2] 35)).alloc (.cells #[.slice none 0 0, .slice none 0 0, .slice none 0 0] 35)).heap[w.heap.size + 1]? = some (.cells #[.slice none 0 0, .slice none 0 0, .slice none 0 0] 35 (0, 0)) := by have := heap_alloc_new (w.alloc (.cells #[.slice a0 n k0, .slice a1 n k1, .slice a2 n k2] 35)) (.cells #[.slice none 0 0, .slice none 0 0, .slice none 0 0] 35); rwa [World.size_alloc] at this
  have hPL : PL w ((w.alloc (.cells #[.slice a0 n k0, .slice a1 n k1, .slice a2 n k2] 35)).alloc (.cells #[.slice none 0 0, .slice none 0 0, .slice none 0 0] 35)) B p q n st0 st0 [] a0 k0 a1 k1 a2 k2 (.slice none 0 0) :=
    ⟨Tg.below ht bb, hT.below bb, (Below.heap_alloc _ _ _ (by simp)).trans (heap_alloc_new w _), ho.below bb, World.ownsRow_nil _ _ _ _, hbx1, Fr.of_below bb, hpw, hqw, htw, ⟨Tb.hp ht, Tb.hq ht⟩⟩
  have HP0 := Lib.hid hPL
  have HPS0 := Lib.hid hps
  have HCB := Lib.hid hcb
  have HCw := Lib.hid hC
  have hBw : B ≤ p := Tb.hp ht
  have hBq : B ≤ q := Tb.hq ht
  clear ht ho hps hC hcb hT hPL bb hbx1
  go_enter Tryd.func47, Tryd.ntmps47
  go_wp2
  go_loopw [8, 9] (fun s x wr => ∃ (k : Nat) (r : Value) (st : List Slt) (K : List Kn) (a0 : Option Addr) (k0 : Nat) (a1 : Option Addr) (k1 : Nat) (a2 : Option Addr) (k2 : Nat), r = s ∧ k ≤ m ∧ x = .int .i64 k ∧ Hid (PL w wr B p q n st st K a0 k0 a1 k1 a2 k2 r) ∧ Hid (PS n st) ∧ K.length ≤ k) (fun _ x _ => m - (intOf x).toNat)
  case atStart => exact ⟨0, _, st0, [], a0, k0, a1, k1, a2, k2, rfl, Nat.zero_le _, rfl, HP0, HPS0, Nat.le_refl _⟩
  case round =>
    clear HP0 HPS0
    obtain ⟨k, r, st, K, a0, k0, a1, k1, a2, k2, rfl, hk, rfl, HP, HPS, hKl⟩ := hrel
    have hszw := HP.out.fr.size
    by_cases hlt : k < m
    · obtain ⟨cb, co, hca, hcB, hcc⟩ := HCw.out.resolve_left (by omega)
      obtain ⟨hc0, hc1, hc2, hc3⟩ := hcc k hlt
      obtain ⟨hw1, ho1⟩ := HCB.out k hlt
      subst hca
      obtain ⟨⟨wh, hh, oo, vv⟩, hCk⟩ : ∃ c, C k = c := ⟨_, rfl⟩
      rw [hCk] at hc0 hc1 hc2 hc3 hw1 ho1
      dsimp only at hc0 hc1 hc2 hc3 hw1 ho1
      have hcbk := HP.out.fr.block cb (by omega) (by omega) (by omega)
      have c0 := (World.cell?_of_block (a := ⟨cb, co + k * 4, none⟩) hcbk).trans hc0
      have c1 := (World.cell?_of_block (a := ⟨cb, co + k * 4 + 1, none⟩) hcbk).trans hc1
      have c2 := (World.cell?_of_block (a := ⟨cb, co + k * 4 + 2, none⟩) hcbk).trans hc2
      have c3 := (World.cell?_of_block (a := ⟨cb, co + k * 4 + 3, none⟩) hcbk).trans hc3
      have hcl : cb < wr.heap.size := by omega
      obtain ⟨n2, hn2⟩ : ∃ n2, K.length = n2 := ⟨_, rfl⟩
      have e0 := HP.out.row
      rw [hn2] at e0 hKl
      obtain ⟨u, c, rfl⟩ := own_slice e0
      have HSF : Hid (SlF wr u n2 (fun j => .int .i64 (K.getD j (0, false, 0)).1)) := Lib.hid (SlF.of_own e0 (fun j hj => kH_get (by omega)))
      have HKN := Lib.hid hn2
      have x0 : wr.cell? ⟨w.heap.size, 0, none⟩ = some (.slice a0 n k0) := by rw [cell_of_block HP.out.bx]; rfl
      have x1 : wr.cell? ⟨w.heap.size, 1, none⟩ = some (.slice a1 n k1) := by rw [cell_of_block HP.out.bx]; rfl
      have x2 : wr.cell? ⟨w.heap.size, 2, none⟩ = some (.slice a2 n k2) := by rw [cell_of_block HP.out.bx]; rfl
      obtain ⟨r, hr⟩ : ∃ r : Nat, wh % 6 = r := ⟨_, rfl⟩
      have hr6 : r < 6 := by rw [← hr]; exact Nat.mod_lt _ (by decide)
      have m1 : (wh : Int) % 6 = (r : Int) := by omega
      have wh0 : (0 : Int) ≤ (wh : Int) := by omega
      have wh1 : (wh : Int) ≤ 255 := by omega
      have z0 : (0 : Int) ≤ (k : Int) := by omega
      have z1 : (k : Int) < (m : Int) := by omega
      have z2 : decide ((k : Int) < (m : Int)) = true := by simp; omega
      have z3 : decide (k < m) = true := by simpa using hlt
      have HM1 := Lib.hid m1
      clear hc0 hc1 hc2 hc3 hcc hCk hn2 e0 hr m1 hcbk
      go_wp2_with fail
      refine (handle_ok (wh, hh, oo, vv) _ (HSF.out.below (below_box0 _ _)) HKN.out (by omega) (by dsimp only; omega)).mono ?_
      rintro e w3 ⟨rfl, b3⟩
      obtain ⟨h, hhd⟩ : ∃ h, hndC hh oo K = h := ⟨_, rfl⟩
      rw [hhd]
      have bbx : Below wr.heap.size wr w3 := (below_box0 _ _).trans (b3.mono (by simp))
      have P3 := Lib.hid (HP.out.below bbx)
      have hbx3 := (b3.block _ (by simp)).trans (heap_alloc_new wr (.cells #[.int .u8 (wh : Int), .int .i64 hh, .int .u8 (oo : Int), .int .i64 vv] 55))
      have b30 : w3.cell? ⟨wr.heap.size, 0, none⟩ = some (.int .u8 (wh : Int)) := by rw [cell_of_block hbx3]; rfl
      have b33 : w3.cell? ⟨wr.heap.size, 3, none⟩ = some (.int .i64 vv) := by rw [cell_of_block hbx3]; rfl
      have HX3 := Lib.hid hbx3
      have y0 : w3.cell? ⟨w.heap.size, 0, none⟩ = some (.slice a0 n k0) := by rw [cell_of_block P3.out.bx]; rfl
      have y1 : w3.cell? ⟨w.heap.size, 1, none⟩ = some (.slice a1 n k1) := by rw [cell_of_block P3.out.bx]; rfl
      have y2 : w3.cell? ⟨w.heap.size, 2, none⟩ = some (.slice a2 n k2) := by rw [cell_of_block P3.out.bx]; rfl
      have hrm := HM1.out
      have hXw : w.heap.size < wr.heap.size := blk_lt HP.out.bx
      have hps := HPS.out
      clear hhd b3 bbx c0 c1 c2 c3 HP HSF z0 z1 z2 z3 x0 x1 x2 hbx3
      by_cases hr2 : r = 2
      · have q2 : ((r : Int) == 2) = true := by simp; omega
        by_cases he : findE st h = 0
        · obtain ⟨i, hi, hil, hal, _⟩ := Int.findE_zero he
          obtain ⟨z, hz⟩ := hps.iv i hil
          have hz' : (st.getD i (0, false, undef)).2.2 = .int .i64 z := hz
          have hget := Int.get_ok h w3 P3.out.t he
          rw [hi, Int.toNat_natCast, hz'] at hget
          have HG := Lib.hid hget
          have HGV := Lib.hid (getV_ok he hi hz')
          have HE := Lib.hid he
          have qz : (z != z) = false := by simp
          clear hget he hi hil hal hz hz' hps hr2
          go_wp2_with fail
          refine HG.out.mono ?_
          rintro e w4 ⟨rfl, rfl⟩
          go_wp2_with fail
          refine (pget h w3 HPS.out P3.out.oa (by omega)).mono ?_
          rintro e W5 ⟨rfl, b5⟩
          rw [HGV.out, HE.out]
          have P5 := Lib.hid (P3.out.below b5)
          have PS5 := HPS
          clear b5 b30 b33 y0 y1 y2
          go_wp2
          obtain ⟨cn, hcn⟩ : ∃ cn, (st).countP alv = cn := ⟨_, rfl⟩
          obtain ⟨rm, hrm'⟩ : ∃ rm, cnt (rdyF (st)) 0 (st).length = rm := ⟨_, rfl⟩
          have v0 : W5.cell? ⟨w.heap.size, 0, none⟩ = some (.slice a0 n k0) := by rw [cell_of_block P5.out.bx]; rfl
          have v1 : W5.cell? ⟨w.heap.size, 1, none⟩ = some (.slice a1 n k1) := by rw [cell_of_block P5.out.bx]; rfl
          have v2 : W5.cell? ⟨w.heap.size, 2, none⟩ = some (.slice a2 n k2) := by rw [cell_of_block P5.out.bx]; rfl
          have HC : Hid (∀ w', Below W5.heap.size W5 w' → w'.cell? ⟨w.heap.size, 0, none⟩ = some (.slice a0 n k0) ∧ w'.cell? ⟨w.heap.size, 1, none⟩ = some (.slice a1 n k1) ∧ w'.cell? ⟨w.heap.size, 2, none⟩ = some (.slice a2 n k2)) := Lib.hid (fun w' h => ⟨cell_later h v0, cell_later h v1, cell_later h v2⟩)
          have L1 : Hid (∀ W', Below W5.heap.size W5 W' → Calls Tryd.prog 24 #[.pointer (some ⟨p, 0, none⟩)] W' fun e w' => e = .returned (.int .i64 (cn : Int)) ∧ W' = w') := Lib.hid (fun W' h => by rw [← hcn]; exact Int.len_ok W' (Tg.below P5.out.t h))
          have L2 : Hid (∀ W', Below W5.heap.size W5 W' → Calls Tryd.prog 73 #[.agg #[.slice a0 n k0, .slice a1 n k1, .slice a2 n k2]] W' fun e w' => e = .returned (.int .i64 (cn : Int)) ∧ Below W'.heap.size W' w') := Lib.hid (fun W' h => by rw [← hcn]; exact plen W' PS5.out (P5.out.oa.below h) (by omega))
          have L3 : Hid (∀ W', Below W5.heap.size W5 W' → Calls Tryd.prog 36 #[.pointer (some ⟨p, 0, none⟩)] W' fun e w' => e = .returned (.int .i64 (rm : Int)) ∧ Below W'.heap.size W' w') := Lib.hid (fun W' h => by rw [← hrm']; exact Int.room_ok W' (Tg.below P5.out.t h))
          have L4 : Hid (∀ W', Below W5.heap.size W5 W' → Calls Tryd.prog 74 #[.agg #[.slice a0 n k0, .slice a1 n k1, .slice a2 n k2]] W' fun e w' => e = .returned (.int .i64 (rm : Int)) ∧ Below W'.heap.size W' w') := Lib.hid (fun W' h => by rw [← hrm']; exact proom W' PS5.out (P5.out.oa.below h) (by omega))
          have qc : ((cn : Int) != (cn : Int)) = false := by simp
          have qr : ((rm : Int) != (rm : Int)) = false := by simp
          clear hcn hrm'
          go_region_held3 (fun w' => Below W5.heap.size W5 w' ∧ w'.cell? ⟨w.heap.size, 0, none⟩ = some (.slice a0 n k0) ∧ w'.cell? ⟨w.heap.size, 1, none⟩ = some (.slice a1 n k1) ∧ w'.cell? ⟨w.heap.size, 2, none⟩ = some (.slice a2 n k2))
            ((refine keepN HC ?_; first | exact (Below.refl _ _).drew | exact And.left (by assumption) | exact bel_call (by assumption) (by assumption)))
            (first
              | (go_at_call 24; (with_reducible refine (L1.out _ (And.left (by assumption))).mono ?_); rintro e w6 ⟨rfl, rfl⟩)
              | (go_at_call 73; (with_reducible refine (L2.out _ (And.left (by assumption))).mono ?_); rintro e w7 ⟨rfl, b7⟩; have g7 : Below W5.heap.size W5 w7 := bel_call (by assumption) b7)
              | (go_at_call 36; (with_reducible refine (L3.out _ (And.left (by assumption))).mono ?_); rintro e w8 ⟨rfl, b8⟩; have g8 : Below W5.heap.size W5 w8 := bel_call (by assumption) b8)
              | (go_at_call 74; (with_reducible refine (L4.out _ (And.left (by assumption))).mono ?_); rintro e w9 ⟨rfl, b9⟩; have g9 : Below W5.heap.size W5 w9 := bel_call (by assumption) b9))
          all_goals
            go_wp2
            refine ⟨⟨k + 1, _, st, K, a0, k0, a1, k1, a2, k2, rfl, by omega, by simp, Lib.hid (P5.out.below (by first | exact And.left (by assumption) | assumption | exact (And.left (by assumption) : Below W5.heap.size W5 _))), PS5, by have := HKN.out; omega⟩, by simp [intOf]; omega⟩
        · have hget := Int.get_err h w3 P3.out.t he
          have HG := Lib.hid hget
          have HGV := Lib.hid (getV_err he)
          obtain ⟨ev, hev⟩ : ∃ ev, findE st h = ev := ⟨_, rfl⟩
          rw [hev] at HG
          have HE := Lib.hid hev
          have qz : (ev != ev) = false := by simp
          clear hget he hev hps hr2
          go_wp2_with fail
          refine HG.out.mono ?_
          rintro e w4 ⟨rfl, rfl⟩
          go_wp2_with fail
          refine (pget h w3 HPS.out P3.out.oa (by omega)).mono ?_
          rintro e W5 ⟨rfl, b5⟩
          rw [HGV.out, HE.out]
          have P5 := Lib.hid (P3.out.below b5)
          have PS5 := HPS
          clear b5 b30 b33 y0 y1 y2
          go_wp2
          obtain ⟨cn, hcn⟩ : ∃ cn, (st).countP alv = cn := ⟨_, rfl⟩
          obtain ⟨rm, hrm'⟩ : ∃ rm, cnt (rdyF (st)) 0 (st).length = rm := ⟨_, rfl⟩
          have v0 : W5.cell? ⟨w.heap.size, 0, none⟩ = some (.slice a0 n k0) := by rw [cell_of_block P5.out.bx]; rfl
          have v1 : W5.cell? ⟨w.heap.size, 1, none⟩ = some (.slice a1 n k1) := by rw [cell_of_block P5.out.bx]; rfl
          have v2 : W5.cell? ⟨w.heap.size, 2, none⟩ = some (.slice a2 n k2) := by rw [cell_of_block P5.out.bx]; rfl
          have HC : Hid (∀ w', Below W5.heap.size W5 w' → w'.cell? ⟨w.heap.size, 0, none⟩ = some (.slice a0 n k0) ∧ w'.cell? ⟨w.heap.size, 1, none⟩ = some (.slice a1 n k1) ∧ w'.cell? ⟨w.heap.size, 2, none⟩ = some (.slice a2 n k2)) := Lib.hid (fun w' h => ⟨cell_later h v0, cell_later h v1, cell_later h v2⟩)
          have L1 : Hid (∀ W', Below W5.heap.size W5 W' → Calls Tryd.prog 24 #[.pointer (some ⟨p, 0, none⟩)] W' fun e w' => e = .returned (.int .i64 (cn : Int)) ∧ W' = w') := Lib.hid (fun W' h => by rw [← hcn]; exact Int.len_ok W' (Tg.below P5.out.t h))
          have L2 : Hid (∀ W', Below W5.heap.size W5 W' → Calls Tryd.prog 73 #[.agg #[.slice a0 n k0, .slice a1 n k1, .slice a2 n k2]] W' fun e w' => e = .returned (.int .i64 (cn : Int)) ∧ Below W'.heap.size W' w') := Lib.hid (fun W' h => by rw [← hcn]; exact plen W' PS5.out (P5.out.oa.below h) (by omega))
          have L3 : Hid (∀ W', Below W5.heap.size W5 W' → Calls Tryd.prog 36 #[.pointer (some ⟨p, 0, none⟩)] W' fun e w' => e = .returned (.int .i64 (rm : Int)) ∧ Below W'.heap.size W' w') := Lib.hid (fun W' h => by rw [← hrm']; exact Int.room_ok W' (Tg.below P5.out.t h))
          have L4 : Hid (∀ W', Below W5.heap.size W5 W' → Calls Tryd.prog 74 #[.agg #[.slice a0 n k0, .slice a1 n k1, .slice a2 n k2]] W' fun e w' => e = .returned (.int .i64 (rm : Int)) ∧ Below W'.heap.size W' w') := Lib.hid (fun W' h => by rw [← hrm']; exact proom W' PS5.out (P5.out.oa.below h) (by omega))
          have qc : ((cn : Int) != (cn : Int)) = false := by simp
          have qr : ((rm : Int) != (rm : Int)) = false := by simp
          clear hcn hrm'
          go_region_held3 (fun w' => Below W5.heap.size W5 w' ∧ w'.cell? ⟨w.heap.size, 0, none⟩ = some (.slice a0 n k0) ∧ w'.cell? ⟨w.heap.size, 1, none⟩ = some (.slice a1 n k1) ∧ w'.cell? ⟨w.heap.size, 2, none⟩ = some (.slice a2 n k2))
            ((refine keepN HC ?_; first | exact (Below.refl _ _).drew | exact And.left (by assumption) | exact bel_call (by assumption) (by assumption)))
            (first
              | (go_at_call 24; (with_reducible refine (L1.out _ (And.left (by assumption))).mono ?_); rintro e w6 ⟨rfl, rfl⟩)
              | (go_at_call 73; (with_reducible refine (L2.out _ (And.left (by assumption))).mono ?_); rintro e w7 ⟨rfl, b7⟩; have g7 : Below W5.heap.size W5 w7 := bel_call (by assumption) b7)
              | (go_at_call 36; (with_reducible refine (L3.out _ (And.left (by assumption))).mono ?_); rintro e w8 ⟨rfl, b8⟩; have g8 : Below W5.heap.size W5 w8 := bel_call (by assumption) b8)
              | (go_at_call 74; (with_reducible refine (L4.out _ (And.left (by assumption))).mono ?_); rintro e w9 ⟨rfl, b9⟩; have g9 : Below W5.heap.size W5 w9 := bel_call (by assumption) b9))
          all_goals
            go_wp2
            refine ⟨⟨k + 1, _, st, K, a0, k0, a1, k1, a2, k2, rfl, by omega, by simp, Lib.hid (P5.out.below (by first | exact And.left (by assumption) | assumption | exact (And.left (by assumption) : Below W5.heap.size W5 _))), PS5, by have := HKN.out; omega⟩, by simp [intOf]; omega⟩
      · have q2 : ((r : Int) == 2) = false := by simp; omega
        by_cases hr3 : r = 3
        · have q3 : ((r : Int) == 3) = true := by simp; omega
          by_cases he : findE st h = 0
          · obtain ⟨i, hi, hil, hal, _⟩ := Int.findE_zero he
            have hsl := hps.set (s := ((st.getD i (0, false, undef)).1, (st.getD i (0, false, undef)).2.1, .int .i64 vv)) hil (hps.gb i hil) (hps.one i hil) ⟨vv, rfl⟩ (fun e => by dsimp only at e; rw [hal] at e; cases e)
            obtain ⟨st5, hst5⟩ : ∃ s, st.set i ((st.getD i (0, false, undef)).1, (st.getD i (0, false, undef)).2.1, .int .i64 vv) = s := ⟨_, rfl⟩
            rw [hst5] at hsl
            have PS5 := Lib.hid hsl
            have HE := Lib.hid he
            have HI := Lib.hid hi
            have HS5 := Lib.hid hst5
            clear he hi hil hal hsl hst5 hps hr2 hr3
            go_wp2_with fail
            refine (pset_ok h vv i w3 HPS.out P3.out.oa h1n (by omega) HE.out HI.out).mono ?_
            rintro e w4 ⟨b0, l0, b1, l1, b2, l2, rfl, o4, bb4⟩
            rw [HS5.out] at o4
            have P4 := Lib.hid (P3.out.below bb4)
            have HX4 : Hid (w4.heap[wr.heap.size]? = some (.cells #[.int .u8 (wh : Int), .int .i64 hh, .int .u8 (oo : Int), .int .i64 vv] 55 (0, 0))) := Lib.hid ((bb4.block _ (blk_lt HX3.out)).trans HX3.out)
            have hx4l : wr.heap.size < w4.heap.size := blk_lt HX4.out
            have b43 : w4.cell? ⟨wr.heap.size, 3, none⟩ = some (.int .i64 vv) := by rw [cell_of_block HX4.out]; rfl
            have OO4 := Lib.hid o4
            have h4l := blk_lt P4.out.bx
            clear bb4 o4 y0 y1 y2 b30 b33
            have y0 : w4.cell? ⟨w.heap.size, 0, none⟩ = some (.slice a0 n k0) := by rw [cell_of_block P4.out.bx]; rfl
            have y1 : w4.cell? ⟨w.heap.size, 1, none⟩ = some (.slice a1 n k1) := by rw [cell_of_block P4.out.bx]; rfl
            have y2 : w4.cell? ⟨w.heap.size, 2, none⟩ = some (.slice a2 n k2) := by rw [cell_of_block P4.out.bx]; rfl
            have yz : ∀ j, w4.frozen? ⟨w.heap.size, j, none⟩ = false := fun j => unfrozen_of_block P4.out.bx j
            have PA := Lib.hid ((P4.out.box OO4.out).below (below_box0 _ (.cells #[.slice b0 n l0, .slice b1 n l1, .slice b2 n l2] 35)))
            go_wp2_with fail
            refine (Int.set_ok h i vv _ PA.out.t HE.out HI.out).mono ?_
            rintro e W5 ⟨rfl, t5, f5⟩
            rw [HS5.out] at t5
            have P5 := Lib.hid (PA.out.table t5 f5)
            clear t5 f5 y0 y1 y2 yz b43
            go_wp2
            obtain ⟨cn, hcn⟩ : ∃ cn, (st5).countP alv = cn := ⟨_, rfl⟩
            obtain ⟨rm, hrm'⟩ : ∃ rm, cnt (rdyF (st5)) 0 (st5).length = rm := ⟨_, rfl⟩
            have v0 : W5.cell? ⟨w.heap.size, 0, none⟩ = some (.slice b0 n l0) := by rw [cell_of_block P5.out.bx]; rfl
            have v1 : W5.cell? ⟨w.heap.size, 1, none⟩ = some (.slice b1 n l1) := by rw [cell_of_block P5.out.bx]; rfl
            have v2 : W5.cell? ⟨w.heap.size, 2, none⟩ = some (.slice b2 n l2) := by rw [cell_of_block P5.out.bx]; rfl
            have HC : Hid (∀ w', Below W5.heap.size W5 w' → w'.cell? ⟨w.heap.size, 0, none⟩ = some (.slice b0 n l0) ∧ w'.cell? ⟨w.heap.size, 1, none⟩ = some (.slice b1 n l1) ∧ w'.cell? ⟨w.heap.size, 2, none⟩ = some (.slice b2 n l2)) := Lib.hid (fun w' h => ⟨cell_later h v0, cell_later h v1, cell_later h v2⟩)
            have L1 : Hid (∀ W', Below W5.heap.size W5 W' → Calls Tryd.prog 24 #[.pointer (some ⟨p, 0, none⟩)] W' fun e w' => e = .returned (.int .i64 (cn : Int)) ∧ W' = w') := Lib.hid (fun W' h => by rw [← hcn]; exact Int.len_ok W' (Tg.below P5.out.t h))
            have L2 : Hid (∀ W', Below W5.heap.size W5 W' → Calls Tryd.prog 73 #[.agg #[.slice b0 n l0, .slice b1 n l1, .slice b2 n l2]] W' fun e w' => e = .returned (.int .i64 (cn : Int)) ∧ Below W'.heap.size W' w') := Lib.hid (fun W' h => by rw [← hcn]; exact plen W' PS5.out (P5.out.oa.below h) (by omega))
            have L3 : Hid (∀ W', Below W5.heap.size W5 W' → Calls Tryd.prog 36 #[.pointer (some ⟨p, 0, none⟩)] W' fun e w' => e = .returned (.int .i64 (rm : Int)) ∧ Below W'.heap.size W' w') := Lib.hid (fun W' h => by rw [← hrm']; exact Int.room_ok W' (Tg.below P5.out.t h))
            have L4 : Hid (∀ W', Below W5.heap.size W5 W' → Calls Tryd.prog 74 #[.agg #[.slice b0 n l0, .slice b1 n l1, .slice b2 n l2]] W' fun e w' => e = .returned (.int .i64 (rm : Int)) ∧ Below W'.heap.size W' w') := Lib.hid (fun W' h => by rw [← hrm']; exact proom W' PS5.out (P5.out.oa.below h) (by omega))
            have qc : ((cn : Int) != (cn : Int)) = false := by simp
            have qr : ((rm : Int) != (rm : Int)) = false := by simp
            clear hcn hrm'
            go_region_held3 (fun w' => Below W5.heap.size W5 w' ∧ w'.cell? ⟨w.heap.size, 0, none⟩ = some (.slice b0 n l0) ∧ w'.cell? ⟨w.heap.size, 1, none⟩ = some (.slice b1 n l1) ∧ w'.cell? ⟨w.heap.size, 2, none⟩ = some (.slice b2 n l2))
              ((refine keepN HC ?_; first | exact (Below.refl _ _).drew | exact And.left (by assumption) | exact bel_call (by assumption) (by assumption)))
              (first
                | (go_at_call 24; (with_reducible refine (L1.out _ (And.left (by assumption))).mono ?_); rintro e w6 ⟨rfl, rfl⟩)
                | (go_at_call 73; (with_reducible refine (L2.out _ (And.left (by assumption))).mono ?_); rintro e w7 ⟨rfl, b7⟩; have g7 : Below W5.heap.size W5 w7 := bel_call (by assumption) b7)
                | (go_at_call 36; (with_reducible refine (L3.out _ (And.left (by assumption))).mono ?_); rintro e w8 ⟨rfl, b8⟩; have g8 : Below W5.heap.size W5 w8 := bel_call (by assumption) b8)
                | (go_at_call 74; (with_reducible refine (L4.out _ (And.left (by assumption))).mono ?_); rintro e w9 ⟨rfl, b9⟩; have g9 : Below W5.heap.size W5 w9 := bel_call (by assumption) b9))
            all_goals
              go_wp2
              refine ⟨⟨k + 1, _, st5, K, b0, l0, b1, l1, b2, l2, rfl, by omega, by simp, Lib.hid (P5.out.below (by first | exact And.left (by assumption) | assumption | exact (And.left (by assumption) : Below W5.heap.size W5 _))), PS5, by have := HKN.out; omega⟩, by simp [intOf]; omega⟩
          · obtain ⟨ev, hev⟩ : ∃ ev, findE st h = ev := ⟨_, rfl⟩
            have HE := Lib.hid he
            have HEV := Lib.hid hev
            have qz : (ev != ev) = false := by simp
            clear he hev hps hr2 hr3
            go_wp2_with fail
            refine (pset_err h vv w3 HPS.out P3.out.oa (by omega) HE.out).mono ?_
            rintro e w4 ⟨rfl, bb4⟩
            rw [HEV.out]
            have P4 := Lib.hid (P3.out.below bb4)
            have HX4 : Hid (w4.heap[wr.heap.size]? = some (.cells #[.int .u8 (wh : Int), .int .i64 hh, .int .u8 (oo : Int), .int .i64 vv] 55 (0, 0))) := Lib.hid ((bb4.block _ (blk_lt HX3.out)).trans HX3.out)
            have hx4l : wr.heap.size < w4.heap.size := blk_lt HX4.out
            have b43 : w4.cell? ⟨wr.heap.size, 3, none⟩ = some (.int .i64 vv) := by rw [cell_of_block HX4.out]; rfl
            have h4l := blk_lt P4.out.bx
            clear bb4 y0 y1 y2 b30 b33
            have y0 : w4.cell? ⟨w.heap.size, 0, none⟩ = some (.slice a0 n k0) := by rw [cell_of_block P4.out.bx]; rfl
            have y1 : w4.cell? ⟨w.heap.size, 1, none⟩ = some (.slice a1 n k1) := by rw [cell_of_block P4.out.bx]; rfl
            have y2 : w4.cell? ⟨w.heap.size, 2, none⟩ = some (.slice a2 n k2) := by rw [cell_of_block P4.out.bx]; rfl
            have yz : ∀ j, w4.frozen? ⟨w.heap.size, j, none⟩ = false := fun j => unfrozen_of_block P4.out.bx j
            have P5 := Lib.hid ((P4.out.box P4.out.oa).below (below_box0 _ (.cells #[.slice a0 n k0, .slice a1 n k1, .slice a2 n k2] 35)))
            go_wp2_with fail
            have hse := Int.set_err h vv _ P5.out.t HE.out
            rw [HEV.out] at hse
            refine hse.mono ?_
            rintro e w5 ⟨rfl, rfl⟩
            obtain ⟨W5, hW5⟩ : ∃ W, (((w4.setCell ⟨w.heap.size, 0, none⟩ (.slice a0 n k0)).setCell ⟨w.heap.size, 1, none⟩ (.slice a1 n k1)).setCell ⟨w.heap.size, 2, none⟩ (.slice a2 n k2)).alloc (.cells #[.slice a0 n k0, .slice a1 n k1, .slice a2 n k2] 35) = W := ⟨_, rfl⟩
            rw [hW5] at P5 ⊢
            have PS5 := HPS
            clear hse hW5 y0 y1 y2 yz b43
            go_wp2
            obtain ⟨cn, hcn⟩ : ∃ cn, (st).countP alv = cn := ⟨_, rfl⟩
            obtain ⟨rm, hrm'⟩ : ∃ rm, cnt (rdyF (st)) 0 (st).length = rm := ⟨_, rfl⟩
            have v0 : W5.cell? ⟨w.heap.size, 0, none⟩ = some (.slice a0 n k0) := by rw [cell_of_block P5.out.bx]; rfl
            have v1 : W5.cell? ⟨w.heap.size, 1, none⟩ = some (.slice a1 n k1) := by rw [cell_of_block P5.out.bx]; rfl
            have v2 : W5.cell? ⟨w.heap.size, 2, none⟩ = some (.slice a2 n k2) := by rw [cell_of_block P5.out.bx]; rfl
            have HC : Hid (∀ w', Below W5.heap.size W5 w' → w'.cell? ⟨w.heap.size, 0, none⟩ = some (.slice a0 n k0) ∧ w'.cell? ⟨w.heap.size, 1, none⟩ = some (.slice a1 n k1) ∧ w'.cell? ⟨w.heap.size, 2, none⟩ = some (.slice a2 n k2)) := Lib.hid (fun w' h => ⟨cell_later h v0, cell_later h v1, cell_later h v2⟩)
            have L1 : Hid (∀ W', Below W5.heap.size W5 W' → Calls Tryd.prog 24 #[.pointer (some ⟨p, 0, none⟩)] W' fun e w' => e = .returned (.int .i64 (cn : Int)) ∧ W' = w') := Lib.hid (fun W' h => by rw [← hcn]; exact Int.len_ok W' (Tg.below P5.out.t h))
            have L2 : Hid (∀ W', Below W5.heap.size W5 W' → Calls Tryd.prog 73 #[.agg #[.slice a0 n k0, .slice a1 n k1, .slice a2 n k2]] W' fun e w' => e = .returned (.int .i64 (cn : Int)) ∧ Below W'.heap.size W' w') := Lib.hid (fun W' h => by rw [← hcn]; exact plen W' PS5.out (P5.out.oa.below h) (by omega))
            have L3 : Hid (∀ W', Below W5.heap.size W5 W' → Calls Tryd.prog 36 #[.pointer (some ⟨p, 0, none⟩)] W' fun e w' => e = .returned (.int .i64 (rm : Int)) ∧ Below W'.heap.size W' w') := Lib.hid (fun W' h => by rw [← hrm']; exact Int.room_ok W' (Tg.below P5.out.t h))
            have L4 : Hid (∀ W', Below W5.heap.size W5 W' → Calls Tryd.prog 74 #[.agg #[.slice a0 n k0, .slice a1 n k1, .slice a2 n k2]] W' fun e w' => e = .returned (.int .i64 (rm : Int)) ∧ Below W'.heap.size W' w') := Lib.hid (fun W' h => by rw [← hrm']; exact proom W' PS5.out (P5.out.oa.below h) (by omega))
            have qc : ((cn : Int) != (cn : Int)) = false := by simp
            have qr : ((rm : Int) != (rm : Int)) = false := by simp
            clear hcn hrm'
            go_region_held3 (fun w' => Below W5.heap.size W5 w' ∧ w'.cell? ⟨w.heap.size, 0, none⟩ = some (.slice a0 n k0) ∧ w'.cell? ⟨w.heap.size, 1, none⟩ = some (.slice a1 n k1) ∧ w'.cell? ⟨w.heap.size, 2, none⟩ = some (.slice a2 n k2))
              ((refine keepN HC ?_; first | exact (Below.refl _ _).drew | exact And.left (by assumption) | exact bel_call (by assumption) (by assumption)))
              (first
                | (go_at_call 24; (with_reducible refine (L1.out _ (And.left (by assumption))).mono ?_); rintro e w6 ⟨rfl, rfl⟩)
                | (go_at_call 73; (with_reducible refine (L2.out _ (And.left (by assumption))).mono ?_); rintro e w7 ⟨rfl, b7⟩; have g7 : Below W5.heap.size W5 w7 := bel_call (by assumption) b7)
                | (go_at_call 36; (with_reducible refine (L3.out _ (And.left (by assumption))).mono ?_); rintro e w8 ⟨rfl, b8⟩; have g8 : Below W5.heap.size W5 w8 := bel_call (by assumption) b8)
                | (go_at_call 74; (with_reducible refine (L4.out _ (And.left (by assumption))).mono ?_); rintro e w9 ⟨rfl, b9⟩; have g9 : Below W5.heap.size W5 w9 := bel_call (by assumption) b9))
            all_goals
              go_wp2
              refine ⟨⟨k + 1, _, st, K, a0, k0, a1, k1, a2, k2, rfl, by omega, by simp, Lib.hid (P5.out.below (by first | exact And.left (by assumption) | assumption | exact (And.left (by assumption) : Below W5.heap.size W5 _))), PS5, by have := HKN.out; omega⟩, by simp [intOf]; omega⟩
        · have q3 : ((r : Int) == 3) = false := by simp; omega
          by_cases hr4 : 4 ≤ r
          · have key : ((r : Int) == 4) = true ∨ (((r : Int) == 4) = false ∧ ((r : Int) == 5) = true) := by
              by_cases e : r = 4
              · left; simp; omega
              · right; exact ⟨by simp; omega, by simp; omega⟩
            by_cases he : findE st h = 0
            · obtain ⟨i, hi, hil, hal, _⟩ := Int.findE_zero he
              obtain ⟨z, hz⟩ := hps.iv i hil
              have hz' : (st.getD i (0, false, undef)).2.2 = .int .i64 z := hz
              have hsl := hps.set (s := ((st.getD i (0, false, undef)).1, false, .int .i64 0)) hil (hps.gb i hil) (fun e => by cases e) ⟨0, rfl⟩ (fun _ => rfl)
              obtain ⟨st5, hst5⟩ : ∃ s, st.set i ((st.getD i (0, false, undef)).1, false, .int .i64 0) = s := ⟨_, rfl⟩
              rw [hst5] at hsl
              have htd := Int.tdrop_ok h i w3 P3.out.t he hi
              have hrd := fun W (ho : OS W n st a0 k0 a1 k1 a2 k2) => pdrop_ok h i W HPS.out ho h1n (by omega) he hi
              rw [hst5, hz'] at htd
              simp only [hst5, hz'] at hrd
              have PS5 := Lib.hid hsl
              have HTD := Lib.hid htd
              have HRD := Lib.hid hrd
              have qz : (z != z) = false := by simp
              clear he hi hil hal hsl hst5 hps hr2 hr3 hr4 htd hrd hz hz'
              rcases key with q4 | ⟨q4, q5⟩
              all_goals
                go_wp2_with fail
                refine HTD.out.mono ?_
                rintro e w4 ⟨rfl, t4, f4⟩
                have P4 := Lib.hid (P3.out.table t4 f4)
                have h4l := blk_lt P4.out.bx
                clear t4 f4 y0 y1 y2 b30 b33
                have y0 : w4.cell? ⟨w.heap.size, 0, none⟩ = some (.slice a0 n k0) := by rw [cell_of_block P4.out.bx]; rfl
                have y1 : w4.cell? ⟨w.heap.size, 1, none⟩ = some (.slice a1 n k1) := by rw [cell_of_block P4.out.bx]; rfl
                have y2 : w4.cell? ⟨w.heap.size, 2, none⟩ = some (.slice a2 n k2) := by rw [cell_of_block P4.out.bx]; rfl
                have yz : ∀ j, w4.frozen? ⟨w.heap.size, j, none⟩ = false := fun j => unfrozen_of_block P4.out.bx j
                go_wp2_with fail
                refine (HRD.out _ P4.out.oa).mono ?_
                rintro e w5 ⟨b0, l0, b1, l1, b2, l2, rfl, o5, bb5⟩
                have P6 := Lib.hid (P4.out.below bb5)
                have OO5 := Lib.hid o5
                have h5l := blk_lt P6.out.bx
                clear bb5 o5 y0 y1 y2 yz
                have y0 : w5.cell? ⟨w.heap.size, 0, none⟩ = some (.slice a0 n k0) := by rw [cell_of_block P6.out.bx]; rfl
                have y1 : w5.cell? ⟨w.heap.size, 1, none⟩ = some (.slice a1 n k1) := by rw [cell_of_block P6.out.bx]; rfl
                have y2 : w5.cell? ⟨w.heap.size, 2, none⟩ = some (.slice a2 n k2) := by rw [cell_of_block P6.out.bx]; rfl
                have yz : ∀ j, w5.frozen? ⟨w.heap.size, j, none⟩ = false := fun j => unfrozen_of_block P6.out.bx j
                have P5 := Lib.hid ((P6.out.box OO5.out).below (below_box0 _ (.cells #[.slice b0 n l0, .slice b1 n l1, .slice b2 n l2] 35)))
                go_wp2
                obtain ⟨W5, hW5⟩ : ∃ W, (((w5.setCell ⟨w.heap.size, 0, none⟩ (.slice b0 n l0)).setCell ⟨w.heap.size, 1, none⟩ (.slice b1 n l1)).setCell ⟨w.heap.size, 2, none⟩ (.slice b2 n l2)).alloc (.cells #[.slice b0 n l0, .slice b1 n l1, .slice b2 n l2] 35) = W := ⟨_, rfl⟩
                rw [hW5] at P5 ⊢
                clear hW5 y0 y1 y2 yz
                obtain ⟨cn, hcn⟩ : ∃ cn, (st5).countP alv = cn := ⟨_, rfl⟩
                obtain ⟨rm, hrm'⟩ : ∃ rm, cnt (rdyF (st5)) 0 (st5).length = rm := ⟨_, rfl⟩
                have v0 : W5.cell? ⟨w.heap.size, 0, none⟩ = some (.slice b0 n l0) := by rw [cell_of_block P5.out.bx]; rfl
                have v1 : W5.cell? ⟨w.heap.size, 1, none⟩ = some (.slice b1 n l1) := by rw [cell_of_block P5.out.bx]; rfl
                have v2 : W5.cell? ⟨w.heap.size, 2, none⟩ = some (.slice b2 n l2) := by rw [cell_of_block P5.out.bx]; rfl
                have HC : Hid (∀ w', Below W5.heap.size W5 w' → w'.cell? ⟨w.heap.size, 0, none⟩ = some (.slice b0 n l0) ∧ w'.cell? ⟨w.heap.size, 1, none⟩ = some (.slice b1 n l1) ∧ w'.cell? ⟨w.heap.size, 2, none⟩ = some (.slice b2 n l2)) := Lib.hid (fun w' h => ⟨cell_later h v0, cell_later h v1, cell_later h v2⟩)
                have L1 : Hid (∀ W', Below W5.heap.size W5 W' → Calls Tryd.prog 24 #[.pointer (some ⟨p, 0, none⟩)] W' fun e w' => e = .returned (.int .i64 (cn : Int)) ∧ W' = w') := Lib.hid (fun W' h => by rw [← hcn]; exact Int.len_ok W' (Tg.below P5.out.t h))
                have L2 : Hid (∀ W', Below W5.heap.size W5 W' → Calls Tryd.prog 73 #[.agg #[.slice b0 n l0, .slice b1 n l1, .slice b2 n l2]] W' fun e w' => e = .returned (.int .i64 (cn : Int)) ∧ Below W'.heap.size W' w') := Lib.hid (fun W' h => by rw [← hcn]; exact plen W' PS5.out (P5.out.oa.below h) (by omega))
                have L3 : Hid (∀ W', Below W5.heap.size W5 W' → Calls Tryd.prog 36 #[.pointer (some ⟨p, 0, none⟩)] W' fun e w' => e = .returned (.int .i64 (rm : Int)) ∧ Below W'.heap.size W' w') := Lib.hid (fun W' h => by rw [← hrm']; exact Int.room_ok W' (Tg.below P5.out.t h))
                have L4 : Hid (∀ W', Below W5.heap.size W5 W' → Calls Tryd.prog 74 #[.agg #[.slice b0 n l0, .slice b1 n l1, .slice b2 n l2]] W' fun e w' => e = .returned (.int .i64 (rm : Int)) ∧ Below W'.heap.size W' w') := Lib.hid (fun W' h => by rw [← hrm']; exact proom W' PS5.out (P5.out.oa.below h) (by omega))
                have qc : ((cn : Int) != (cn : Int)) = false := by simp
                have qr : ((rm : Int) != (rm : Int)) = false := by simp
                clear hcn hrm'
                go_region_held3 (fun w' => Below W5.heap.size W5 w' ∧ w'.cell? ⟨w.heap.size, 0, none⟩ = some (.slice b0 n l0) ∧ w'.cell? ⟨w.heap.size, 1, none⟩ = some (.slice b1 n l1) ∧ w'.cell? ⟨w.heap.size, 2, none⟩ = some (.slice b2 n l2))
                  ((refine keepN HC ?_; first | exact (Below.refl _ _).drew | exact And.left (by assumption) | exact bel_call (by assumption) (by assumption)))
                  (first
                    | (go_at_call 24; (with_reducible refine (L1.out _ (And.left (by assumption))).mono ?_); rintro e w6 ⟨rfl, rfl⟩)
                    | (go_at_call 73; (with_reducible refine (L2.out _ (And.left (by assumption))).mono ?_); rintro e w7 ⟨rfl, b7⟩; have g7 : Below W5.heap.size W5 w7 := bel_call (by assumption) b7)
                    | (go_at_call 36; (with_reducible refine (L3.out _ (And.left (by assumption))).mono ?_); rintro e w8 ⟨rfl, b8⟩; have g8 : Below W5.heap.size W5 w8 := bel_call (by assumption) b8)
                    | (go_at_call 74; (with_reducible refine (L4.out _ (And.left (by assumption))).mono ?_); rintro e w9 ⟨rfl, b9⟩; have g9 : Below W5.heap.size W5 w9 := bel_call (by assumption) b9))
                all_goals
                  go_wp2
                  refine ⟨⟨k + 1, _, st5, K, b0, l0, b1, l1, b2, l2, rfl, by omega, by simp, Lib.hid (P5.out.below (by first | exact And.left (by assumption) | assumption | exact (And.left (by assumption) : Below W5.heap.size W5 _))), PS5, by have := HKN.out; omega⟩, by simp [intOf]; omega⟩
            · obtain ⟨ev, hev⟩ : ∃ ev, findE st h = ev := ⟨_, rfl⟩
              have htd := Int.drop_err h w3 P3.out.t he
              have hrd := fun W (ho : OS W n st a0 k0 a1 k1 a2 k2) => pdrop_err h W HPS.out ho (by omega) he
              rw [hev] at htd
              simp only [hev] at hrd
              have HTD := Lib.hid htd
              have HRD := Lib.hid hrd
              have qz : (ev != ev) = false := by simp
              have PS5 := HPS
              clear he hev hps hr2 hr3 hr4 htd hrd
              rcases key with q4 | ⟨q4, q5⟩
              all_goals
                go_wp2_with fail
                refine HTD.out.mono ?_
                rintro e w4 ⟨rfl, rfl⟩
                go_wp2_with fail
                refine (HRD.out _ P3.out.oa).mono ?_
                rintro e w5 ⟨rfl, bb5⟩
                have P6 := Lib.hid (P3.out.below bb5)
                have h5l := blk_lt P6.out.bx
                clear bb5 y0 y1 y2 b30 b33
                have y0 : w5.cell? ⟨w.heap.size, 0, none⟩ = some (.slice a0 n k0) := by rw [cell_of_block P6.out.bx]; rfl
                have y1 : w5.cell? ⟨w.heap.size, 1, none⟩ = some (.slice a1 n k1) := by rw [cell_of_block P6.out.bx]; rfl
                have y2 : w5.cell? ⟨w.heap.size, 2, none⟩ = some (.slice a2 n k2) := by rw [cell_of_block P6.out.bx]; rfl
                have yz : ∀ j, w5.frozen? ⟨w.heap.size, j, none⟩ = false := fun j => unfrozen_of_block P6.out.bx j
                have P5 := Lib.hid ((P6.out.box P6.out.oa).below (below_box0 _ (.cells #[.slice a0 n k0, .slice a1 n k1, .slice a2 n k2] 35)))
                go_wp2
                obtain ⟨W5, hW5⟩ : ∃ W, (((w5.setCell ⟨w.heap.size, 0, none⟩ (.slice a0 n k0)).setCell ⟨w.heap.size, 1, none⟩ (.slice a1 n k1)).setCell ⟨w.heap.size, 2, none⟩ (.slice a2 n k2)).alloc (.cells #[.slice a0 n k0, .slice a1 n k1, .slice a2 n k2] 35) = W := ⟨_, rfl⟩
                rw [hW5] at P5 ⊢
                clear hW5 y0 y1 y2 yz
                obtain ⟨cn, hcn⟩ : ∃ cn, (st).countP alv = cn := ⟨_, rfl⟩
                obtain ⟨rm, hrm'⟩ : ∃ rm, cnt (rdyF (st)) 0 (st).length = rm := ⟨_, rfl⟩
                have v0 : W5.cell? ⟨w.heap.size, 0, none⟩ = some (.slice a0 n k0) := by rw [cell_of_block P5.out.bx]; rfl
                have v1 : W5.cell? ⟨w.heap.size, 1, none⟩ = some (.slice a1 n k1) := by rw [cell_of_block P5.out.bx]; rfl
                have v2 : W5.cell? ⟨w.heap.size, 2, none⟩ = some (.slice a2 n k2) := by rw [cell_of_block P5.out.bx]; rfl
                have HC : Hid (∀ w', Below W5.heap.size W5 w' → w'.cell? ⟨w.heap.size, 0, none⟩ = some (.slice a0 n k0) ∧ w'.cell? ⟨w.heap.size, 1, none⟩ = some (.slice a1 n k1) ∧ w'.cell? ⟨w.heap.size, 2, none⟩ = some (.slice a2 n k2)) := Lib.hid (fun w' h => ⟨cell_later h v0, cell_later h v1, cell_later h v2⟩)
                have L1 : Hid (∀ W', Below W5.heap.size W5 W' → Calls Tryd.prog 24 #[.pointer (some ⟨p, 0, none⟩)] W' fun e w' => e = .returned (.int .i64 (cn : Int)) ∧ W' = w') := Lib.hid (fun W' h => by rw [← hcn]; exact Int.len_ok W' (Tg.below P5.out.t h))
                have L2 : Hid (∀ W', Below W5.heap.size W5 W' → Calls Tryd.prog 73 #[.agg #[.slice a0 n k0, .slice a1 n k1, .slice a2 n k2]] W' fun e w' => e = .returned (.int .i64 (cn : Int)) ∧ Below W'.heap.size W' w') := Lib.hid (fun W' h => by rw [← hcn]; exact plen W' PS5.out (P5.out.oa.below h) (by omega))
                have L3 : Hid (∀ W', Below W5.heap.size W5 W' → Calls Tryd.prog 36 #[.pointer (some ⟨p, 0, none⟩)] W' fun e w' => e = .returned (.int .i64 (rm : Int)) ∧ Below W'.heap.size W' w') := Lib.hid (fun W' h => by rw [← hrm']; exact Int.room_ok W' (Tg.below P5.out.t h))
                have L4 : Hid (∀ W', Below W5.heap.size W5 W' → Calls Tryd.prog 74 #[.agg #[.slice a0 n k0, .slice a1 n k1, .slice a2 n k2]] W' fun e w' => e = .returned (.int .i64 (rm : Int)) ∧ Below W'.heap.size W' w') := Lib.hid (fun W' h => by rw [← hrm']; exact proom W' PS5.out (P5.out.oa.below h) (by omega))
                have qc : ((cn : Int) != (cn : Int)) = false := by simp
                have qr : ((rm : Int) != (rm : Int)) = false := by simp
                clear hcn hrm'
                go_region_held3 (fun w' => Below W5.heap.size W5 w' ∧ w'.cell? ⟨w.heap.size, 0, none⟩ = some (.slice a0 n k0) ∧ w'.cell? ⟨w.heap.size, 1, none⟩ = some (.slice a1 n k1) ∧ w'.cell? ⟨w.heap.size, 2, none⟩ = some (.slice a2 n k2))
                  ((refine keepN HC ?_; first | exact (Below.refl _ _).drew | exact And.left (by assumption) | exact bel_call (by assumption) (by assumption)))
                  (first
                    | (go_at_call 24; (with_reducible refine (L1.out _ (And.left (by assumption))).mono ?_); rintro e w6 ⟨rfl, rfl⟩)
                    | (go_at_call 73; (with_reducible refine (L2.out _ (And.left (by assumption))).mono ?_); rintro e w7 ⟨rfl, b7⟩; have g7 : Below W5.heap.size W5 w7 := bel_call (by assumption) b7)
                    | (go_at_call 36; (with_reducible refine (L3.out _ (And.left (by assumption))).mono ?_); rintro e w8 ⟨rfl, b8⟩; have g8 : Below W5.heap.size W5 w8 := bel_call (by assumption) b8)
                    | (go_at_call 74; (with_reducible refine (L4.out _ (And.left (by assumption))).mono ?_); rintro e w9 ⟨rfl, b9⟩; have g9 : Below W5.heap.size W5 w9 := bel_call (by assumption) b9))
                all_goals
                  go_wp2
                  refine ⟨⟨k + 1, _, st, K, a0, k0, a1, k1, a2, k2, rfl, by omega, by simp, Lib.hid (P5.out.below (by first | exact And.left (by assumption) | assumption | exact (And.left (by assumption) : Below W5.heap.size W5 _))), PS5, by have := HKN.out; omega⟩, by simp [intOf]; omega⟩
          · have q4 : ((r : Int) == 4) = false := by simp; omega
            have q5 : ((r : Int) == 5) = false := by simp; omega
            by_cases hfull : nxt (rdyF st) 0 st.length < st.length
            · obtain ⟨i, hi⟩ : ∃ i, nxt (rdyF st) 0 st.length = i := ⟨_, rfl⟩
              rw [hi] at hfull
              obtain ⟨_, hal, hg9⟩ := Int.rdyF_at (Int.next_at hi hfull)
              have hput := fun W (T : Int.TT W B p q st) (X : Tab W) => Int.tput_ok i vv W T X hi hfull
              have hrp := fun W (ho : OS W n st a0 k0 a1 k1 a2 k2) => pput_ok vv i W HPS.out ho h1n (by omega) hi hfull
              obtain ⟨g, hg⟩ : ∃ g, (st.getD i (0, false, undef)).1 = g := ⟨_, rfl⟩
              have hsl := hps.set (s := (g + 1, true, .int .i64 vv)) hfull (by rw [hg] at hg9; dsimp only; omega) (fun _ => by dsimp only; omega) ⟨vv, rfl⟩ (fun e => by cases e)
              obtain ⟨st5, hst5⟩ : ∃ s, st.set i (g + 1, true, .int .i64 vv) = s := ⟨_, rfl⟩
              obtain ⟨hnew, hhn⟩ : ∃ z : Int, ((g : Int) + 1) * 65536 + i = z := ⟨_, rfl⟩
              simp only [hg, hst5, hhn] at hput hrp
              rw [hst5] at hsl
              have PS5 := Lib.hid hsl
              have HTP := Lib.hid hput
              have HRP := Lib.hid hrp
              have qz : (hnew != hnew) = false := by simp
              clear hput hrp hsl hst5 hhn hg hg9 hal hi hfull hps hr2 hr3 hr4
              go_wp2_with fail
              refine (HTP.out _ P3.out.t P3.out.tab).mono ?_
              rintro e w4 ⟨rfl, t4, f4⟩
              have P4 := Lib.hid (P3.out.table t4 f4)
              have HX4 : Hid (w4.heap[wr.heap.size]? = some (.cells #[.int .u8 (wh : Int), .int .i64 hh, .int .u8 (oo : Int), .int .i64 vv] 55 (0, 0))) := Lib.hid ((f4.block _ (blk_lt HX3.out) (by omega) (by omega)).trans HX3.out)
              have hx4l : wr.heap.size < w4.heap.size := blk_lt HX4.out
              have b43 : w4.cell? ⟨wr.heap.size, 3, none⟩ = some (.int .i64 vv) := by rw [cell_of_block HX4.out]; rfl
              have h4l := blk_lt P4.out.bx
              clear t4 f4 y0 y1 y2 b30 b33
              have y0 : w4.cell? ⟨w.heap.size, 0, none⟩ = some (.slice a0 n k0) := by rw [cell_of_block P4.out.bx]; rfl
              have y1 : w4.cell? ⟨w.heap.size, 1, none⟩ = some (.slice a1 n k1) := by rw [cell_of_block P4.out.bx]; rfl
              have y2 : w4.cell? ⟨w.heap.size, 2, none⟩ = some (.slice a2 n k2) := by rw [cell_of_block P4.out.bx]; rfl
              have yz : ∀ j, w4.frozen? ⟨w.heap.size, j, none⟩ = false := fun j => unfrozen_of_block P4.out.bx j
              go_wp2_with fail
              refine (HRP.out _ P4.out.oa).mono ?_
              rintro e w5 ⟨b0, l0, b1, l1, b2, l2, rfl, o5, bb5⟩
              have P6 := Lib.hid (P4.out.below bb5)
              have OO5 := Lib.hid o5
              have h5l := blk_lt P6.out.bx
              clear bb5 o5 y0 y1 y2 yz b43
              have y0 : w5.cell? ⟨w.heap.size, 0, none⟩ = some (.slice a0 n k0) := by rw [cell_of_block P6.out.bx]; rfl
              have y1 : w5.cell? ⟨w.heap.size, 1, none⟩ = some (.slice a1 n k1) := by rw [cell_of_block P6.out.bx]; rfl
              have y2 : w5.cell? ⟨w.heap.size, 2, none⟩ = some (.slice a2 n k2) := by rw [cell_of_block P6.out.bx]; rfl
              have yz : ∀ j, w5.frozen? ⟨w.heap.size, j, none⟩ = false := fun j => unfrozen_of_block P6.out.bx j
              have PA := Lib.hid ((P6.out.box OO5.out).below (below_box0 _ (.cells #[.slice b0 n l0, .slice b1 n l1, .slice b2 n l2] 35)))
              have hrow := PA.out.row
              rw [HKN.out] at hrow
              have HROW := Lib.hid hrow
              clear hrow
              have hnews := heap_alloc_new ((((w5.setCell ⟨w.heap.size, 0, none⟩ (.slice b0 n l0)).setCell ⟨w.heap.size, 1, none⟩ (.slice b1 n l1)).setCell ⟨w.heap.size, 2, none⟩ (.slice b2 n l2)).alloc (.cells #[.slice b0 n l0, .slice b1 n l1, .slice b2 n l2] 35)) (.cells #[.int .i64 hnew] 2)
              simp only [World.size_alloc, World.size_setCell] at hnews
              have HNEWS := Lib.hid hnews
              clear hnews
              go_wp2_with (at_builtin; refine wpList_append_lies _ rfl (.tmp 71) (.tmp 73) 51 rfl w.heap.size 2 i0 (.int .i64 0) 1 8 Tryd.underlying51 hi0 hz0 hs0 hb0 rfl (by decide) (.slice u n2 c) n2 (kH K) rfl (HROW.out.alloc _) ⟨w5.heap.size + 1, 0, none⟩ 1 1 [.int .i64 hnew] rfl rfl (World.news_of_block HNEWS.out) (by intro u hu; simp at hu; subst hu; rfl) (by decide) (by simp only [maxLen]; omega) (by omega) (by simp only [World.size_alloc, World.size_setCell]; omega) (w5.heap.size + 1 + 1) (by simp only [World.size_alloc, World.size_setCell]) ?_)
              intro gg cap W5 hown hgrow hat hlt1
              have P5 := Lib.hid (PA.out.give HKN.out hown hgrow)
              clear hown hgrow hat y0 y1 y2 yz
              go_wp2
              obtain ⟨cn, hcn⟩ : ∃ cn, (st5).countP alv = cn := ⟨_, rfl⟩
              obtain ⟨rm, hrm'⟩ : ∃ rm, cnt (rdyF (st5)) 0 (st5).length = rm := ⟨_, rfl⟩
              have v0 : W5.cell? ⟨w.heap.size, 0, none⟩ = some (.slice b0 n l0) := by rw [cell_of_block P5.out.bx]; rfl
              have v1 : W5.cell? ⟨w.heap.size, 1, none⟩ = some (.slice b1 n l1) := by rw [cell_of_block P5.out.bx]; rfl
              have v2 : W5.cell? ⟨w.heap.size, 2, none⟩ = some (.slice b2 n l2) := by rw [cell_of_block P5.out.bx]; rfl
              have HC : Hid (∀ w', Below W5.heap.size W5 w' → w'.cell? ⟨w.heap.size, 0, none⟩ = some (.slice b0 n l0) ∧ w'.cell? ⟨w.heap.size, 1, none⟩ = some (.slice b1 n l1) ∧ w'.cell? ⟨w.heap.size, 2, none⟩ = some (.slice b2 n l2)) := Lib.hid (fun w' h => ⟨cell_later h v0, cell_later h v1, cell_later h v2⟩)
              have L1 : Hid (∀ W', Below W5.heap.size W5 W' → Calls Tryd.prog 24 #[.pointer (some ⟨p, 0, none⟩)] W' fun e w' => e = .returned (.int .i64 (cn : Int)) ∧ W' = w') := Lib.hid (fun W' h => by rw [← hcn]; exact Int.len_ok W' (Tg.below P5.out.t h))
              have L2 : Hid (∀ W', Below W5.heap.size W5 W' → Calls Tryd.prog 73 #[.agg #[.slice b0 n l0, .slice b1 n l1, .slice b2 n l2]] W' fun e w' => e = .returned (.int .i64 (cn : Int)) ∧ Below W'.heap.size W' w') := Lib.hid (fun W' h => by rw [← hcn]; exact plen W' PS5.out (P5.out.oa.below h) (by omega))
              have L3 : Hid (∀ W', Below W5.heap.size W5 W' → Calls Tryd.prog 36 #[.pointer (some ⟨p, 0, none⟩)] W' fun e w' => e = .returned (.int .i64 (rm : Int)) ∧ Below W'.heap.size W' w') := Lib.hid (fun W' h => by rw [← hrm']; exact Int.room_ok W' (Tg.below P5.out.t h))
              have L4 : Hid (∀ W', Below W5.heap.size W5 W' → Calls Tryd.prog 74 #[.agg #[.slice b0 n l0, .slice b1 n l1, .slice b2 n l2]] W' fun e w' => e = .returned (.int .i64 (rm : Int)) ∧ Below W'.heap.size W' w') := Lib.hid (fun W' h => by rw [← hrm']; exact proom W' PS5.out (P5.out.oa.below h) (by omega))
              have qc : ((cn : Int) != (cn : Int)) = false := by simp
              have qr : ((rm : Int) != (rm : Int)) = false := by simp
              clear hcn hrm'
              go_region_held3 (fun w' => Below W5.heap.size W5 w' ∧ w'.cell? ⟨w.heap.size, 0, none⟩ = some (.slice b0 n l0) ∧ w'.cell? ⟨w.heap.size, 1, none⟩ = some (.slice b1 n l1) ∧ w'.cell? ⟨w.heap.size, 2, none⟩ = some (.slice b2 n l2))
                ((refine keepN HC ?_; first | exact (Below.refl _ _).drew | exact And.left (by assumption) | exact bel_call (by assumption) (by assumption)))
                (first
                  | (go_at_call 24; (with_reducible refine (L1.out _ (And.left (by assumption))).mono ?_); rintro e w6 ⟨rfl, rfl⟩)
                  | (go_at_call 73; (with_reducible refine (L2.out _ (And.left (by assumption))).mono ?_); rintro e w7 ⟨rfl, b7⟩; have g7 : Below W5.heap.size W5 w7 := bel_call (by assumption) b7)
                  | (go_at_call 36; (with_reducible refine (L3.out _ (And.left (by assumption))).mono ?_); rintro e w8 ⟨rfl, b8⟩; have g8 : Below W5.heap.size W5 w8 := bel_call (by assumption) b8)
                  | (go_at_call 74; (with_reducible refine (L4.out _ (And.left (by assumption))).mono ?_); rintro e w9 ⟨rfl, b9⟩; have g9 : Below W5.heap.size W5 w9 := bel_call (by assumption) b9))
              all_goals
                go_wp2
                refine ⟨⟨k + 1, _, st5, K ++ [(hnew, false, 0)], b0, l0, b1, l1, b2, l2, rfl, by omega, by simp, Lib.hid (P5.out.below (by first | exact And.left (by assumption) | assumption | exact (And.left (by assumption) : Below W5.heap.size W5 _))), PS5, by rw [List.length_append]; have := HKN.out; simp; omega⟩, by simp [intOf]; omega⟩
            · have htp := fun W (T : Int.TT W B p q st) (X : Tab W) => Int.tput_full vv W T X hfull
              have hrp := fun W (ho : OS W n st a0 k0 a1 k1 a2 k2) => pput_full vv W HPS.out ho (by omega) hfull
              have HTP := Lib.hid htp
              have HRP := Lib.hid hrp
              have PS5 := HPS
              clear htp hrp hfull hps hr2 hr3 hr4
              go_wp2_with fail
              refine (HTP.out _ P3.out.t P3.out.tab).mono ?_
              rintro e w4 ⟨rfl, bb4⟩
              have P4 := Lib.hid (P3.out.below bb4)
              have HX4 : Hid (w4.heap[wr.heap.size]? = some (.cells #[.int .u8 (wh : Int), .int .i64 hh, .int .u8 (oo : Int), .int .i64 vv] 55 (0, 0))) := Lib.hid ((bb4.block _ (blk_lt HX3.out)).trans HX3.out)
              have hx4l : wr.heap.size < w4.heap.size := blk_lt HX4.out
              have b43 : w4.cell? ⟨wr.heap.size, 3, none⟩ = some (.int .i64 vv) := by rw [cell_of_block HX4.out]; rfl
              have h4l := blk_lt P4.out.bx
              clear bb4 y0 y1 y2 b30 b33
              have y0 : w4.cell? ⟨w.heap.size, 0, none⟩ = some (.slice a0 n k0) := by rw [cell_of_block P4.out.bx]; rfl
              have y1 : w4.cell? ⟨w.heap.size, 1, none⟩ = some (.slice a1 n k1) := by rw [cell_of_block P4.out.bx]; rfl
              have y2 : w4.cell? ⟨w.heap.size, 2, none⟩ = some (.slice a2 n k2) := by rw [cell_of_block P4.out.bx]; rfl
              have yz : ∀ j, w4.frozen? ⟨w.heap.size, j, none⟩ = false := fun j => unfrozen_of_block P4.out.bx j
              go_wp2_with fail
              refine (HRP.out _ P4.out.oa).mono ?_
              rintro e w5 ⟨rfl, bb5⟩
              have P6 := Lib.hid (P4.out.below bb5)
              have h5l := blk_lt P6.out.bx
              clear bb5 y0 y1 y2 yz b43
              have y0 : w5.cell? ⟨w.heap.size, 0, none⟩ = some (.slice a0 n k0) := by rw [cell_of_block P6.out.bx]; rfl
              have y1 : w5.cell? ⟨w.heap.size, 1, none⟩ = some (.slice a1 n k1) := by rw [cell_of_block P6.out.bx]; rfl
              have y2 : w5.cell? ⟨w.heap.size, 2, none⟩ = some (.slice a2 n k2) := by rw [cell_of_block P6.out.bx]; rfl
              have yz : ∀ j, w5.frozen? ⟨w.heap.size, j, none⟩ = false := fun j => unfrozen_of_block P6.out.bx j
              have P5 := Lib.hid ((P6.out.box P6.out.oa).below (below_box0 _ (.cells #[.slice a0 n k0, .slice a1 n k1, .slice a2 n k2] 35)))
              go_wp2
              obtain ⟨W5, hW5⟩ : ∃ W, (((w5.setCell ⟨w.heap.size, 0, none⟩ (.slice a0 n k0)).setCell ⟨w.heap.size, 1, none⟩ (.slice a1 n k1)).setCell ⟨w.heap.size, 2, none⟩ (.slice a2 n k2)).alloc (.cells #[.slice a0 n k0, .slice a1 n k1, .slice a2 n k2] 35) = W := ⟨_, rfl⟩
              rw [hW5] at P5 ⊢
              clear hW5 y0 y1 y2 yz
              obtain ⟨cn, hcn⟩ : ∃ cn, (st).countP alv = cn := ⟨_, rfl⟩
              obtain ⟨rm, hrm'⟩ : ∃ rm, cnt (rdyF (st)) 0 (st).length = rm := ⟨_, rfl⟩
              have v0 : W5.cell? ⟨w.heap.size, 0, none⟩ = some (.slice a0 n k0) := by rw [cell_of_block P5.out.bx]; rfl
              have v1 : W5.cell? ⟨w.heap.size, 1, none⟩ = some (.slice a1 n k1) := by rw [cell_of_block P5.out.bx]; rfl
              have v2 : W5.cell? ⟨w.heap.size, 2, none⟩ = some (.slice a2 n k2) := by rw [cell_of_block P5.out.bx]; rfl
              have HC : Hid (∀ w', Below W5.heap.size W5 w' → w'.cell? ⟨w.heap.size, 0, none⟩ = some (.slice a0 n k0) ∧ w'.cell? ⟨w.heap.size, 1, none⟩ = some (.slice a1 n k1) ∧ w'.cell? ⟨w.heap.size, 2, none⟩ = some (.slice a2 n k2)) := Lib.hid (fun w' h => ⟨cell_later h v0, cell_later h v1, cell_later h v2⟩)
              have L1 : Hid (∀ W', Below W5.heap.size W5 W' → Calls Tryd.prog 24 #[.pointer (some ⟨p, 0, none⟩)] W' fun e w' => e = .returned (.int .i64 (cn : Int)) ∧ W' = w') := Lib.hid (fun W' h => by rw [← hcn]; exact Int.len_ok W' (Tg.below P5.out.t h))
              have L2 : Hid (∀ W', Below W5.heap.size W5 W' → Calls Tryd.prog 73 #[.agg #[.slice a0 n k0, .slice a1 n k1, .slice a2 n k2]] W' fun e w' => e = .returned (.int .i64 (cn : Int)) ∧ Below W'.heap.size W' w') := Lib.hid (fun W' h => by rw [← hcn]; exact plen W' PS5.out (P5.out.oa.below h) (by omega))
              have L3 : Hid (∀ W', Below W5.heap.size W5 W' → Calls Tryd.prog 36 #[.pointer (some ⟨p, 0, none⟩)] W' fun e w' => e = .returned (.int .i64 (rm : Int)) ∧ Below W'.heap.size W' w') := Lib.hid (fun W' h => by rw [← hrm']; exact Int.room_ok W' (Tg.below P5.out.t h))
              have L4 : Hid (∀ W', Below W5.heap.size W5 W' → Calls Tryd.prog 74 #[.agg #[.slice a0 n k0, .slice a1 n k1, .slice a2 n k2]] W' fun e w' => e = .returned (.int .i64 (rm : Int)) ∧ Below W'.heap.size W' w') := Lib.hid (fun W' h => by rw [← hrm']; exact proom W' PS5.out (P5.out.oa.below h) (by omega))
              have qc : ((cn : Int) != (cn : Int)) = false := by simp
              have qr : ((rm : Int) != (rm : Int)) = false := by simp
              clear hcn hrm'
              go_region_held3 (fun w' => Below W5.heap.size W5 w' ∧ w'.cell? ⟨w.heap.size, 0, none⟩ = some (.slice a0 n k0) ∧ w'.cell? ⟨w.heap.size, 1, none⟩ = some (.slice a1 n k1) ∧ w'.cell? ⟨w.heap.size, 2, none⟩ = some (.slice a2 n k2))
                ((refine keepN HC ?_; first | exact (Below.refl _ _).drew | exact And.left (by assumption) | exact bel_call (by assumption) (by assumption)))
                (first
                  | (go_at_call 24; (with_reducible refine (L1.out _ (And.left (by assumption))).mono ?_); rintro e w6 ⟨rfl, rfl⟩)
                  | (go_at_call 73; (with_reducible refine (L2.out _ (And.left (by assumption))).mono ?_); rintro e w7 ⟨rfl, b7⟩; have g7 : Below W5.heap.size W5 w7 := bel_call (by assumption) b7)
                  | (go_at_call 36; (with_reducible refine (L3.out _ (And.left (by assumption))).mono ?_); rintro e w8 ⟨rfl, b8⟩; have g8 : Below W5.heap.size W5 w8 := bel_call (by assumption) b8)
                  | (go_at_call 74; (with_reducible refine (L4.out _ (And.left (by assumption))).mono ?_); rintro e w9 ⟨rfl, b9⟩; have g9 : Below W5.heap.size W5 w9 := bel_call (by assumption) b9))
              all_goals
                go_wp2
                refine ⟨⟨k + 1, _, st, K, a0, k0, a1, k1, a2, k2, rfl, by omega, by simp, Lib.hid (P5.out.below (by first | exact And.left (by assumption) | assumption | exact (And.left (by assumption) : Below W5.heap.size W5 _))), PS5, by have := HKN.out; omega⟩, by simp [intOf]; omega⟩
    · have z2 : decide ((k : Int) < (m : Int)) = false := by simp; omega
      have z3 : decide (k < m) = false := by simpa using hlt
      have y0 : wr.cell? ⟨w.heap.size, 0, none⟩ = some (.slice a0 n k0) := by rw [cell_of_block HP.out.bx]; rfl
      have y1 : wr.cell? ⟨w.heap.size, 1, none⟩ = some (.slice a1 n k1) := by rw [cell_of_block HP.out.bx]; rfl
      have y2 : wr.cell? ⟨w.heap.size, 2, none⟩ = some (.slice a2 n k2) := by rw [cell_of_block HP.out.bx]; rfl
      have s0 : wr.cell? ⟨w.heap.size + 1, 0, none⟩ = some (.slice none 0 0) := by rw [cell_of_block HP.out.rb]; rfl
      have s1 : wr.cell? ⟨w.heap.size + 1, 1, none⟩ = some (.slice none 0 0) := by rw [cell_of_block HP.out.rb]; rfl
      have s2 : wr.cell? ⟨w.heap.size + 1, 2, none⟩ = some (.slice none 0 0) := by rw [cell_of_block HP.out.rb]; rfl
      have sz : ∀ j, wr.frozen? ⟨w.heap.size + 1, j, none⟩ = false := fun j => unfrozen_of_block HP.out.rb j
      clear hlt
      go_wp2
      refine bodyPost_ret (v := .tuple #[.agg #[.slice a0 n k0, .slice a1 n k1, .slice a2 n k2], .bool true]) (by simp [results, Tryd.f47, go_sem, s0, s1, s2]) rfl ?_
      have P6 := HP.out.result (.slice a0 n k0) (.slice a1 n k1) (.slice a2 n k2)
      exact ⟨a0, k0, a1, k1, a2, k2, st, rfl, P6.1, P6.2.1, HPS.out, P6.2.2.1, P6.2.2.2⟩
end
end Go.Proofs.YtpaecmpiokkdnaaDoor
