/- Handles: play of the laws: calls on a table and on a state. | Handles: the methods, of no table. | Handles: walked of the laws, of no table. | Handles of type int: Save. -/
import Derived.Test.YtpaecmpiokkdnaaDoorPlaysZ1
import Derived.Deep.RegionHeld3
import Derived.RegionTactic
import Derived.Test.YtpaecmpiokkdnaaDoorOnceZ3
import Derived.Test.YtpaecmpiokkdnaaDoorOnceZ2
namespace Go.Proofs.YtpaecmpiokkdnaaDoor
open Go.RowKit Go.Sort Go.Joins
attribute [local go_sem] cell_grow frozen_grow size_grow

/-- calls that lie below a block -/
def SlCB (w : World) (B : Nat) (a : Option Addr) (n : Nat) (C : Nat → Cll) : Prop := n = 0 ∨ ∃ b o, a = some ⟨b, o, none⟩ ∧ b < B ∧ ∀ j, j < n → w.cell? ⟨b, o + j * 4, none⟩ = some (.int .u8 ((C j).1 : Int)) ∧ w.cell? ⟨b, o + j * 4 + 1, none⟩ = some (.int .i64 (C j).2.1) ∧ w.cell? ⟨b, o + j * 4 + 2, none⟩ = some (.int .u8 ((C j).2.2.1 : Int)) ∧ w.cell? ⟨b, o + j * 4 + 3, none⟩ = some (.int .i64 (C j).2.2.2)
theorem getV_ok {st : List Slt} {h z : Int} {i : Nat} (he : findE st h = 0) (hi : slotI h = i) (hz : (st.getD i (0, false, undef)).2.2 = .int .i64 z) : getV st h = .int .i64 z := by unfold getV; rw [if_pos he, hi, Int.toNat_natCast, hz]
theorem getV_err {st : List Slt} {h : Int} (he : findE st h ≠ 0) : getV st h = .int .i64 0 := by unfold getV; rw [if_neg he]
theorem slt_eta {s : Slt} {g : Nat} {z : Int} (h0 : s.1 = g) (h1 : s.2.1 = true) (h2 : s.2.2 = .int .i64 z) : s = (g, true, .int .i64 z) := by rw [← h0, ← h1, ← h2]
theorem PL.result {w W : World} {B p q n : Nat} {st su : List Slt} {K : List Kn} {a0 a1 a2 : Option Addr} {k0 k1 k2 : Nat} {r : Value} (h : PL w W B p q n st su K a0 k0 a1 k1 a2 k2 r) (x y z : Value) :
    Int.TT (((W.setCell ⟨w.heap.size + 1, 0, none⟩ x).setCell ⟨w.heap.size + 1, 1, none⟩ y).setCell ⟨w.heap.size + 1, 2, none⟩ z) B p q st ∧ OS (((W.setCell ⟨w.heap.size + 1, 0, none⟩ x).setCell ⟨w.heap.size + 1, 1, none⟩ y).setCell ⟨w.heap.size + 1, 2, none⟩ z) n su a0 k0 a1 k1 a2 k2 ∧
      Fr p q w (((W.setCell ⟨w.heap.size + 1, 0, none⟩ x).setCell ⟨w.heap.size + 1, 1, none⟩ y).setCell ⟨w.heap.size + 1, 2, none⟩ z) ∧ Tab (((W.setCell ⟨w.heap.size + 1, 0, none⟩ x).setCell ⟨w.heap.size + 1, 1, none⟩ y).setCell ⟨w.heap.size + 1, 2, none⟩ z) := by
  have hb := h.rb
  have hp := h.pw
  have hq := h.qw
  have hb1 : (W.setCell ⟨w.heap.size + 1, 0, none⟩ x).heap[w.heap.size + 1]? = some (.cells #[x, .slice none 0 0, .slice none 0 0] 35 (0, 0)) := by rw [setCell_block hb]; rfl
  have hb2 : ((W.setCell ⟨w.heap.size + 1, 0, none⟩ x).setCell ⟨w.heap.size + 1, 1, none⟩ y).heap[w.heap.size + 1]? = some (.cells #[x, y, .slice none 0 0] 35 (0, 0)) := by rw [setCell_block hb1]; rfl
  have keep : ∀ {bs : Nat} {e : TypeId} {v : Value} {m : Nat} {xs : List Value}, W.ownsRow bs e 1 v m xs → e ≠ 35 → (((W.setCell ⟨w.heap.size + 1, 0, none⟩ x).setCell ⟨w.heap.size + 1, 1, none⟩ y).setCell ⟨w.heap.size + 1, 2, none⟩ z).ownsRow bs e 1 v m xs := fun ho hne =>
    ownsRow_setCell_other (ownsRow_setCell_other (ownsRow_setCell_other ho (a := ⟨w.heap.size + 1, 0, none⟩) (own_ne ho hb hne) _) (a := ⟨w.heap.size + 1, 1, none⟩) (own_ne ho hb hne) _) (a := ⟨w.heap.size + 1, 2, none⟩) (own_ne ho hb hne) _
  refine ⟨Tb.set_other (Tb.set_other (Tb.set_other h.t hb (by decide) (by omega) (by omega) _) hb1 (by decide) (by omega) (by omega) _) hb2 (by decide) (by omega) (by omega) _, ⟨keep h.oa.o0 (by decide), keep h.oa.o1 (by decide), keep h.oa.o2 (by decide), h.oa.n02⟩, ?_, ?_⟩
  · have f := h.fr
    refine ⟨f.os, f.tape, f.output, by simp only [World.size_setCell]; exact f.size, fun k hk h1 h2 => ?_⟩
    exact (Below.heap_setCell _ _ _ _ (by dsimp only; omega)).trans ((Below.heap_setCell _ _ _ _ (by dsimp only; omega)).trans ((Below.heap_setCell _ _ _ _ (by dsimp only; omega)).trans (f.block k hk h1 h2)))
  · have e1 : 0 ≠ w.heap.size + 1 := by have := h.tw; have := h.bp.1; omega
    exact ((h.tab.blk e1 _).blk e1 _).blk e1 _
section
variable {B p q n m cc : Nat} {ca : Option Addr} {C : Nat → Cll}
set_option maxRecDepth 100000 in
set_option maxHeartbeats 12800000 in
theorem play_ok (w : World) {st0 : List Slt} {a0 a1 a2 : Option Addr} {k0 k1 k2 : Nat} (ht : Int.TT w B p q st0) (ho : OS w n st0 a0 k0 a1 k1 a2 k2) (hps : PS n st0) (hn : n ≤ 60) (hC : SlCB w B ca m C) (hm : m ≤ 60) (hcb : ∀ j, j < m → (C j).1 ≤ 255 ∧ (C j).2.2.1 ≤ 255) (hT : Tab w) (htw : 0 < B) :
    Calls Tryd.prog 47 #[.pointer (some ⟨p, 0, none⟩), .agg #[.slice a0 n k0, .slice a1 n k1, .slice a2 n k2], .slice ca m cc] w fun e w' => ∃ b0 l0 b1 l1 b2 l2 st', e = .returned (.tuple #[.agg #[.slice b0 n l0, .slice b1 n l1, .slice b2 n l2], .bool true]) ∧
      Int.TT w' B p q st' ∧ OS w' n st' b0 l0 b1 l1 b2 l2 ∧ PS n st' ∧ Fr p q w w' ∧ Tab w' := by
  obtain ⟨i0, hi0, hz0, hs0, hb0⟩ := info_parts info_i64
  have h1n : 1 ≤ n := by rw [← hps.len]; exact ht.n1
  have bb := (below_box0 w (.cells #[.slice a0 n k0, .slice a1 n k1, .slice a2 n k2] 35)).trans ((below_box0 (w.alloc (.cells #[.slice a0 n k0, .slice a1 n k1, .slice a2 n k2] 35)) (.cells #[.slice none 0 0, .slice none 0 0, .slice none 0 0] 35)).mono (by simp))
  have hpw := World.block_lt_of_cell? _ _ (Tb.c0 ht)
  have hqw := blk_lt (Tb.slots ht)
  dsimp only at hpw
  have hbx1 : ((w.alloc (.cells #[.slice a0 n k0, .slice a1 n k1, .slice a2 n k2] 35)).alloc (.cells #[.slice none 0 0, .slice none 0 0, .slice none 0 0] 35)).heap[w.heap.size + 1]? = some (.cells #[.slice none 0 0, .slice none 0 0, .slice none 0 0] 35 (0, 0)) := by have := heap_alloc_new (w.alloc (.cells #[.slice a0 n k0, .slice a1 n k1, .slice a2 n k2] 35)) (.cells #[.slice none 0 0, .slice none 0 0, .slice none 0 0] 35); rwa [World.size_alloc] at this
  have hPL : PL w ((w.alloc (.cells #[.slice a0 n k0, .slice a1 n k1, .slice a2 n k2] 35)).alloc (.cells #[.slice none 0 0, .slice none 0 0, .slice none 0 0] 35)) B p q n st0 st0 [] a0 k0 a1 k1 a2 k2 (.slice none 0 0) :=
    ⟨Tg.below ht bb, hT.below bb, (Below.heap_alloc _ _ _ (by simp)).trans (heap_alloc_new w _), ho.below bb, World.ownsRow_nil _ _ _ _, hbx1, Fr.of_below bb, hpw, hqw, htw, ⟨Tb.hp ht, Tb.hq ht⟩⟩
  have HP0 := Lib.hid hPL
  have HPS0 := Lib.hid hps
  have HCB := Lib.hid hcb
  have HCw := Lib.hid hC
  have hBw : B ≤ p := Tb.hp ht
  have hBq : B ≤ q := Tb.hq ht
  clear ht ho hps hC hcb hT hPL bb hbx1
  go_enter Tryd.func47, Tryd.ntmps47
  go_wp2
  go_loopw [8, 9] (fun s x wr => ∃ (k : Nat) (r : Value) (st : List Slt) (K : List Kn) (a0 : Option Addr) (k0 : Nat) (a1 : Option Addr) (k1 : Nat) (a2 : Option Addr) (k2 : Nat), r = s ∧ k ≤ m ∧ x = .int .i64 k ∧ Hid (PL w wr B p q n st st K a0 k0 a1 k1 a2 k2 r) ∧ Hid (PS n st) ∧ K.length ≤ k) (fun _ x _ => m - (intOf x).toNat)
  case atStart => exact ⟨0, _, st0, [], a0, k0, a1, k1, a2, k2, rfl, Nat.zero_le _, rfl, HP0, HPS0, Nat.le_refl _⟩
  case round =>
    clear HP0 HPS0
    obtain ⟨k, r, st, K, a0, k0, a1, k1, a2, k2, rfl, hk, rfl, HP, HPS, hKl⟩ := hrel
    have hszw := HP.out.fr.size
    by_cases hlt : k < m
    · obtain ⟨cb, co, hca, hcB, hcc⟩ := HCw.out.resolve_left (by omega)
      obtain ⟨hc0, hc1, hc2, hc3⟩ := hcc k hlt
      obtain ⟨hw1, ho1⟩ := HCB.out k hlt
      subst hca
      obtain ⟨⟨wh, hh, oo, vv⟩, hCk⟩ : ∃ c, C k = c := ⟨_, rfl⟩
      rw [hCk] at hc0 hc1 hc2 hc3 hw1 ho1
      dsimp only at hc0 hc1 hc2 hc3 hw1 ho1
      have hcbk := HP.out.fr.block cb (by omega) (by omega) (by omega)
      have c0 := (World.cell?_of_block (a := ⟨cb, co + k * 4, none⟩) hcbk).trans hc0
      have c1 := (World.cell?_of_block (a := ⟨cb, co + k * 4 + 1, none⟩) hcbk).trans hc1
      have c2 := (World.cell?_of_block (a := ⟨cb, co + k * 4 + 2, none⟩) hcbk).trans hc2
      have c3 := (World.cell?_of_block (a := ⟨cb, co + k * 4 + 3, none⟩) hcbk).trans hc3
      have hcl : cb < wr.heap.size := by omega
      obtain ⟨n2, hn2⟩ : ∃ n2, K.length = n2 := ⟨_, rfl⟩
      have e0 := HP.out.row
      rw [hn2] at e0 hKl
      obtain ⟨u, c, rfl⟩ := own_slice e0
      have HSF : Hid (SlF wr u n2 (fun j => .int .i64 (K.getD j (0, false, 0)).1)) := Lib.hid (SlF.of_own e0 (fun j hj => kH_get (by omega)))
      have HKN := Lib.hid hn2
      have x0 : wr.cell? ⟨w.heap.size, 0, none⟩ = some (.slice a0 n k0) := by rw [cell_of_block HP.out.bx]; rfl
      have x1 : wr.cell? ⟨w.heap.size, 1, none⟩ = some (.slice a1 n k1) := by rw [cell_of_block HP.out.bx]; rfl
      have x2 : wr.cell? ⟨w.heap.size, 2, none⟩ = some (.slice a2 n k2) := by rw [cell_of_block HP.out.bx]; rfl
      obtain ⟨r, hr⟩ : ∃ r : Nat, wh % 6 = r := ⟨_, rfl⟩
      have hr6 : r < 6 := by rw [← hr]; exact Nat.mod_lt _ (by decide)
      have m1 : (wh : Int) % 6 = (r : Int) := by omega
      have wh0 : (0 : Int) ≤ (wh : Int) := by omega
      have wh1 : (wh : Int) ≤ 255 := by omega
      have z0 : (0 : Int) ≤ (k : Int) := by omega
      have z1 : (k : Int) < (m : Int) := by omega
      have z2 : decide ((k : Int) < (m : Int)) = true := by simp; omega
      have z3 : decide (k < m) = true := by simpa using hlt
      have HM1 := Lib.hid m1
      clear hc0 hc1 hc2 hc3 hcc hCk hn2 e0 hr m1 hcbk
      go_wp2_with fail
      refine (handle_ok (wh, hh, oo, vv) _ (HSF.out.below (below_box0 _ _)) HKN.out (by omega) (by dsimp only; omega)).mono ?_
      rintro e w3 ⟨rfl, b3⟩
      obtain ⟨h, hhd⟩ : ∃ h, hndC hh oo K = h := ⟨_, rfl⟩
      rw [hhd]
      have bbx : Below wr.heap.size wr w3 := (below_box0 _ _).trans (b3.mono (by simp))
      have P3 := Lib.hid (HP.out.below bbx)
      have hbx3 := (b3.block _ (by simp)).trans (heap_alloc_new wr (.cells #[.int .u8 (wh : Int), .int .i64 hh, .int .u8 (oo : Int), .int .i64 vv] 55))
      have b30 : w3.cell? ⟨wr.heap.size, 0, none⟩ = some (.int .u8 (wh : Int)) := by rw [cell_of_block hbx3]; rfl
      have b33 : w3.cell? ⟨wr.heap.size, 3, none⟩ = some (.int .i64 vv) := by rw [cell_of_block hbx3]; rfl
      have HX3 := Lib.hid hbx3
      have y0 : w3.cell? ⟨w.heap.size, 0, none⟩ = some (.slice a0 n k0) := by rw [cell_of_block P3.out.bx]; rfl
      have y1 : w3.cell? ⟨w.heap.size, 1, none⟩ = some (.slice a1 n k1) := by rw [cell_of_block P3.out.bx]; rfl
      have y2 : w3.cell? ⟨w.heap.size, 2, none⟩ = some (.slice a2 n k2) := by rw [cell_of_block P3.out.bx]; rfl
      have hrm := HM1.out
      have hXw : w.heap.size < wr.heap.size := blk_lt HP.out.bx
      have hps := HPS.out
      clear hhd b3 bbx c0 c1 c2 c3 HP HSF z0 z1 z2 z3 x0 x1 x2 hbx3
      by_cases hr2 : r = 2
      · have q2 : ((r : Int) == 2) = true := by simp; omega
        by_cases he : findE st h = 0
        · obtain ⟨i, hi, hil, hal, _⟩ := Int.findE_zero he
          obtain ⟨z, hz⟩ := hps.iv i hil
          have hz' : (st.getD i (0, false, undef)).2.2 = .int .i64 z := hz
          have hget := Int.get_ok h w3 P3.out.t he
          rw [hi, Int.toNat_natCast, hz'] at hget
          have HG := Lib.hid hget
          have HGV := Lib.hid (getV_ok he hi hz')
          have HE := Lib.hid he
          have qz : (z != z) = false := by simp
          clear hget he hi hil hal hz hz' hps hr2
          go_wp2_with fail
          refine HG.out.mono ?_
          rintro e w4 ⟨rfl, rfl⟩
          go_wp2_with fail
          refine (pget h w3 HPS.out P3.out.oa (by omega)).mono ?_
          rintro e W5 ⟨rfl, b5⟩
          rw [HGV.out, HE.out]
          have P5 := Lib.hid (P3.out.below b5)
          have PS5 := HPS
          clear b5 b30 b33 y0 y1 y2
          go_wp2
          obtain ⟨cn, hcn⟩ : ∃ cn, (st).countP alv = cn := ⟨_, rfl⟩
          obtain ⟨rm, hrm'⟩ : ∃ rm, cnt (rdyF (st)) 0 (st).length = rm := ⟨_, rfl⟩
          have v0 : W5.cell? ⟨w.heap.size, 0, none⟩ = some (.slice a0 n k0) := by rw [cell_of_block P5.out.bx]; rfl
          have v1 : W5.cell? ⟨w.heap.size, 1, none⟩ = some (.slice a1 n k1) := by rw [cell_of_block P5.out.bx]; rfl
          have v2 : W5.cell? ⟨w.heap.size, 2, none⟩ = some (.slice a2 n k2) := by rw [cell_of_block P5.out.bx]; rfl
          have HC : Hid (∀ w', Below W5.heap.size W5 w' → w'.cell? ⟨w.heap.size, 0, none⟩ = some (.slice a0 n k0) ∧ w'.cell? ⟨w.heap.size, 1, none⟩ = some (.slice a1 n k1) ∧ w'.cell? ⟨w.heap.size, 2, none⟩ = some (.slice a2 n k2)) := Lib.hid (fun w' h => ⟨cell_later h v0, cell_later h v1, cell_later h v2⟩)
          have L1 : Hid (∀ W', Below W5.heap.size W5 W' → Calls Tryd.prog 24 #[.pointer (some ⟨p, 0, none⟩)] W' fun e w' => e = .returned (.int .i64 (cn : Int)) ∧ W' = w') := Lib.hid (fun W' h => by rw [← hcn]; exact Int.len_ok W' (Tg.below P5.out.t h))
          have L2 : Hid (∀ W', Below W5.heap.size W5 W' → Calls Tryd.prog 73 #[.agg #[.slice a0 n k0, .slice a1 n k1, .slice a2 n k2]] W' fun e w' => e = .returned (.int .i64 (cn : Int)) ∧ Below W'.heap.size W' w') := Lib.hid (fun W' h => by rw [← hcn]; exact plen W' PS5.out (P5.out.oa.below h) (by omega))
          have L3 : Hid (∀ W', Below W5.heap.size W5 W' → Calls Tryd.prog 36 #[.pointer (some ⟨p, 0, none⟩)] W' fun e w' => e = .returned (.int .i64 (rm : Int)) ∧ Below W'.heap.size W' w') := Lib.hid (fun W' h => by rw [← hrm']; exact Int.room_ok W' (Tg.below P5.out.t h))
          have L4 : Hid (∀ W', Below W5.heap.size W5 W' → Calls Tryd.prog 74 #[.agg #[.slice a0 n k0, .slice a1 n k1, .slice a2 n k2]] W' fun e w' => e = .returned (.int .i64 (rm : Int)) ∧ Below W'.heap.size W' w') := Lib.hid (fun W' h => by rw [← hrm']; exact proom W' PS5.out (P5.out.oa.below h) (by omega))
          have qc : ((cn : Int) != (cn : Int)) = false := by simp
          have qr : ((rm : Int) != (rm : Int)) = false := by simp
          clear hcn hrm'
          go_region_held3 (fun w' => Below W5.heap.size W5 w' ∧ w'.cell? ⟨w.heap.size, 0, none⟩ = some (.slice a0 n k0) ∧ w'.cell? ⟨w.heap.size, 1, none⟩ = some (.slice a1 n k1) ∧ w'.cell? ⟨w.heap.size, 2, none⟩ = some (.slice a2 n k2))
            ((refine keepN HC ?_; first | exact (Below.refl _ _).drew | exact And.left (by assumption) | exact bel_call (by assumption) (by assumption)))
            (first
              | (go_at_call 24; (with_reducible refine (L1.out _ (And.left (by assumption))).mono ?_); rintro e w6 ⟨rfl, rfl⟩)
              | (go_at_call 73; (with_reducible refine (L2.out _ (And.left (by assumption))).mono ?_); rintro e w7 ⟨rfl, b7⟩; have g7 : Below W5.heap.size W5 w7 := bel_call (by assumption) b7)
              | (go_at_call 36; (with_reducible refine (L3.out _ (And.left (by assumption))).mono ?_); rintro e w8 ⟨rfl, b8⟩; have g8 : Below W5.heap.size W5 w8 := bel_call (by assumption) b8)
              | (go_at_call 74; (with_reducible refine (L4.out _ (And.left (by assumption))).mono ?_); rintro e w9 ⟨rfl, b9⟩; have g9 : Below W5.heap.size W5 w9 := bel_call (by assumption) b9))
          all_goals
            go_wp2
            refine ⟨⟨k + 1, _, st, K, a0, k0, a1, k1, a2, k2, rfl, by omega, by simp, Lib.hid (P5.out.below (by first | exact And.left (by assumption) | assumption | exact (And.left (by assumption) : Below W5.heap.size W5 _))), PS5, by have := HKN.out; omega⟩, by simp [intOf]; omega⟩
        · have hget := Int.get_err h w3 P3.out.t he
          have HG := Lib.hid hget
          have HGV := Lib.hid (getV_err he)
          obtain ⟨ev, hev⟩ : ∃ ev, findE st h = ev := ⟨_, rfl⟩
          rw [hev] at HG
          have HE := Lib.hid hev
          have qz : (ev != ev) = false := by simp
          clear hget he hev hps hr2
          go_wp2_with fail
          refine HG.out.mono ?_
          rintro e w4 ⟨rfl, rfl⟩
          go_wp2_with fail
          refine (pget h w3 HPS.out P3.out.oa (by omega)).mono ?_
          rintro e W5 ⟨rfl, b5⟩
          rw [HGV.out, HE.out]
          have P5 := Lib.hid (P3.out.below b5)
          have PS5 := HPS
          clear b5 b30 b33 y0 y1 y2
          go_wp2
          obtain ⟨cn, hcn⟩ : ∃ cn, (st).countP alv = cn := ⟨_, rfl⟩
          obtain ⟨rm, hrm'⟩ : ∃ rm, cnt (rdyF (st)) 0 (st).length = rm := ⟨_, rfl⟩
          have v0 : W5.cell? ⟨w.heap.size, 0, none⟩ = some (.slice a0 n k0) := by rw [cell_of_block P5.out.bx]; rfl
          have v1 : W5.cell? ⟨w.heap.size, 1, none⟩ = some (.slice a1 n k1) := by rw [cell_of_block P5.out.bx]; rfl
          have v2 : W5.cell? ⟨w.heap.size, 2, none⟩ = some (.slice a2 n k2) := by rw [cell_of_block P5.out.bx]; rfl
          have HC : Hid (∀ w', Below W5.heap.size W5 w' → w'.cell? ⟨w.heap.size, 0, none⟩ = some (.slice a0 n k0) ∧ w'.cell? ⟨w.heap.size, 1, none⟩ = some (.slice a1 n k1) ∧ w'.cell? ⟨w.heap.size, 2, none⟩ = some (.slice a2 n k2)) := Lib.hid (fun w' h => ⟨cell_later h v0, cell_later h v1, cell_later h v2⟩)
          have L1 : Hid (∀ W', Below W5.heap.size W5 W' → Calls Tryd.prog 24 #[.pointer (some ⟨p, 0, none⟩)] W' fun e w' => e = .returned (.int .i64 (cn : Int)) ∧ W' = w') := Lib.hid (fun W' h => by rw [← hcn]; exact Int.len_ok W' (Tg.below P5.out.t h))
          have L2 : Hid (∀ W', Below W5.heap.size W5 W' → Calls Tryd.prog 73 #[.agg #[.slice a0 n k0, .slice a1 n k1, .slice a2 n k2]] W' fun e w' => e = .returned (.int .i64 (cn : Int)) ∧ Below W'.heap.size W' w') := Lib.hid (fun W' h => by rw [← hcn]; exact plen W' PS5.out (P5.out.oa.below h) (by omega))
          have L3 : Hid (∀ W', Below W5.heap.size W5 W' → Calls Tryd.prog 36 #[.pointer (some ⟨p, 0, none⟩)] W' fun e w' => e = .returned (.int .i64 (rm : Int)) ∧ Below W'.heap.size W' w') := Lib.hid (fun W' h => by rw [← hrm']; exact Int.room_ok W' (Tg.below P5.out.t h))
          have L4 : Hid (∀ W', Below W5.heap.size W5 W' → Calls Tryd.prog 74 #[.agg #[.slice a0 n k0, .slice a1 n k1, .slice a2 n k2]] W' fun e w' => e = .returned (.int .i64 (rm : Int)) ∧ Below W'.heap.size W' w') := Lib.hid (fun W' h => by rw [← hrm']; exact proom W' PS5.out (P5.out.oa.below h) (by omega))
          have qc : ((cn : Int) != (cn : Int)) = false := by simp
          have qr : ((rm : Int) != (rm : Int)) = false := by simp
          clear hcn hrm'
          go_region_held3 (fun w' => Below W5.heap.size W5 w' ∧ w'.cell? ⟨w.heap.size, 0, none⟩ = some (.slice a0 n k0) ∧ w'.cell? ⟨w.heap.size, 1, none⟩ = some (.slice a1 n k1) ∧ w'.cell? ⟨w.heap.size, 2, none⟩ = some (.slice a2 n k2))
            ((refine keepN HC ?_; first | exact (Below.refl _ _).drew | exact And.left (by assumption) | exact bel_call (by assumption) (by assumption)))
            (first
              | (go_at_call 24; (with_reducible refine (L1.out _ (And.left (by assumption))).mono ?_); rintro e w6 ⟨rfl, rfl⟩)
              | (go_at_call 73; (with_reducible refine (L2.out _ (And.left (by assumption))).mono ?_); rintro e w7 ⟨rfl, b7⟩; have g7 : Below W5.heap.size W5 w7 := bel_call (by assumption) b7)
              | (go_at_call 36; (with_reducible refine (L3.out _ (And.left (by assumption))).mono ?_); rintro e w8 ⟨rfl, b8⟩; have g8 : Below W5.heap.size W5 w8 := bel_call (by assumption) b8)
              | (go_at_call 74; (with_reducible refine (L4.out _ (And.left (by assumption))).mono ?_); rintro e w9 ⟨rfl, b9⟩; have g9 : Below W5.heap.size W5 w9 := bel_call (by assumption) b9))
          all_goals
            go_wp2
            refine ⟨⟨k + 1, _, st, K, a0, k0, a1, k1, a2, k2, rfl, by omega, by simp, Lib.hid (P5.out.below (by first | exact And.left (by assumption) | assumption | exact (And.left (by assumption) : Below W5.heap.size W5 _))), PS5, by have := HKN.out; omega⟩, by simp [intOf]; omega⟩
      · have q2 : ((r : Int) == 2) = false := by simp; omega
        by_cases hr3 : r = 3
        · have q3 : ((r : Int) == 3) = true := by simp; omega
          by_cases he : findE st h = 0
          · obtain ⟨i, hi, hil, hal, _⟩ := Int.findE_zero he
            have hsl := hps.set (s := ((st.getD i (0, false, undef)).1, (st.getD i (0, false, undef)).2.1, .int .i64 vv)) hil (hps.gb i hil) (hps.one i hil) ⟨vv, rfl⟩ (fun e => by dsimp only at e; rw [hal] at e; cases e)
            obtain ⟨st5, hst5⟩ : ∃ s, st.set i ((st.getD i (0, false, undef)).1, (st.getD i (0, false, undef)).2.1, .int .i64 vv) = s := ⟨_, rfl⟩
            rw [hst5] at hsl
            have PS5 := Lib.hid hsl
            have HE := Lib.hid he
            have HI := Lib.hid hi
            have HS5 := Lib.hid hst5
            clear he hi hil hal hsl hst5 hps hr2 hr3
            go_wp2_with fail
            refine (pset_ok h vv i w3 HPS.out P3.out.oa h1n (by omega) HE.out HI.out).mono ?_
            rintro e w4 ⟨b0, l0, b1, l1, b2, l2, rfl, o4, bb4⟩
            rw [HS5.out] at o4
            have P4 := Lib.hid (P3.out.below bb4)
            have HX4 : Hid (w4.heap[wr.heap.size]? = some (.cells #[.int .u8 (wh : Int), .int .i64 hh, .int .u8 (oo : Int), .int .i64 vv] 55 (0, 0))) := Lib.hid ((bb4.block _ (blk_lt HX3.out)).trans HX3.out)
            have hx4l : wr.heap.size < w4.heap.size := blk_lt HX4.out
            have b43 : w4.cell? ⟨wr.heap.size, 3, none⟩ = some (.int .i64 vv) := by rw [cell_of_block HX4.out]; rfl
            have OO4 := Lib.hid o4
            have h4l := blk_lt P4.out.bx
            clear bb4 o4 y0 y1 y2 b30 b33
            have y0 : w4.cell? ⟨w.heap.size, 0, none⟩ = some (.slice a0 n k0) := by rw [cell_of_block P4.out.bx]; rfl
            have y1 : w4.cell? ⟨w.heap.size, 1, none⟩ = some (.slice a1 n k1) := by rw [cell_of_block P4.out.bx]; rfl
            have y2 : w4.cell? ⟨w.heap.size, 2, none⟩ = some (.slice a2 n k2) := by rw [cell_of_block P4.out.bx]; rfl
            have yz : ∀ j, w4.frozen? ⟨w.heap.size, j, none⟩ = false := fun j => unfrozen_of_block P4.out.bx j
            have PA := Lib.hid ((P4.out.box OO4.out).below (below_box0 _ (.cells #[.slice b0 n l0, .slice b1 n l1, .slice b2 n l2] 35)))
            go_wp2_with fail
            refine (Int.set_ok h i vv _ PA.out.t HE.out HI.out).mono ?_
            rintro e W5 ⟨rfl, t5, f5⟩
            rw [HS5.out] at t5
            have P5 := Lib.hid (PA.out.table t5 f5)
            clear t5 f5 y0 y1 y2 yz b43
            go_wp2
            obtain ⟨cn, hcn⟩ : ∃ cn, (st5).countP alv = cn := ⟨_, rfl⟩
            obtain ⟨rm, hrm'⟩ : ∃ rm, cnt (rdyF (st5)) 0 (st5).length = rm := ⟨_, rfl⟩
            have v0 : W5.cell? ⟨w.heap.size, 0, none⟩ = some (.slice b0 n l0) := by rw [cell_of_block P5.out.bx]; rfl
            have v1 : W5.cell? ⟨w.heap.size, 1, none⟩ = some (.slice b1 n l1) := by rw [cell_of_block P5.out.bx]; rfl
            have v2 : W5.cell? ⟨w.heap.size, 2, none⟩ = some (.slice b2 n l2) := by rw [cell_of_block P5.out.bx]; rfl
            have HC : Hid (∀ w', Below W5.heap.size W5 w' → w'.cell? ⟨w.heap.size, 0, none⟩ = some (.slice b0 n l0) ∧ w'.cell? ⟨w.heap.size, 1, none⟩ = some (.slice b1 n l1) ∧ w'.cell? ⟨w.heap.size, 2, none⟩ = some (.slice b2 n l2)) := Lib.hid (fun w' h => ⟨cell_later h v0, cell_later h v1, cell_later h v2⟩)
            have L1 : Hid (∀ W', Below W5.heap.size W5 W' → Calls Tryd.prog 24 #[.pointer (some ⟨p, 0, none⟩)] W' fun e w' => e = .returned (.int .i64 (cn : Int)) ∧ W' = w') := Lib.hid (fun W' h => by rw [← hcn]; exact Int.len_ok W' (Tg.below P5.out.t h))
            have L2 : Hid (∀ W', Below W5.heap.size W5 W' → Calls Tryd.prog 73 #[.agg #[.slice b0 n l0, .slice b1 n l1, .slice b2 n l2]] W' fun e w' => e = .returned (.int .i64 (cn : Int)) ∧ Below W'.heap.size W' w') := Lib.hid (fun W' h => by rw [← hcn]; exact plen W' PS5.out (P5.out.oa.below h) (by omega))
            have L3 : Hid (∀ W', Below W5.heap.size W5 W' → Calls Tryd.prog 36 #[.pointer (some ⟨p, 0, none⟩)] W' fun e w' => e = .returned (.int .i64 (rm : Int)) ∧ Below W'.heap.size W' w') := Lib.hid (fun W' h => by rw [← hrm']; exact Int.room_ok W' (Tg.below P5.out.t h))
            have L4 : Hid (∀ W', Below W5.heap.size W5 W' → Calls Tryd.prog 74 #[.agg #[.slice b0 n l0, .slice b1 n l1, .slice b2 n l2]] W' fun e w' => e = .returned (.int .i64 (rm : Int)) ∧ Below W'.heap.size W' w') := Lib.hid (fun W' h => by rw [← hrm']; exact proom W' PS5.out (P5.out.oa.below h) (by omega))
            have qc : ((cn : Int) != (cn : Int)) = false := by simp
            have qr : ((rm : Int) != (rm : Int)) = false := by simp
            clear hcn hrm'
            go_region_held3 (fun w' => Below W5.heap.size W5 w' ∧ w'.cell? ⟨w.heap.size, 0, none⟩ = some (.slice b0 n l0) ∧ w'.cell? ⟨w.heap.size, 1, none⟩ = some (.slice b1 n l1) ∧ w'.cell? ⟨w.heap.size, 2, none⟩ = some (.slice b2 n l2))
              ((refine keepN HC ?_; first | exact (Below.refl _ _).drew | exact And.left (by assumption) | exact bel_call (by assumption) (by assumption)))
              (first
                | (go_at_call 24; (with_reducible refine (L1.out _ (And.left (by assumption))).mono ?_); rintro e w6 ⟨rfl, rfl⟩)
                | (go_at_call 73; (with_reducible refine (L2.out _ (And.left (by assumption))).mono ?_); rintro e w7 ⟨rfl, b7⟩; have g7 : Below W5.heap.size W5 w7 := bel_call (by assumption) b7)
                | (go_at_call 36; (with_reducible refine (L3.out _ (And.left (by assumption))).mono ?_); rintro e w8 ⟨rfl, b8⟩; have g8 : Below W5.heap.size W5 w8 := bel_call (by assumption) b8)
                | (go_at_call 74; (with_reducible refine (L4.out _ (And.left (by assumption))).mono ?_); rintro e w9 ⟨rfl, b9⟩; have g9 : Below W5.heap.size W5 w9 := bel_call (by assumption) b9))
            all_goals
              go_wp2
              refine ⟨⟨k + 1, _, st5, K, b0, l0, b1, l1, b2, l2, rfl, by omega, by simp, Lib.hid (P5.out.below (by first | exact And.left (by assumption) | assumption | exact (And.left (by assumption) : Below W5.heap.size W5 _))), PS5, by have := HKN.out; omega⟩, by simp [intOf]; omega⟩
          · obtain ⟨ev, hev⟩ : ∃ ev, findE st h = ev := ⟨_, rfl⟩
            have HE := Lib.hid he
            have HEV := Lib.hid hev
            have qz : (ev != ev) = false := by simp
            clear he hev hps hr2 hr3
            go_wp2_with fail
            refine (pset_err h vv w3 HPS.out P3.out.oa (by omega) HE.out).mono ?_
            rintro e w4 ⟨rfl, bb4⟩
            rw [HEV.out]
            have P4 := Lib.hid (P3.out.below bb4)
            have HX4 : Hid (w4.heap[wr.heap.size]? = some (.cells #[.int .u8 (wh : Int), .int .i64 hh, .int .u8 (oo : Int), .int .i64 vv] 55 (0, 0))) := Lib.hid ((bb4.block _ (blk_lt HX3.out)).trans HX3.out)
            have hx4l : wr.heap.size < w4.heap.size := blk_lt HX4.out
            have b43 : w4.cell? ⟨wr.heap.size, 3, none⟩ = some (.int .i64 vv) := by rw [cell_of_block HX4.out]; rfl
            have h4l := blk_lt P4.out.bx
            clear bb4 y0 y1 y2 b30 b33
            have y0 : w4.cell? ⟨w.heap.size, 0, none⟩ = some (.slice a0 n k0) := by rw [cell_of_block P4.out.bx]; rfl
            have y1 : w4.cell? ⟨w.heap.size, 1, none⟩ = some (.slice a1 n k1) := by rw [cell_of_block P4.out.bx]; rfl
            have y2 : w4.cell? ⟨w.heap.size, 2, none⟩ = some (.slice a2 n k2) := by rw [cell_of_block P4.out.bx]; rfl
            have yz : ∀ j, w4.frozen? ⟨w.heap.size, j, none⟩ = false := fun j => unfrozen_of_block P4.out.bx j
            have P5 := Lib.hid ((P4.out.box P4.out.oa).below (below_box0 _ (.cells #[.slice a0 n k0, .slice a1 n k1, .slice a2 n k2] 35)))
            go_wp2_with fail
            have hse := Int.set_err h vv _ P5.out.t HE.out
            rw [HEV.out] at hse
            refine hse.mono ?_
            rintro e w5 ⟨rfl, rfl⟩
            obtain ⟨W5, hW5⟩ : ∃ W, (((w4.setCell ⟨w.heap.size, 0, none⟩ (.slice a0 n k0)).setCell ⟨w.heap.size, 1, none⟩ (.slice a1 n k1)).setCell ⟨w.heap.size, 2, none⟩ (.slice a2 n k2)).alloc (.cells #[.slice a0 n k0, .slice a1 n k1, .slice a2 n k2] 35) = W := ⟨_, rfl⟩
            rw [hW5] at P5 ⊢
            have PS5 := HPS
            clear hse hW5 y0 y1 y2 yz b43
            go_wp2
            obtain ⟨cn, hcn⟩ : ∃ cn, (st).countP alv = cn := ⟨_, rfl⟩
            obtain ⟨rm, hrm'⟩ : ∃ rm, cnt (rdyF (st)) 0 (st).length = rm := ⟨_, rfl⟩
            have v0 : W5.cell? ⟨w.heap.size, 0, none⟩ = some (.slice a0 n k0) := by rw [cell_of_block P5.out.bx]; rfl
            have v1 : W5.cell? ⟨w.heap.size, 1, none⟩ = some (.slice a1 n k1) := by rw [cell_of_block P5.out.bx]; rfl
            have v2 : W5.cell? ⟨w.heap.size, 2, none⟩ = some (.slice a2 n k2) := by rw [cell_of_block P5.out.bx]; rfl
            have HC : Hid (∀ w', Below W5.heap.size W5 w' → w'.cell? ⟨w.heap.size, 0, none⟩ = some (.slice a0 n k0) ∧ w'.cell? ⟨w.heap.size, 1, none⟩ = some (.slice a1 n k1) ∧ w'.cell? ⟨w.heap.size, 2, none⟩ = some (.slice a2 n k2)) := Lib.hid (fun w' h => ⟨cell_later h v0, cell_later h v1, cell_later h v2⟩)
            have L1 : Hid (∀ W', Below W5.heap.size W5 W' → Calls Tryd.prog 24 #[.pointer (some ⟨p, 0, none⟩)] W' fun e w' => e = .returned (.int .i64 (cn : Int)) ∧ W' = w') := Lib.hid (fun W' h => by rw [← hcn]; exact Int.len_ok W' (Tg.below P5.out.t h))
            have L2 : Hid (∀ W', Below W5.heap.size W5 W' → Calls Tryd.prog 73 #[.agg #[.slice a0 n k0, .slice a1 n k1, .slice a2 n k2]] W' fun e w' => e = .returned (.int .i64 (cn : Int)) ∧ Below W'.heap.size W' w') := Lib.hid (fun W' h => by rw [← hcn]; exact plen W' PS5.out (P5.out.oa.below h) (by omega))
            have L3 : Hid (∀ W', Below W5.heap.size W5 W' → Calls Tryd.prog 36 #[.pointer (some ⟨p, 0, none⟩)] W' fun e w' => e = .returned (.int .i64 (rm : Int)) ∧ Below W'.heap.size W' w') := Lib.hid (fun W' h => by rw [← hrm']; exact Int.room_ok W' (Tg.below P5.out.t h))
            have L4 : Hid (∀ W', Below W5.heap.size W5 W' → Calls Tryd.prog 74 #[.agg #[.slice a0 n k0, .slice a1 n k1, .slice a2 n k2]] W' fun e w' => e = .returned (.int .i64 (rm : Int)) ∧ Below W'.heap.size W' w') := Lib.hid (fun W' h => by rw [← hrm']; exact proom W' PS5.out (P5.out.oa.below h) (by omega))
            have qc : ((cn : Int) != (cn : Int)) = false := by simp
            have qr : ((rm : Int) != (rm : Int)) = false := by simp
            clear hcn hrm'
            go_region_held3 (fun w' => Below W5.heap.size W5 w' ∧ w'.cell? ⟨w.heap.size, 0, none⟩ = some (.slice a0 n k0) ∧ w'.cell? ⟨w.heap.size, 1, none⟩ = some (.slice a1 n k1) ∧ w'.cell? ⟨w.heap.size, 2, none⟩ = some (.slice a2 n k2))
              ((refine keepN HC ?_; first | exact (Below.refl _ _).drew | exact And.left (by assumption) | exact bel_call (by assumption) (by assumption)))
              (first
                | (go_at_call 24; (with_reducible refine (L1.out _ (And.left (by assumption))).mono ?_); rintro e w6 ⟨rfl, rfl⟩)
                | (go_at_call 73; (with_reducible refine (L2.out _ (And.left (by assumption))).mono ?_); rintro e w7 ⟨rfl, b7⟩; have g7 : Below W5.heap.size W5 w7 := bel_call (by assumption) b7)
                | (go_at_call 36; (with_reducible refine (L3.out _ (And.left (by assumption))).mono ?_); rintro e w8 ⟨rfl, b8⟩; have g8 : Below W5.heap.size W5 w8 := bel_call (by assumption) b8)
                | (go_at_call 74; (with_reducible refine (L4.out _ (And.left (by assumption))).mono ?_); rintro e w9 ⟨rfl, b9⟩; have g9 : Below W5.heap.size W5 w9 := bel_call (by assumption) b9))
            all_goals
              go_wp2
              refine ⟨⟨k + 1, _, st, K, a0, k0, a1, k1, a2, k2, rfl, by omega, by simp, Lib.hid (P5.out.below (by first | exact And.left (by assumption) | assumption | exact (And.left (by assumption) : Below W5.heap.size W5 _))), PS5, by have := HKN.out; omega⟩, by simp [intOf]; omega⟩
        · have q3 : ((r : Int) == 3) = false := by simp; omega
          by_cases hr4 : 4 ≤ r
          · have key : ((r : Int) == 4) = true ∨ (((r : Int) == 4) = false ∧ ((r : Int) == 5) = true) := by
              by_cases e : r = 4
              · left; simp; omega
              · right; exact ⟨by simp; omega, by simp; omega⟩
            by_cases he : findE st h = 0
            · obtain ⟨i, hi, hil, hal, _⟩ := Int.findE_zero he
              obtain ⟨z, hz⟩ := hps.iv i hil
              have hz' : (st.getD i (0, false, undef)).2.2 = .int .i64 z := hz
              have hsl := hps.set (s := ((st.getD i (0, false, undef)).1, false, .int .i64 0)) hil (hps.gb i hil) (fun e => by cases e) ⟨0, rfl⟩ (fun _ => rfl)
              obtain ⟨st5, hst5⟩ : ∃ s, st.set i ((st.getD i (0, false, undef)).1, false, .int .i64 0) = s := ⟨_, rfl⟩
              rw [hst5] at hsl
              have htd := Int.tdrop_ok h i w3 P3.out.t he hi
              have hrd := fun W (ho : OS W n st a0 k0 a1 k1 a2 k2) => pdrop_ok h i W HPS.out ho h1n (by omega) he hi
              rw [hst5, hz'] at htd
              simp only [hst5, hz'] at hrd
              have PS5 := Lib.hid hsl
              have HTD := Lib.hid htd
              have HRD := Lib.hid hrd
              have qz : (z != z) = false := by simp
              clear he hi hil hal hsl hst5 hps hr2 hr3 hr4 htd hrd hz hz'
              rcases key with q4 | ⟨q4, q5⟩
              all_goals
                go_wp2_with fail
                refine HTD.out.mono ?_
                rintro e w4 ⟨rfl, t4, f4⟩
                have P4 := Lib.hid (P3.out.table t4 f4)
                have h4l := blk_lt P4.out.bx
                clear t4 f4 y0 y1 y2 b30 b33
                have y0 : w4.cell? ⟨w.heap.size, 0, none⟩ = some (.slice a0 n k0) := by rw [cell_of_block P4.out.bx]; rfl
                have y1 : w4.cell? ⟨w.heap.size, 1, none⟩ = some (.slice a1 n k1) := by rw [cell_of_block P4.out.bx]; rfl
                have y2 : w4.cell? ⟨w.heap.size, 2, none⟩ = some (.slice a2 n k2) := by rw [cell_of_block P4.out.bx]; rfl
                have yz : ∀ j, w4.frozen? ⟨w.heap.size, j, none⟩ = false := fun j => unfrozen_of_block P4.out.bx j
                go_wp2_with fail
                refine (HRD.out _ P4.out.oa).mono ?_
                rintro e w5 ⟨b0, l0, b1, l1, b2, l2, rfl, o5, bb5⟩
                have P6 := Lib.hid (P4.out.below bb5)
                have OO5 := Lib.hid o5
                have h5l := blk_lt P6.out.bx
                clear bb5 o5 y0 y1 y2 yz
                have y0 : w5.cell? ⟨w.heap.size, 0, none⟩ = some (.slice a0 n k0) := by rw [cell_of_block P6.out.bx]; rfl
                have y1 : w5.cell? ⟨w.heap.size, 1, none⟩ = some (.slice a1 n k1) := by rw [cell_of_block P6.out.bx]; rfl
                have y2 : w5.cell? ⟨w.heap.size, 2, none⟩ = some (.slice a2 n k2) := by rw [cell_of_block P6.out.bx]; rfl
                have yz : ∀ j, w5.frozen? ⟨w.heap.size, j, none⟩ = false := fun j => unfrozen_of_block P6.out.bx j
                have P5 := Lib.hid ((P6.out.box OO5.out).below (below_box0 _ (.cells #[.slice b0 n l0, .slice b1 n l1, .slice b2 n l2] 35)))
                go_wp2
                obtain ⟨W5, hW5⟩ : ∃ W, (((w5.setCell ⟨w.heap.size, 0, none⟩ (.slice b0 n l0)).setCell ⟨w.heap.size, 1, none⟩ (.slice b1 n l1)).setCell ⟨w.heap.size, 2, none⟩ (.slice b2 n l2)).alloc (.cells #[.slice b0 n l0, .slice b1 n l1, .slice b2 n l2] 35) = W := ⟨_, rfl⟩
                rw [hW5] at P5 ⊢
                clear hW5 y0 y1 y2 yz
                obtain ⟨cn, hcn⟩ : ∃ cn, (st5).countP alv = cn := ⟨_, rfl⟩
                obtain ⟨rm, hrm'⟩ : ∃ rm, cnt (rdyF (st5)) 0 (st5).length = rm := ⟨_, rfl⟩
                have v0 : W5.cell? ⟨w.heap.size, 0, none⟩ = some (.slice b0 n l0) := by rw [cell_of_block P5.out.bx]; rfl
                have v1 : W5.cell? ⟨w.heap.size, 1, none⟩ = some (.slice b1 n l1) := by rw [cell_of_block P5.out.bx]; rfl
                have v2 : W5.cell? ⟨w.heap.size, 2, none⟩ = some (.slice b2 n l2) := by rw [cell_of_block P5.out.bx]; rfl
                have HC : Hid (∀ w', Below W5.heap.size W5 w' → w'.cell? ⟨w.heap.size, 0, none⟩ = some (.slice b0 n l0) ∧ w'.cell? ⟨w.heap.size, 1, none⟩ = some (.slice b1 n l1) ∧ w'.cell? ⟨w.heap.size, 2, none⟩ = some (.slice b2 n l2)) := Lib.hid (fun w' h => ⟨cell_later h v0, cell_later h v1, cell_later h v2⟩)
                have L1 : Hid (∀ W', Below W5.heap.size W5 W' → Calls Tryd.prog 24 #[.pointer (some ⟨p, 0, none⟩)] W' fun e w' => e = .returned (.int .i64 (cn : Int)) ∧ W' = w') := Lib.hid (fun W' h => by rw [← hcn]; exact Int.len_ok W' (Tg.below P5.out.t h))
                have L2 : Hid (∀ W', Below W5.heap.size W5 W' → Calls Tryd.prog 73 #[.agg #[.slice b0 n l0, .slice b1 n l1, .slice b2 n l2]] W' fun e w' => e = .returned (.int .i64 (cn : Int)) ∧ Below W'.heap.size W' w') := Lib.hid (fun W' h => by rw [← hcn]; exact plen W' PS5.out (P5.out.oa.below h) (by omega))
                have L3 : Hid (∀ W', Below W5.heap.size W5 W' → Calls Tryd.prog 36 #[.pointer (some ⟨p, 0, none⟩)] W' fun e w' => e = .returned (.int .i64 (rm : Int)) ∧ Below W'.heap.size W' w') := Lib.hid (fun W' h => by rw [← hrm']; exact Int.room_ok W' (Tg.below P5.out.t h))
                have L4 : Hid (∀ W', Below W5.heap.size W5 W' → Calls Tryd.prog 74 #[.agg #[.slice b0 n l0, .slice b1 n l1, .slice b2 n l2]] W' fun e w' => e = .returned (.int .i64 (rm : Int)) ∧ Below W'.heap.size W' w') := Lib.hid (fun W' h => by rw [← hrm']; exact proom W' PS5.out (P5.out.oa.below h) (by omega))
                have qc : ((cn : Int) != (cn : Int)) = false := by simp
                have qr : ((rm : Int) != (rm : Int)) = false := by simp
                clear hcn hrm'
                go_region_held3 (fun w' => Below W5.heap.size W5 w' ∧ w'.cell? ⟨w.heap.size, 0, none⟩ = some (.slice b0 n l0) ∧ w'.cell? ⟨w.heap.size, 1, none⟩ = some (.slice b1 n l1) ∧ w'.cell? ⟨w.heap.size, 2, none⟩ = some (.slice b2 n l2))
                  ((refine keepN HC ?_; first | exact (Below.refl _ _).drew | exact And.left (by assumption) | exact bel_call (by assumption) (by assumption)))
                  (first
                    | (go_at_call 24; (with_reducible refine (L1.out _ (And.left (by assumption))).mono ?_); rintro e w6 ⟨rfl, rfl⟩)
                    | (go_at_call 73; (with_reducible refine (L2.out _ (And.left (by assumption))).mono ?_); rintro e w7 ⟨rfl, b7⟩; have g7 : Below W5.heap.size W5 w7 := bel_call (by assumption) b7)
                    | (go_at_call 36; (with_reducible refine (L3.out _ (And.left (by assumption))).mono ?_); rintro e w8 ⟨rfl, b8⟩; have g8 : Below W5.heap.size W5 w8 := bel_call (by assumption) b8)
                    | (go_at_call 74; (with_reducible refine (L4.out _ (And.left (by assumption))).mono ?_); rintro e w9 ⟨rfl, b9⟩; have g9 : Below W5.heap.size W5 w9 := bel_call (by assumption) b9))
                all_goals
                  go_wp2
                  refine ⟨⟨k + 1, _, st5, K, b0, l0, b1, l1, b2, l2, rfl, by omega, by simp, Lib.hid (P5.out.below (by first | exact And.left (by assumption) | assumption | exact (And.left (by assumption) : Below W5.heap.size W5 _))), PS5, by have := HKN.out; omega⟩, by simp [intOf]; omega⟩
            · obtain ⟨ev, hev⟩ : ∃ ev, findE st h = ev := ⟨_, rfl⟩
              have htd := Int.drop_err h w3 P3.out.t he
              have hrd := fun W (ho : OS W n st a0 k0 a1 k1 a2 k2) => pdrop_err h W HPS.out ho (by omega) he
              rw [hev] at htd
              simp only [hev] at hrd
              have HTD := Lib.hid htd
              have HRD := Lib.hid hrd
              have qz : (ev != ev) = false := by simp
              have PS5 := HPS
              clear he hev hps hr2 hr3 hr4 htd hrd
              rcases key with q4 | ⟨q4, q5⟩
              all_goals
                go_wp2_with fail
                refine HTD.out.mono ?_
                rintro e w4 ⟨rfl, rfl⟩
                go_wp2_with fail
                refine (HRD.out _ P3.out.oa).mono ?_
                rintro e w5 ⟨rfl, bb5⟩
                have P6 := Lib.hid (P3.out.below bb5)
                have h5l := blk_lt P6.out.bx
                clear bb5 y0 y1 y2 b30 b33
                have y0 : w5.cell? ⟨w.heap.size, 0, none⟩ = some (.slice a0 n k0) := by rw [cell_of_block P6.out.bx]; rfl
                have y1 : w5.cell? ⟨w.heap.size, 1, none⟩ = some (.slice a1 n k1) := by rw [cell_of_block P6.out.bx]; rfl
                have y2 : w5.cell? ⟨w.heap.size, 2, none⟩ = some (.slice a2 n k2) := by rw [cell_of_block P6.out.bx]; rfl
                have yz : ∀ j, w5.frozen? ⟨w.heap.size, j, none⟩ = false := fun j => unfrozen_of_block P6.out.bx j
                have P5 := Lib.hid ((P6.out.box P6.out.oa).below (below_box0 _ (.cells #[.slice a0 n k0, .slice a1 n k1, .slice a2 n k2] 35)))
                go_wp2
                obtain ⟨W5, hW5⟩ : ∃ W, (((w5.setCell ⟨w.heap.size, 0, none⟩ (.slice a0 n k0)).setCell ⟨w.heap.size, 1, none⟩ (.slice a1 n k1)).setCell ⟨w.heap.size, 2, none⟩ (.slice a2 n k2)).alloc (.cells #[.slice a0 n k0, .slice a1 n k1, .slice a2 n k2] 35) = W := ⟨_, rfl⟩
                rw [hW5] at P5 ⊢
                clear hW5 y0 y1 y2 yz
                obtain ⟨cn, hcn⟩ : ∃ cn, (st).countP alv = cn := ⟨_, rfl⟩
                obtain ⟨rm, hrm'⟩ : ∃ rm, cnt (rdyF (st)) 0 (st).length = rm := ⟨_, rfl⟩
                have v0 : W5.cell? ⟨w.heap.size, 0, none⟩ = some (.slice a0 n k0) := by rw [cell_of_block P5.out.bx]; rfl
                have v1 : W5.cell? ⟨w.heap.size, 1, none⟩ = some (.slice a1 n k1) := by rw [cell_of_block P5.out.bx]; rfl
                have v2 : W5.cell? ⟨w.heap.size, 2, none⟩ = some (.slice a2 n k2) := by rw [cell_of_block P5.out.bx]; rfl
                have HC : Hid (∀ w', Below W5.heap.size W5 w' → w'.cell? ⟨w.heap.size, 0, none⟩ = some (.slice a0 n k0) ∧ w'.cell? ⟨w.heap.size, 1, none⟩ = some (.slice a1 n k1) ∧ w'.cell? ⟨w.heap.size, 2, none⟩ = some (.slice a2 n k2)) := Lib.hid (fun w' h => ⟨cell_later h v0, cell_later h v1, cell_later h v2⟩)
                have L1 : Hid (∀ W', Below W5.heap.size W5 W' → Calls Tryd.prog 24 #[.pointer (some ⟨p, 0, none⟩)] W' fun e w' => e = .returned (.int .i64 (cn : Int)) ∧ W' = w') := Lib.hid (fun W' h => by rw [← hcn]; exact Int.len_ok W' (Tg.below P5.out.t h))
                have L2 : Hid (∀ W', Below W5.heap.size W5 W' → Calls Tryd.prog 73 #[.agg #[.slice a0 n k0, .slice a1 n k1, .slice a2 n k2]] W' fun e w' => e = .returned (.int .i64 (cn : Int)) ∧ Below W'.heap.size W' w') := Lib.hid (fun W' h => by rw [← hcn]; exact plen W' PS5.out (P5.out.oa.below h) (by omega))
                have L3 : Hid (∀ W', Below W5.heap.size W5 W' → Calls Tryd.prog 36 #[.pointer (some ⟨p, 0, none⟩)] W' fun e w' => e = .returned (.int .i64 (rm : Int)) ∧ Below W'.heap.size W' w') := Lib.hid (fun W' h => by rw [← hrm']; exact Int.room_ok W' (Tg.below P5.out.t h))
                have L4 : Hid (∀ W', Below W5.heap.size W5 W' → Calls Tryd.prog 74 #[.agg #[.slice a0 n k0, .slice a1 n k1, .slice a2 n k2]] W' fun e w' => e = .returned (.int .i64 (rm : Int)) ∧ Below W'.heap.size W' w') := Lib.hid (fun W' h => by rw [← hrm']; exact proom W' PS5.out (P5.out.oa.below h) (by omega))
                have qc : ((cn : Int) != (cn : Int)) = false := by simp
                have qr : ((rm : Int) != (rm : Int)) = false := by simp
                clear hcn hrm'
                go_region_held3 (fun w' => Below W5.heap.size W5 w' ∧ w'.cell? ⟨w.heap.size, 0, none⟩ = some (.slice a0 n k0) ∧ w'.cell? ⟨w.heap.size, 1, none⟩ = some (.slice a1 n k1) ∧ w'.cell? ⟨w.heap.size, 2, none⟩ = some (.slice a2 n k2))
                  ((refine keepN HC ?_; first | exact (Below.refl _ _).drew | exact And.left (by assumption) | exact bel_call (by assumption) (by assumption)))
                  (first
                    | (go_at_call 24; (with_reducible refine (L1.out _ (And.left (by assumption))).mono ?_); rintro e w6 ⟨rfl, rfl⟩)
                    | (go_at_call 73; (with_reducible refine (L2.out _ (And.left (by assumption))).mono ?_); rintro e w7 ⟨rfl, b7⟩; have g7 : Below W5.heap.size W5 w7 := bel_call (by assumption) b7)
                    | (go_at_call 36; (with_reducible refine (L3.out _ (And.left (by assumption))).mono ?_); rintro e w8 ⟨rfl, b8⟩; have g8 : Below W5.heap.size W5 w8 := bel_call (by assumption) b8)
                    | (go_at_call 74; (with_reducible refine (L4.out _ (And.left (by assumption))).mono ?_); rintro e w9 ⟨rfl, b9⟩; have g9 : Below W5.heap.size W5 w9 := bel_call (by assumption) b9))
                all_goals
                  go_wp2
                  refine ⟨⟨k + 1, _, st, K, a0, k0, a1, k1, a2, k2, rfl, by omega, by simp, Lib.hid (P5.out.below (by first | exact And.left (by assumption) | assumption | exact (And.left (by assumption) : Below W5.heap.size W5 _))), PS5, by have := HKN.out; omega⟩, by simp [intOf]; omega⟩
          · have q4 : ((r : Int) == 4) = false := by simp; omega
            have q5 : ((r : Int) == 5) = false := by simp; omega
            by_cases hfull : nxt (rdyF st) 0 st.length < st.length
            · obtain ⟨i, hi⟩ : ∃ i, nxt (rdyF st) 0 st.length = i := ⟨_, rfl⟩
              rw [hi] at hfull
              obtain ⟨_, hal, hg9⟩ := Int.rdyF_at (Int.next_at hi hfull)
              have hput := fun W (T : Int.TT W B p q st) (X : Tab W) => Int.tput_ok i vv W T X hi hfull
              have hrp := fun W (ho : OS W n st a0 k0 a1 k1 a2 k2) => pput_ok vv i W HPS.out ho h1n (by omega) hi hfull
              obtain ⟨g, hg⟩ : ∃ g, (st.getD i (0, false, undef)).1 = g := ⟨_, rfl⟩
              have hsl := hps.set (s := (g + 1, true, .int .i64 vv)) hfull (by rw [hg] at hg9; dsimp only; omega) (fun _ => by dsimp only; omega) ⟨vv, rfl⟩ (fun e => by cases e)
              obtain ⟨st5, hst5⟩ : ∃ s, st.set i (g + 1, true, .int .i64 vv) = s := ⟨_, rfl⟩
              obtain ⟨hnew, hhn⟩ : ∃ z : Int, ((g : Int) + 1) * 65536 + i = z := ⟨_, rfl⟩
              simp only [hg, hst5, hhn] at hput hrp
              rw [hst5] at hsl
              have PS5 := Lib.hid hsl
              have HTP := Lib.hid hput
              have HRP := Lib.hid hrp
              have qz : (hnew != hnew) = false := by simp
              clear hput hrp hsl hst5 hhn hg hg9 hal hi hfull hps hr2 hr3 hr4
              go_wp2_with fail
              refine (HTP.out _ P3.out.t P3.out.tab).mono ?_
              rintro e w4 ⟨rfl, t4, f4⟩
              have P4 := Lib.hid (P3.out.table t4 f4)
              have HX4 : Hid (w4.heap[wr.heap.size]? = some (.cells #[.int .u8 (wh : Int), .int .i64 hh, .int .u8 (oo : Int), .int .i64 vv] 55 (0, 0))) := Lib.hid ((f4.block _ (blk_lt HX3.out) (by omega) (by omega)).trans HX3.out)
              have hx4l : wr.heap.size < w4.heap.size := blk_lt HX4.out
              have b43 : w4.cell? ⟨wr.heap.size, 3, none⟩ = some (.int .i64 vv) := by rw [cell_of_block HX4.out]; rfl
              have h4l := blk_lt P4.out.bx
              clear t4 f4 y0 y1 y2 b30 b33
              have y0 : w4.cell? ⟨w.heap.size, 0, none⟩ = some (.slice a0 n k0) := by rw [cell_of_block P4.out.bx]; rfl
              have y1 : w4.cell? ⟨w.heap.size, 1, none⟩ = some (.slice a1 n k1) := by rw [cell_of_block P4.out.bx]; rfl
              have y2 : w4.cell? ⟨w.heap.size, 2, none⟩ = some (.slice a2 n k2) := by rw [cell_of_block P4.out.bx]; rfl
              have yz : ∀ j, w4.frozen? ⟨w.heap.size, j, none⟩ = false := fun j => unfrozen_of_block P4.out.bx j
              go_wp2_with fail
              refine (HRP.out _ P4.out.oa).mono ?_
              rintro e w5 ⟨b0, l0, b1, l1, b2, l2, rfl, o5, bb5⟩
              have P6 := Lib.hid (P4.out.below bb5)
              have OO5 := Lib.hid o5
              have h5l := blk_lt P6.out.bx
              clear bb5 o5 y0 y1 y2 yz b43
              have y0 : w5.cell? ⟨w.heap.size, 0, none⟩ = some (.slice a0 n k0) := by rw [cell_of_block P6.out.bx]; rfl
              have y1 : w5.cell? ⟨w.heap.size, 1, none⟩ = some (.slice a1 n k1) := by rw [cell_of_block P6.out.bx]; rfl
              have y2 : w5.cell? ⟨w.heap.size, 2, none⟩ = some (.slice a2 n k2) := by rw [cell_of_block P6.out.bx]; rfl
              have yz : ∀ j, w5.frozen? ⟨w.heap.size, j, none⟩ = false := fun j => unfrozen_of_block P6.out.bx j
              have PA := Lib.hid ((P6.out.box OO5.out).below (below_box0 _ (.cells #[.slice b0 n l0, .slice b1 n l1, .slice b2 n l2] 35)))
              have hrow := PA.out.row
              rw [HKN.out] at hrow
              have HROW := Lib.hid hrow
              clear hrow
              have hnews := heap_alloc_new ((((w5.setCell ⟨w.heap.size, 0, none⟩ (.slice b0 n l0)).setCell ⟨w.heap.size, 1, none⟩ (.slice b1 n l1)).setCell ⟨w.heap.size, 2, none⟩ (.slice b2 n l2)).alloc (.cells #[.slice b0 n l0, .slice b1 n l1, .slice b2 n l2] 35)) (.cells #[.int .i64 hnew] 2)
              simp only [World.size_alloc, World.size_setCell] at hnews
              have HNEWS := Lib.hid hnews
              clear hnews
              go_wp2_with (at_builtin; refine wpList_append_lies _ rfl (.tmp 71) (.tmp 73) 51 rfl w.heap.size 2 i0 (.int .i64 0) 1 8 Tryd.underlying51 hi0 hz0 hs0 hb0 rfl (by decide) (.slice u n2 c) n2 (kH K) rfl (HROW.out.alloc _) ⟨w5.heap.size + 1, 0, none⟩ 1 1 [.int .i64 hnew] rfl rfl (World.news_of_block HNEWS.out) (by intro u hu; simp at hu; subst hu; rfl) (by decide) (by simp only [maxLen]; omega) (by omega) (by simp only [World.size_alloc, World.size_setCell]; omega) (w5.heap.size + 1 + 1) (by simp only [World.size_alloc, World.size_setCell]) ?_)
              intro gg cap W5 hown hgrow hat hlt1
              have P5 := Lib.hid (PA.out.give HKN.out hown hgrow)
              clear hown hgrow hat y0 y1 y2 yz
              go_wp2
              obtain ⟨cn, hcn⟩ : ∃ cn, (st5).countP alv = cn := ⟨_, rfl⟩
              obtain ⟨rm, hrm'⟩ : ∃ rm, cnt (rdyF (st5)) 0 (st5).length = rm := ⟨_, rfl⟩
              have v0 : W5.cell? ⟨w.heap.size, 0, none⟩ = some (.slice b0 n l0) := by rw [cell_of_block P5.out.bx]; rfl
              have v1 : W5.cell? ⟨w.heap.size, 1, none⟩ = some (.slice b1 n l1) := by rw [cell_of_block P5.out.bx]; rfl
              have v2 : W5.cell? ⟨w.heap.size, 2, none⟩ = some (.slice b2 n l2) := by rw [cell_of_block P5.out.bx]; rfl
              have HC : Hid (∀ w', Below W5.heap.size W5 w' → w'.cell? ⟨w.heap.size, 0, none⟩ = some (.slice b0 n l0) ∧ w'.cell? ⟨w.heap.size, 1, none⟩ = some (.slice b1 n l1) ∧ w'.cell? ⟨w.heap.size, 2, none⟩ = some (.slice b2 n l2)) := Lib.hid (fun w' h => ⟨cell_later h v0, cell_later h v1, cell_later h v2⟩)
              have L1 : Hid (∀ W', Below W5.heap.size W5 W' → Calls Tryd.prog 24 #[.pointer (some ⟨p, 0, none⟩)] W' fun e w' => e = .returned (.int .i64 (cn : Int)) ∧ W' = w') := Lib.hid (fun W' h => by rw [← hcn]; exact Int.len_ok W' (Tg.below P5.out.t h))
              have L2 : Hid (∀ W', Below W5.heap.size W5 W' → Calls Tryd.prog 73 #[.agg #[.slice b0 n l0, .slice b1 n l1, .slice b2 n l2]] W' fun e w' => e = .returned (.int .i64 (cn : Int)) ∧ Below W'.heap.size W' w') := Lib.hid (fun W' h => by rw [← hcn]; exact plen W' PS5.out (P5.out.oa.below h) (by omega))
              have L3 : Hid (∀ W', Below W5.heap.size W5 W' → Calls Tryd.prog 36 #[.pointer (some ⟨p, 0, none⟩)] W' fun e w' => e = .returned (.int .i64 (rm : Int)) ∧ Below W'.heap.size W' w') := Lib.hid (fun W' h => by rw [← hrm']; exact Int.room_ok W' (Tg.below P5.out.t h))
              have L4 : Hid (∀ W', Below W5.heap.size W5 W' → Calls Tryd.prog 74 #[.agg #[.slice b0 n l0, .slice b1 n l1, .slice b2 n l2]] W' fun e w' => e = .returned (.int .i64 (rm : Int)) ∧ Below W'.heap.size W' w') := Lib.hid (fun W' h => by rw [← hrm']; exact proom W' PS5.out (P5.out.oa.below h) (by omega))
              have qc : ((cn : Int) != (cn : Int)) = false := by simp
              have qr : ((rm : Int) != (rm : Int)) = false := by simp
              clear hcn hrm'
              go_region_held3 (fun w' => Below W5.heap.size W5 w' ∧ w'.cell? ⟨w.heap.size, 0, none⟩ = some (.slice b0 n l0) ∧ w'.cell? ⟨w.heap.size, 1, none⟩ = some (.slice b1 n l1) ∧ w'.cell? ⟨w.heap.size, 2, none⟩ = some (.slice b2 n l2))
                ((refine keepN HC ?_; first | exact (Below.refl _ _).drew | exact And.left (by assumption) | exact bel_call (by assumption) (by assumption)))
                (first
                  | (go_at_call 24; (with_reducible refine (L1.out _ (And.left (by assumption))).mono ?_); rintro e w6 ⟨rfl, rfl⟩)
                  | (go_at_call 73; (with_reducible refine (L2.out _ (And.left (by assumption))).mono ?_); rintro e w7 ⟨rfl, b7⟩; have g7 : Below W5.heap.size W5 w7 := bel_call (by assumption) b7)
                  | (go_at_call 36; (with_reducible refine (L3.out _ (And.left (by assumption))).mono ?_); rintro e w8 ⟨rfl, b8⟩; have g8 : Below W5.heap.size W5 w8 := bel_call (by assumption) b8)
                  | (go_at_call 74; (with_reducible refine (L4.out _ (And.left (by assumption))).mono ?_); rintro e w9 ⟨rfl, b9⟩; have g9 : Below W5.heap.size W5 w9 := bel_call (by assumption) b9))
              all_goals
                go_wp2
                refine ⟨⟨k + 1, _, st5, K ++ [(hnew, false, 0)], b0, l0, b1, l1, b2, l2, rfl, by omega, by simp, Lib.hid (P5.out.below (by first | exact And.left (by assumption) | assumption | exact (And.left (by assumption) : Below W5.heap.size W5 _))), PS5, by rw [List.length_append]; have := HKN.out; simp; omega⟩, by simp [intOf]; omega⟩
            · have htp := fun W (T : Int.TT W B p q st) (X : Tab W) => Int.tput_full vv W T X hfull
              have hrp := fun W (ho : OS W n st a0 k0 a1 k1 a2 k2) => pput_full vv W HPS.out ho (by omega) hfull
              have HTP := Lib.hid htp
              have HRP := Lib.hid hrp
              have PS5 := HPS
              clear htp hrp hfull hps hr2 hr3 hr4
              go_wp2_with fail
              refine (HTP.out _ P3.out.t P3.out.tab).mono ?_
              rintro e w4 ⟨rfl, bb4⟩
              have P4 := Lib.hid (P3.out.below bb4)
              have HX4 : Hid (w4.heap[wr.heap.size]? = some (.cells #[.int .u8 (wh : Int), .int .i64 hh, .int .u8 (oo : Int), .int .i64 vv] 55 (0, 0))) := Lib.hid ((bb4.block _ (blk_lt HX3.out)).trans HX3.out)
              have hx4l : wr.heap.size < w4.heap.size := blk_lt HX4.out
              have b43 : w4.cell? ⟨wr.heap.size, 3, none⟩ = some (.int .i64 vv) := by rw [cell_of_block HX4.out]; rfl
              have h4l := blk_lt P4.out.bx
              clear bb4 y0 y1 y2 b30 b33
              have y0 : w4.cell? ⟨w.heap.size, 0, none⟩ = some (.slice a0 n k0) := by rw [cell_of_block P4.out.bx]; rfl
              have y1 : w4.cell? ⟨w.heap.size, 1, none⟩ = some (.slice a1 n k1) := by rw [cell_of_block P4.out.bx]; rfl
              have y2 : w4.cell? ⟨w.heap.size, 2, none⟩ = some (.slice a2 n k2) := by rw [cell_of_block P4.out.bx]; rfl
              have yz : ∀ j, w4.frozen? ⟨w.heap.size, j, none⟩ = false := fun j => unfrozen_of_block P4.out.bx j
              go_wp2_with fail
              refine (HRP.out _ P4.out.oa).mono ?_
              rintro e w5 ⟨rfl, bb5⟩
              have P6 := Lib.hid (P4.out.below bb5)
              have h5l := blk_lt P6.out.bx
              clear bb5 y0 y1 y2 yz b43
              have y0 : w5.cell? ⟨w.heap.size, 0, none⟩ = some (.slice a0 n k0) := by rw [cell_of_block P6.out.bx]; rfl
              have y1 : w5.cell? ⟨w.heap.size, 1, none⟩ = some (.slice a1 n k1) := by rw [cell_of_block P6.out.bx]; rfl
              have y2 : w5.cell? ⟨w.heap.size, 2, none⟩ = some (.slice a2 n k2) := by rw [cell_of_block P6.out.bx]; rfl
              have yz : ∀ j, w5.frozen? ⟨w.heap.size, j, none⟩ = false := fun j => unfrozen_of_block P6.out.bx j
              have P5 := Lib.hid ((P6.out.box P6.out.oa).below (below_box0 _ (.cells #[.slice a0 n k0, .slice a1 n k1, .slice a2 n k2] 35)))
              go_wp2
              obtain ⟨W5, hW5⟩ : ∃ W, (((w5.setCell ⟨w.heap.size, 0, none⟩ (.slice a0 n k0)).setCell ⟨w.heap.size, 1, none⟩ (.slice a1 n k1)).setCell ⟨w.heap.size, 2, none⟩ (.slice a2 n k2)).alloc (.cells #[.slice a0 n k0, .slice a1 n k1, .slice a2 n k2] 35) = W := ⟨_, rfl⟩
              rw [hW5] at P5 ⊢
              clear hW5 y0 y1 y2 yz
              obtain ⟨cn, hcn⟩ : ∃ cn, (st).countP alv = cn := ⟨_, rfl⟩
              obtain ⟨rm, hrm'⟩ : ∃ rm, cnt (rdyF (st)) 0 (st).length = rm := ⟨_, rfl⟩
              have v0 : W5.cell? ⟨w.heap.size, 0, none⟩ = some (.slice a0 n k0) := by rw [cell_of_block P5.out.bx]; rfl
              have v1 : W5.cell? ⟨w.heap.size, 1, none⟩ = some (.slice a1 n k1) := by rw [cell_of_block P5.out.bx]; rfl
              have v2 : W5.cell? ⟨w.heap.size, 2, none⟩ = some (.slice a2 n k2) := by rw [cell_of_block P5.out.bx]; rfl
              have HC : Hid (∀ w', Below W5.heap.size W5 w' → w'.cell? ⟨w.heap.size, 0, none⟩ = some (.slice a0 n k0) ∧ w'.cell? ⟨w.heap.size, 1, none⟩ = some (.slice a1 n k1) ∧ w'.cell? ⟨w.heap.size, 2, none⟩ = some (.slice a2 n k2)) := Lib.hid (fun w' h => ⟨cell_later h v0, cell_later h v1, cell_later h v2⟩)
              have L1 : Hid (∀ W', Below W5.heap.size W5 W' → Calls Tryd.prog 24 #[.pointer (some ⟨p, 0, none⟩)] W' fun e w' => e = .returned (.int .i64 (cn : Int)) ∧ W' = w') := Lib.hid (fun W' h => by rw [← hcn]; exact Int.len_ok W' (Tg.below P5.out.t h))
              have L2 : Hid (∀ W', Below W5.heap.size W5 W' → Calls Tryd.prog 73 #[.agg #[.slice a0 n k0, .slice a1 n k1, .slice a2 n k2]] W' fun e w' => e = .returned (.int .i64 (cn : Int)) ∧ Below W'.heap.size W' w') := Lib.hid (fun W' h => by rw [← hcn]; exact plen W' PS5.out (P5.out.oa.below h) (by omega))
              have L3 : Hid (∀ W', Below W5.heap.size W5 W' → Calls Tryd.prog 36 #[.pointer (some ⟨p, 0, none⟩)] W' fun e w' => e = .returned (.int .i64 (rm : Int)) ∧ Below W'.heap.size W' w') := Lib.hid (fun W' h => by rw [← hrm']; exact Int.room_ok W' (Tg.below P5.out.t h))
              have L4 : Hid (∀ W', Below W5.heap.size W5 W' → Calls Tryd.prog 74 #[.agg #[.slice a0 n k0, .slice a1 n k1, .slice a2 n k2]] W' fun e w' => e = .returned (.int .i64 (rm : Int)) ∧ Below W'.heap.size W' w') := Lib.hid (fun W' h => by rw [← hrm']; exact proom W' PS5.out (P5.out.oa.below h) (by omega))
              have qc : ((cn : Int) != (cn : Int)) = false := by simp
              have qr : ((rm : Int) != (rm : Int)) = false := by simp
              clear hcn hrm'
              go_region_held3 (fun w' => Below W5.heap.size W5 w' ∧ w'.cell? ⟨w.heap.size, 0, none⟩ = some (.slice a0 n k0) ∧ w'.cell? ⟨w.heap.size, 1, none⟩ = some (.slice a1 n k1) ∧ w'.cell? ⟨w.heap.size, 2, none⟩ = some (.slice a2 n k2))
                ((refine keepN HC ?_; first | exact (Below.refl _ _).drew | exact And.left (by assumption) | exact bel_call (by assumption) (by assumption)))
                (first
                  | (go_at_call 24; (with_reducible refine (L1.out _ (And.left (by assumption))).mono ?_); rintro e w6 ⟨rfl, rfl⟩)
                  | (go_at_call 73; (with_reducible refine (L2.out _ (And.left (by assumption))).mono ?_); rintro e w7 ⟨rfl, b7⟩; have g7 : Below W5.heap.size W5 w7 := bel_call (by assumption) b7)
                  | (go_at_call 36; (with_reducible refine (L3.out _ (And.left (by assumption))).mono ?_); rintro e w8 ⟨rfl, b8⟩; have g8 : Below W5.heap.size W5 w8 := bel_call (by assumption) b8)
                  | (go_at_call 74; (with_reducible refine (L4.out _ (And.left (by assumption))).mono ?_); rintro e w9 ⟨rfl, b9⟩; have g9 : Below W5.heap.size W5 w9 := bel_call (by assumption) b9))
              all_goals
                go_wp2
                refine ⟨⟨k + 1, _, st, K, a0, k0, a1, k1, a2, k2, rfl, by omega, by simp, Lib.hid (P5.out.below (by first | exact And.left (by assumption) | assumption | exact (And.left (by assumption) : Below W5.heap.size W5 _))), PS5, by have := HKN.out; omega⟩, by simp [intOf]; omega⟩
    · have z2 : decide ((k : Int) < (m : Int)) = false := by simp; omega
      have z3 : decide (k < m) = false := by simpa using hlt
      have y0 : wr.cell? ⟨w.heap.size, 0, none⟩ = some (.slice a0 n k0) := by rw [cell_of_block HP.out.bx]; rfl
      have y1 : wr.cell? ⟨w.heap.size, 1, none⟩ = some (.slice a1 n k1) := by rw [cell_of_block HP.out.bx]; rfl
      have y2 : wr.cell? ⟨w.heap.size, 2, none⟩ = some (.slice a2 n k2) := by rw [cell_of_block HP.out.bx]; rfl
      have s0 : wr.cell? ⟨w.heap.size + 1, 0, none⟩ = some (.slice none 0 0) := by rw [cell_of_block HP.out.rb]; rfl
      have s1 : wr.cell? ⟨w.heap.size + 1, 1, none⟩ = some (.slice none 0 0) := by rw [cell_of_block HP.out.rb]; rfl
      have s2 : wr.cell? ⟨w.heap.size + 1, 2, none⟩ = some (.slice none 0 0) := by rw [cell_of_block HP.out.rb]; rfl
      have sz : ∀ j, wr.frozen? ⟨w.heap.size + 1, j, none⟩ = false := fun j => unfrozen_of_block HP.out.rb j
      clear hlt
      go_wp2
      refine bodyPost_ret (v := .tuple #[.agg #[.slice a0 n k0, .slice a1 n k1, .slice a2 n k2], .bool true]) (by simp [results, Tryd.f47, go_sem, s0, s1, s2]) rfl ?_
      have P6 := HP.out.result (.slice a0 n k0) (.slice a1 n k1) (.slice a2 n k2)
      exact ⟨a0, k0, a1, k1, a2, k2, st, rfl, P6.1, P6.2.1, HPS.out, P6.2.2.1, P6.2.2.2⟩
end
end Go.Proofs.YtpaecmpiokkdnaaDoor

namespace Go.Proofs.YtpaecmpiokkdnaaDoor
open Go.RowKit Go.Sort Go.Joins Go.Shelf
attribute [local go_sem] cell_grow frozen_grow size_grow Oper.semAt_some

theorem nmade (w : World) : Calls Tryd.prog 52 #[.pointer none] w fun e w' => e = .returned (.bool false) ∧ w = w' := by
  go_enter Tryd.func52, Tryd.ntmps52
  go_wp2
  go_ret
  exact ⟨rfl, rfl⟩
theorem nput (v : Int) (w : World) : Calls Tryd.prog 14 #[.pointer none, .int .i64 v] w fun e w' => e = .returned (.tuple #[.int .i64 0, .int .i64 1]) ∧ w = w' := by
  go_enter Tryd.func14, Tryd.ntmps14
  go_wp2_with fail
  refine (nmade _).mono ?_
  rintro e w1 ⟨rfl, rfl⟩
  go_wp2
  go_ret2
  exact ⟨rfl, rfl⟩
theorem nfind (h : Int) (w : World) : Calls Tryd.prog 58 #[.pointer none, .int .i64 h] w fun e w' => e = .returned (.tuple #[.pointer none, .int .i64 1]) ∧ w = w' := by
  go_enter Tryd.func58, Tryd.ntmps58
  go_wp2_with fail
  refine (nmade _).mono ?_
  rintro e w1 ⟨rfl, rfl⟩
  go_wp2
  go_ret2
  exact ⟨rfl, rfl⟩
theorem nget (h : Int) (w : World) : Calls Tryd.prog 28 #[.pointer none, .int .i64 h] w fun e w' => e = .returned (.tuple #[.int .i64 0, .int .i64 1]) ∧ w = w' := by
  go_enter Tryd.func28, Tryd.ntmps28
  go_wp2_with fail
  refine (nfind h _).mono ?_
  rintro e w1 ⟨rfl, rfl⟩
  go_wp2
  go_ret2
  exact ⟨rfl, rfl⟩
theorem nset (h v : Int) (w : World) : Calls Tryd.prog 27 #[.pointer none, .int .i64 h, .int .i64 v] w fun e w' => e = .returned (.int .i64 1) ∧ w = w' := by
  go_enter Tryd.func27, Tryd.ntmps27
  go_wp2_with fail
  refine (nfind h _).mono ?_
  rintro e w1 ⟨rfl, rfl⟩
  go_wp2
  go_ret
  exact ⟨rfl, rfl⟩
theorem ndrop (h : Int) (w : World) : Calls Tryd.prog 23 #[.pointer none, .int .i64 h] w fun e w' => e = .returned (.tuple #[.int .i64 0, .int .i64 1]) ∧ w = w' := by
  have hmf : ∀ (fn : Fn) (first cap : Array Value) (w : World), (Instr.makeFunc fn first cap).run Tryd.prog w = .ok (.func fn first cap) w := fun _ _ _ _ => rfl
  go_enter Tryd.func23, Tryd.ntmps23
  go_wp2_with fail
  refine (nfind h _).mono ?_
  rintro e w1 ⟨rfl, rfl⟩
  go_wp2
  go_ret2
  exact ⟨rfl, rfl⟩
theorem nlen (w : World) : Calls Tryd.prog 24 #[.pointer none] w fun e w' => e = .returned (.int .i64 0) ∧ w = w' := by
  go_enter Tryd.func24, Tryd.ntmps24
  go_wp2_with fail
  refine (nmade _).mono ?_
  rintro e w1 ⟨rfl, rfl⟩
  go_wp2
  go_ret
  exact ⟨rfl, rfl⟩
theorem nroom (w : World) : Calls Tryd.prog 36 #[.pointer none] w fun e w' => e = .returned (.int .i64 0) ∧ w = w' := by
  go_enter Tryd.func36, Tryd.ntmps36
  go_wp2_with fail
  refine (nmade _).mono ?_
  rintro e w1 ⟨rfl, rfl⟩
  go_wp2
  go_ret
  exact ⟨rfl, rfl⟩
theorem nsave (w : World) : Calls Tryd.prog 21 #[.pointer none] w fun e w' => e = .returned (.agg #[.slice none 0 0, .slice none 0 0, .slice none 0 0]) ∧ Below w.heap.size w w' := by
  have bb := (below_box0 w (.cells #[.slice none 0 0, .slice none 0 0, .slice none 0 0] 35)).trans ((below_box0 (w.alloc (.cells #[.slice none 0 0, .slice none 0 0, .slice none 0 0] 35)) (.cells #[.slice none 0 0, .slice none 0 0, .slice none 0 0] 35)).mono (by simp))
  have HB := Lib.hid bb
  clear bb
  go_enter Tryd.func21, Tryd.ntmps21
  go_wp2_with fail
  refine (nmade _).mono ?_
  rintro e w1 ⟨rfl, rfl⟩
  go_wp2
  refine bodyPost_ret (v := .agg #[.slice none 0 0, .slice none 0 0, .slice none 0 0]) (by simp [results, Tryd.f21, go_sem]) rfl ⟨rfl, ?_⟩
  exact ((Below.refl _ _).alloc (Nat.le_refl _) _).alloc (by simp) _
end Go.Proofs.YtpaecmpiokkdnaaDoor

namespace Go.Proofs.YtpaecmpiokkdnaaDoor
open Go.RowKit Go.Sort Go.Joins Go.Shelf
attribute [local go_sem] cell_grow frozen_grow size_grow Oper.semAt_some

set_option maxRecDepth 100000 in
set_option maxHeartbeats 1600000 in
theorem nall_seq (d Bt : Nat) (I : List Nat → World → Prop) (hI : ∀ pre W, I pre W → W.cell? ⟨Bt, 0, none⟩ = some (.pointer none)) (w : World) :
    SeqI Fence.wide d Tryd.prog 57 #[.pointer (some ⟨Bt, 0, none⟩)] (encAll []) I (GAll []) (SAll []) w := by
  intro l J Jx W _ hJ _ hJI hY h0
  have hc0 := hI _ _ (hJI _ _ h0)
  have HM := Lib.hid (nmade W)
  have H0 := Lib.hid h0
  clear h0
  refine callsIn_of_wp Tryd.func57 rfl trivial ?_ rfl
  simp only [Tryd.ntmps57, List.size_toArray, List.length_cons, List.length_nil, Nat.reduceAdd, Nat.reduceSub, Array.replicate_succ, Array.replicate_zero, List.push_toArray, List.append_toArray, List.nil_append, List.cons_append]
  gi_wp2_with (refine ⟨trivial, wide_any' _, (callsIn_wide.2 HM.out).mono ?_⟩; rintro e w1 ⟨rfl, rfl⟩)
  refine bodyPost_ret (results_none rfl _ _ _) rfl ?_
  exact ⟨⟨_, rfl⟩, .inl ⟨[], rfl, H0.out⟩⟩
/-- what lies in memory -/
structure WN (w W : World) : Prop where
  b4 : W.heap[w.heap.size]? = some (.cells #[.slice none 0 0] 51 (0, 0))
  b5 : W.heap[w.heap.size + 1]? = some (.cells #[.slice none 0 0] 32 (0, 0))
  bt : W.heap[w.heap.size + 1 + 1]? = some (.cells #[.pointer none] 24 (0, 0))
  k : Below w.heap.size w W
theorem WN.kept {w W W' : World} (h : WN w W) {row : Option Nat} {Z : Nat} (hZ : w.heap.size ≤ Z) (hg : W.grownBy W' row) (hr : ∀ r, row = some r → Z ≤ r ∧ ∃ o : Obj, W.heap[r]? = some o ∧ o.isCells = false) : WN w W' := by
  have hr2 := fun r e => (hr r e).2
  exact ⟨blk_kept h.b4 hg hr2, blk_kept h.b5 hg hr2, blk_kept h.bt hg hr2, h.k.grown hg h.k.size (fun r e => by have := (hr r e).1; omega)⟩
set_option maxRecDepth 100000 in
set_option maxHeartbeats 6400000 in
theorem nwalked (w : World) :
    Calls Tryd.prog 25 #[.pointer none] w fun e w' => e = .returned (.tuple #[.slice none 0 0, .slice none 0 0]) ∧ Below w.heap.size w w' := by
  have hne := func_ne_nil'
  refine (callsIn_wide (n := 4)).1 ?_
  refine callsIn_of_wp_marks Tryd.func25 rfl trivial ?_ rfl
  simp only [Tryd.ntmps25, List.size_toArray, List.length_cons, List.length_nil, Nat.reduceAdd, Nat.reduceSub, Array.replicate_succ, Array.replicate_zero, List.push_toArray, List.append_toArray, List.nil_append, List.cons_append]
  gi_wp2_with fail
  refine ⟨trivial, (callsIn_wide.2 (all_ok _ _)).mono ?_⟩
  rintro e w2 ⟨rfl, hw2⟩
  have hWN : WN w w2 := by
    have bw : Below w.heap.size w w2 := by
      rw [← hw2]
      exact (((Below.refl _ w).alloc (Nat.le_refl _) _).alloc (by simp) _).alloc (by simp; omega) _
    refine ⟨?_, ?_, ?_, bw⟩
    · rw [← hw2]; refine (Below.heap_alloc _ _ _ (by simp <;> omega)).trans ?_; refine (Below.heap_alloc _ _ _ (by simp <;> omega)).trans ?_; exact heap_alloc_new w _
    · rw [← hw2]; refine (Below.heap_alloc _ _ _ (by simp <;> omega)).trans ?_
      have := heap_alloc_new (w.alloc (.cells #[.slice none 0 0] 51)) (.cells #[.slice none 0 0] 32)
      rwa [World.size_alloc] at this
    · rw [← hw2]
      have := heap_alloc_new ((w.alloc (.cells #[.slice none 0 0] 51)).alloc (.cells #[.slice none 0 0] 32)) (.cells #[.pointer none] 24)
      rwa [World.size_alloc, World.size_alloc] at this
  have hsz2 : w.heap.size + 3 ≤ w2.heap.size := by rw [← hw2]; simp
  have HWN := Lib.hid hWN
  clear hWN hw2
  gi_wp2
  refine wpIn_iter_moves rfl (by omega) (gf := 57) (lb := #[.pointer (some ⟨w.heap.size + 1 + 1, 0, none⟩)]) rfl trivial (enters_of Tryd.func57 (by kernel_rfl) rfl)
    (fun pre W => WN w W)
    (nall_seq _ (w.heap.size + 1 + 1) _ ?keep _) (fun _ => rfl) (fun _ _ _ => False) ?own (fun _ _ _ _ _ hs _ _ => hs) ?start
    (fun a x => { tmps := (((a.tmps.setIfInBounds 14 (.int .i64 (hndI [] x))).setIfInBounds 15 ((([] : List Slt).getD x (0, false, undef)).2.2)).setIfInBounds 7 (.int .i64 (hndI [] x))).setIfInBounds 8 ((([] : List Slt).getD x (0, false, undef)).2.2), defers := [] })
    ?assign ?body ?done (fun _ _ _ _ _ h _ => h.elim)
  case keep =>
    intro pre W hD
    rw [cell_of_block hD.bt]; rfl
  case own =>
    intro pre X Y row hD hg hr
    exact hD.kept (by have := HWN.out.k.size; omega) hg hr
  case start => exact HWN.out
  case assign =>
    intro l x W K hK
    simp only [List.setIfInBounds_toArray, List.set_cons_zero, List.set_cons_succ] at hK
    gi_wp2
    exact hK
  case body =>
    rintro l pre x W hl hD ⟨hpre, hx, hal⟩
    exact absurd hx (Nat.not_lt_zero _)
  case done =>
    rintro D' xs W hD' hxs hD hK
    have c4 : W.cell? ⟨w.heap.size, 0, none⟩ = some (.slice none 0 0) := by rw [cell_of_block hD.b4]; rfl
    have c5 : W.cell? ⟨w.heap.size + 1, 0, none⟩ = some (.slice none 0 0) := by rw [cell_of_block hD.b5]; rfl
    have HD := Lib.hid hD
    have HK := Lib.hid hK
    clear hD hK hxs
    gi_wp2
    refine code_noPanic' ?_
    gi_region_with (fail)
    all_goals
      simp only [noPanic']
      gi_wp2
      have hK' : W.drew.heap[D']? = some (.deferred (some [])) := HK.out
      refine ⟨by simp, .inl ⟨_, _, rfl, run_takeDeferred hK', ?_⟩⟩
      refine ⟨.tuple #[.slice none 0 0, .slice none 0 0], ?_, rfl, (HD.out.k.trans ((Below.refl w.heap.size W).drew)).trans (belowK_b (w := w) (Nat.le_refl _) _ D' _ _ (by have := HWN.out.k.size; omega) hK' rfl rfl)⟩
      simp [results, Tryd.f25, go_sem]
end Go.Proofs.YtpaecmpiokkdnaaDoor

namespace Go.Proofs.YtpaecmpiokkdnaaDoor.Int
open Go.RowKit Go.Sort Go.Joins
attribute [local go_sem] cell_grow frozen_grow size_grow

def gvs (st : List Slt) : List Value := st.map fun s => .int .i64 (s.1 : Int)
def als (st : List Slt) : List Value := st.map fun s => .bool s.2.1
def vls (st : List Slt) : List Value := st.map fun s => s.2.2
theorem take_next {α : Type} (f : Slt → α) {st : List Slt} {i : Nat} {s : Slt} (hi : i < st.length) (hs : st.getD i (0, false, undef) = s) : (st.take (i + 1)).map f = (st.take i).map f ++ [f s] := by
  rw [List.take_succ_eq_append_getElem hi, List.map_append, List.map_singleton, ← hs, List.getD_eq_getElem?_getD, List.getElem?_eq_getElem hi]; rfl

theorem info_int : (Tryd.prog.info? 3).map (fun i => (i.zero, i.size, i.bytes)) = some (some (.int .i64 0), 1, 8) := by kernel_rfl
theorem info_bool : (Tryd.prog.info? 4).map (fun i => (i.zero, i.size, i.bytes)) = some (some (.bool false), 1, 1) := by kernel_rfl
theorem info_val : (Tryd.prog.info? 3).map (fun i => (i.zero, i.size, i.bytes)) = some (some (.int .i64 0), 1, 8) := by kernel_rfl

structure SvAt (w wr : World) (st : List Slt) (i : Nat) (r0 r1 r2 : Value) : Prop where
  box : wr.heap[w.heap.size + 1]? = some (.cells #[r0, r1, r2] 35 (0, 0))
  out : wr.heap[w.heap.size]? = some (.cells #[.slice none 0 0, .slice none 0 0, .slice none 0 0] 35 (0, 0))
  o0 : wr.ownsRow (w.heap.size + 2) 3 1 r0 i (gvs (st.take i))
  o1 : wr.ownsRow (w.heap.size + 2) 4 1 r1 i (als (st.take i))
  o2 : wr.ownsRow (w.heap.size + 2) 3 1 r2 i (vls (st.take i))
  n01 : ∀ g, r0.ownBlock = some g → r1.ownBlock ≠ some g
  n02 : ∀ g, r0.ownBlock = some g → r2.ownBlock ≠ some g
  n12 : ∀ g, r1.ownBlock = some g → r2.ownBlock ≠ some g
  k : Below w.heap.size w wr

/-- the loop's relation after a round -/
theorem SvAt.next {w wr W wx : World} {st : List Slt} {i g : Nat} {al : Bool} {v r0 r1 r2 : Value} {t0 t1 t2 : TypeId} {D0 D1 D2 : ChDyn} {g0 g1 g2 k0 k1 k2 : Nat} (hS : SvAt w wr st i r0 r1 r2) (hW : Below w.heap.size w W)
    (HC : Chains W [(ChSpec.mk (w.heap.size + 2) 3 t0 r0 i (gvs (st.take i)) (.int .i64 (g : Nat)) [.int .i64 (g : Nat)], D0), (ChSpec.mk (w.heap.size + 2) 4 t1 r1 i (als (st.take i)) (.bool al) [.bool al], D1), (ChSpec.mk (w.heap.size + 2) 3 t2 r2 i (vls (st.take i)) v [v], D2)] wx)
    (hbW : W.heap[w.heap.size]? = wr.heap[w.heap.size]?) (box : wx.heap[w.heap.size + 1]? = some (.cells #[r0, r1, r2] 35 (0, 0))) (hlt : i < st.length) (hg : st.getD i (0, false, undef) = (g, al, v))
    (own0 : wx.ownsRow (w.heap.size + 2) 3 1 (.slice (some ⟨g0, 0, none⟩) (i + 1) k0) (i + 1) (gvs (st.take i) ++ [.int .i64 (g : Nat)]))
    (own1 : wx.ownsRow (w.heap.size + 2) 4 1 (.slice (some ⟨g1, 0, none⟩) (i + 1) k1) (i + 1) (als (st.take i) ++ [.bool al]))
    (own2 : wx.ownsRow (w.heap.size + 2) 3 1 (.slice (some ⟨g2, 0, none⟩) (i + 1) k2) (i + 1) (vls (st.take i) ++ [v]))
    (hu0 : g0 ∈ D0.u) (hu1 : g1 ∈ D1.u) (hu2 : g2 ∈ D2.u) :
    SvAt w (((wx.setCell ⟨w.heap.size + 1, 0, none⟩ (.slice (some ⟨g0, 0, none⟩) (i + 1) k0)).setCell ⟨w.heap.size + 1, 1, none⟩ (.slice (some ⟨g1, 0, none⟩) (i + 1) k1)).setCell ⟨w.heap.size + 1, 2, none⟩ (.slice (some ⟨g2, 0, none⟩) (i + 1) k2)) st (i + 1)
      (.slice (some ⟨g0, 0, none⟩) (i + 1) k0) (.slice (some ⟨g1, 0, none⟩) (i + 1) k1) (.slice (some ⟨g2, 0, none⟩) (i + 1) k2) := by
  have ne : ∀ k, k < w.heap.size + 2 → ∀ c ∈ [(ChSpec.mk (w.heap.size + 2) 3 t0 r0 i (gvs (st.take i)) (.int .i64 (g : Nat)) [.int .i64 (g : Nat)], D0), (ChSpec.mk (w.heap.size + 2) 4 t1 r1 i (als (st.take i)) (.bool al) [.bool al], D1), (ChSpec.mk (w.heap.size + 2) 3 t2 r2 i (vls (st.take i)) v [v], D2)], c.1.row.ownBlock ≠ some k := by
    intro k hk c hc
    simp only [List.mem_cons, List.not_mem_nil, or_false] at hc
    rcases hc with rfl | rfl | rfl
    · exact fun e => by have := (hS.o0.lt k e).1; omega
    · exact fun e => by have := (hS.o1.lt k e).1; omega
    · exact fun e => by have := (hS.o2.lt k e).1; omega
  have hsz : w.heap.size < W.heap.size := blk_lt (hbW.trans hS.out)
  have hap := HC.apart
  simp only [List.pairwise_cons, List.mem_cons, List.not_mem_nil, or_false, forall_eq_or_imp, forall_eq] at hap
  have e0 : gvs (st.take (i + 1)) = gvs (st.take i) ++ [.int .i64 (g : Nat)] := take_next (fun s : Slt => Value.int .i64 (s.1 : Int)) hlt hg
  have e1 : als (st.take (i + 1)) = als (st.take i) ++ [.bool al] := take_next (fun s : Slt => Value.bool s.2.1) hlt hg
  have e2 : vls (st.take (i + 1)) = vls (st.take i) ++ [v] := take_next (fun s : Slt => s.2.2) hlt hg
  refine ⟨?_, ?_, ?_, ?_, ?_, ?_, ?_, ?_, ?_⟩
  · rw [setCell_block (setCell_block (setCell_block box _) _) _]; simp
  · rw [Below.heap_setCell _ _ _ _ (by dsimp only; omega), Below.heap_setCell _ _ _ _ (by dsimp only; omega), Below.heap_setCell _ _ _ _ (by dsimp only; omega), HC.block _ hsz (ne _ (by omega)), hbW]
    exact hS.out
  · rw [e0]; exact ownsRow_setCell_below (ownsRow_setCell_below (ownsRow_setCell_below own0 (by dsimp only; omega) _) (by dsimp only; omega) _) (by dsimp only; omega) _
  · rw [e1]; exact ownsRow_setCell_below (ownsRow_setCell_below (ownsRow_setCell_below own1 (by dsimp only; omega) _) (by dsimp only; omega) _) (by dsimp only; omega) _
  · rw [e2]; exact ownsRow_setCell_below (ownsRow_setCell_below (ownsRow_setCell_below own2 (by dsimp only; omega) _) (by dsimp only; omega) _) (by dsimp only; omega) _
  · intro k h1 h2
    simp only [Value.ownBlock, Option.some.injEq] at h1 h2
    exact hap.1.1 g0 hu0 (by rw [h1, ← h2]; exact hu1)
  · intro k h1 h2
    simp only [Value.ownBlock, Option.some.injEq] at h1 h2
    exact hap.1.2 g0 hu0 (by rw [h1, ← h2]; exact hu2)
  · intro k h1 h2
    simp only [Value.ownBlock, Option.some.injEq] at h1 h2
    exact hap.2.1 g1 hu1 (by rw [h1, ← h2]; exact hu2)
  · have hk : Below w.heap.size W wx := ⟨HC.os, HC.tape, HC.output, HC.size, fun k hk => HC.block k (by omega) (ne k (by omega))⟩
    exact (((hW.trans hk).setCell (p := ⟨w.heap.size + 1, 0, none⟩) (by dsimp only; omega) _).setCell (p := ⟨w.heap.size + 1, 1, none⟩) (by dsimp only; omega) _).setCell (p := ⟨w.heap.size + 1, 2, none⟩) (by dsimp only; omega) _

set_option maxRecDepth 100000 in
set_option maxHeartbeats 6400000 in
theorem save_ok {B p q : Nat} {st : List Slt} (w : World) (h : Tg 99 105 w B p q st) (hval : ∀ j, j < st.length → ∃ (x : Int), (st.getD j (0, false, undef)).2.2 = (.int .i64 x)) :
    Calls Tryd.prog 21 #[.pointer (some ⟨p, 0, none⟩)] w fun e w' => ∃ x, e = .returned x ∧ RS w' x st ∧ Below w.heap.size w w' := by
  obtain ⟨i0, hi0, hz0, hs0, hb0⟩ := info_parts info_int
  obtain ⟨i1, hi1, hz1, hs1, hb1⟩ := info_parts info_bool
  obtain ⟨i2, hi2, hz2, hs2, hb2⟩ := info_parts info_val
  have HT := Lib.hid h
  have n2 := h.n2
  have n1 := h.n1
  have hp := Tb.c0 h
  have hpl := World.block_lt_of_cell? _ _ hp
  have hql := blk_lt (Tb.slots h)
  dsimp only at hpl
  clear h hp
  obtain ⟨n, hn⟩ : ∃ n, st.length = n := ⟨_, rfl⟩
  have c0 := Tb.c0 HT.out
  rw [hn] at c0 n1 n2
  have HN := Lib.hid hn
  clear hn
  go_enter Tryd.func21, Tryd.ntmps21
  go_wp2_with fail
  refine (made_ok _ ((Tb.below HT.out (((Below.refl _ w).alloc (Nat.le_refl _) _).alloc (by simp) _)))).mono ?_
  rintro e w1 ⟨rfl, rfl⟩
  go_wp2
  generalize hW0 : (w.alloc (.cells #[.slice none 0 0, .slice none 0 0, .slice none 0 0] 35)).alloc (.cells #[.slice none 0 0, .slice none 0 0, .slice none 0 0] 35) = W0
  have HW0 := Lib.hid hW0
  clear hW0
  go_loopw [15] (fun x wr => ∃ (i : Nat) (r0 r1 r2 : Value), i ≤ n ∧ x = .int .i64 i ∧ Hid (SvAt w wr st i r0 r1 r2)) (fun x _ => n - (intOf x).toNat)
  case atStart =>
    refine ⟨0, .slice none 0 0, .slice none 0 0, .slice none 0 0, Nat.zero_le _, rfl, Lib.hid ?_⟩
    rw [← HW0.out]
    refine ⟨?_, ?_, World.ownsRow_nil _ _ _ _, World.ownsRow_nil _ _ _ _, World.ownsRow_nil _ _ _ _, fun g h => by simp [Value.ownBlock] at h, fun g h => by simp [Value.ownBlock] at h, fun g h => by simp [Value.ownBlock] at h, ((Below.refl _ w).alloc (Nat.le_refl _) _).alloc (by simp) _⟩
    · have := heap_alloc_new (w.alloc (.cells #[.slice none 0 0, .slice none 0 0, .slice none 0 0] 35)) (.cells #[.slice none 0 0, .slice none 0 0, .slice none 0 0] 35)
      rwa [World.size_alloc] at this
    · exact (Below.heap_alloc _ _ _ (by simp)).trans (heap_alloc_new w _)
  case round =>
    obtain ⟨i, r0, r1, r2, hi, rfl, HSv⟩ := hrel
    by_cases hlt2 : i < n
    · have hlb : decide (i < n) = true := by simpa using hlt2
      have hli : (i : Int) < (n : Int) := by omega
      have hl0 : (0 : Int) ≤ (i : Int) := by omega
      have hTr := Tg.below HT.out HSv.out.k
      obtain ⟨x, hx⟩ := hval i (by have := HN.out; omega)
      obtain ⟨⟨g, al, v⟩, hS⟩ : ∃ S, st.getD i (0, false, undef) = S := ⟨_, rfl⟩
      have s0 := Tb.s0 hTr (i := i) (by have := HN.out; omega)
      have s1 := Tb.s1 hTr (i := i) (by have := HN.out; omega)
      have s2 := Tb.s2 hTr (i := i) (by have := HN.out; omega)
      rw [hx] at s2
      rw [hS] at s0 s1 hx
      dsimp only at s0 s1 hx
      subst hx
      have hgt := Lib.hid hS
      clear hTr hS
      go_wp2
      refine wp_region_any (by kernel_rfl) ?_
      change wpAny _ _ _ _ _ _ _ (World.drew _)
      refine wpAny_takeD 0 19 (.pointer (some ⟨w.heap.size + 1, 0, none⟩)) rfl rfl (by kernel_rfl) (by kernel_rfl) (by kernel_rfl) (fun _ _ _ h => h) (by rfl) (fun w => by go_simp) ?_
      try simp only [Act.put, List.setIfInBounds_toArray, List.set_cons_zero, List.set_cons_succ]
      refine wpAny_takeD 2 21 (.pointer (some ⟨wr.heap.size, 0, none⟩)) rfl rfl (by kernel_rfl) (by kernel_rfl) (by kernel_rfl) (fun _ _ _ h => h) (by rfl) (fun w => by go_simp) ?_
      try simp only [Act.put, List.setIfInBounds_toArray, List.set_cons_zero, List.set_cons_succ]
      refine wpAny_takeD 6 25 (.pointer (some ⟨w.heap.size + 1, 1, none⟩)) rfl rfl (by kernel_rfl) (by kernel_rfl) (by kernel_rfl) (fun _ _ _ h => h) (by rfl) (fun w => by go_simp) ?_
      try simp only [Act.put, List.setIfInBounds_toArray, List.set_cons_zero, List.set_cons_succ]
      refine wpAny_takeD 8 27 (.pointer (some ⟨wr.heap.size, 1, none⟩)) rfl rfl (by kernel_rfl) (by kernel_rfl) (by kernel_rfl) (fun _ _ _ h => h) (by rfl) (fun w => by go_simp) ?_
      try simp only [Act.put, List.setIfInBounds_toArray, List.set_cons_zero, List.set_cons_succ]
      refine wpAny_takeD 12 31 (.pointer (some ⟨w.heap.size + 1, 2, none⟩)) rfl rfl (by kernel_rfl) (by kernel_rfl) (by kernel_rfl) (fun _ _ _ h => h) (by rfl) (fun w => by go_simp) ?_
      try simp only [Act.put, List.setIfInBounds_toArray, List.set_cons_zero, List.set_cons_succ]
      refine wpAny_takeD 14 33 (.pointer (some ⟨wr.heap.size, 2, none⟩)) rfl rfl (by kernel_rfl) (by kernel_rfl) (by kernel_rfl) (fun _ _ _ h => h) (by rfl) (fun w => by go_simp) ?_
      try simp only [Act.put, List.setIfInBounds_toArray, List.set_cons_zero, List.set_cons_succ]
      generalize hWd : World.drew _ = W
      have HWD := Lib.hid hWd
      clear hWd
      have HBW : Hid (W.heap[w.heap.size]? = wr.heap[w.heap.size]?) := Lib.hid (by rw [← HWD.out]; exact Below.heap_alloc wr _ _ (by have := blk_lt HSv.out.box; omega))
      have HE0 : Hid (W.heap[w.heap.size + 1]? = some (.cells #[r0, r1, r2] 35 (0, 0))) := Lib.hid (by rw [← HWD.out]; exact (Below.heap_alloc wr _ _ (by have := HSv.out.k.size; have := blk_lt HSv.out.box; omega)).trans HSv.out.box)
      have HE1 : Hid (W.heap[wr.heap.size]? = some (.cells #[.int .i64 (g : Nat), .bool al, (.int .i64 x)] 105 (0, 0))) := Lib.hid (by rw [← HWD.out]; exact heap_alloc_new wr _)
      have HB1 : Hid (wr.heap.size < W.heap.size ∧ w.heap.size + 2 ≤ wr.heap.size) := Lib.hid ⟨blk_lt HE1.out, by have := blk_lt HSv.out.box; omega⟩
      have NE : Hid ((∀ k, k < w.heap.size + 2 → r0.ownBlock ≠ some k) ∧ (∀ k, k < w.heap.size + 2 → r1.ownBlock ≠ some k) ∧ (∀ k, k < w.heap.size + 2 → r2.ownBlock ≠ some k)) := Lib.hid ⟨fun k hk e => by have := (HSv.out.o0.lt k e).1; omega, fun k hk e => by have := (HSv.out.o1.lt k e).1; omega, fun k hk e => by have := (HSv.out.o2.lt k e).1; omega⟩
      have NF : Hid (r0.ownBlock ≠ some wr.heap.size ∧ r1.ownBlock ≠ some wr.heap.size ∧ r2.ownBlock ≠ some wr.heap.size) := Lib.hid ⟨fun e => by have := (HSv.out.o0.lt _ e).2; omega, fun e => by have := (HSv.out.o1.lt _ e).2; omega, fun e => by have := (HSv.out.o2.lt _ e).2; omega⟩
      have HO0 : Hid (W.ownsRow (w.heap.size + 2) 3 1 r0 i (gvs (st.take i))) := Lib.hid (by rw [← HWD.out]; exact own_same (HSv.out.o0.alloc _) fun g _ => rfl)
      have HO1 : Hid (W.ownsRow (w.heap.size + 2) 4 1 r1 i (als (st.take i))) := Lib.hid (by rw [← HWD.out]; exact own_same (HSv.out.o1.alloc _) fun g _ => rfl)
      have HO2 : Hid (W.ownsRow (w.heap.size + 2) 3 1 r2 i (vls (st.take i))) := Lib.hid (by rw [← HWD.out]; exact own_same (HSv.out.o2.alloc _) fun g _ => rfl)
      have HKW : Hid (Below w.heap.size w W) := Lib.hid (by rw [← HWD.out]; exact (HSv.out.k.alloc HSv.out.k.size _).drew)
      refine wpAny_named (fun A0 hA0 => ?_)
      have HA0 := Lib.hid hA0
      clear hA0
      have HCELL : Hid (∀ (d0 d1 d2 : ChDyn) (wx : World), Chains W [((ChSpec.mk (w.heap.size + 2) 3 3 r0 i (gvs (st.take i)) (.int .i64 (g : Nat)) [.int .i64 (g : Nat)]), d0), ((ChSpec.mk (w.heap.size + 2) 4 4 r1 i (als (st.take i)) (.bool al) [.bool al]), d1), ((ChSpec.mk (w.heap.size + 2) 3 3 r2 i (vls (st.take i)) ((.int .i64 x)) [(.int .i64 x)]), d2)] wx → wx.heap[w.heap.size + 1]? = some (.cells #[r0, r1, r2] 35 (0, 0)) ∧ wx.heap[wr.heap.size]? = some (.cells #[.int .i64 (g : Nat), .bool al, (.int .i64 x)] 105 (0, 0))) := Lib.hid (by
        intro d0 d1 d2 wx HC
        have hrow : ∀ k, k < W.heap.size → (((ChSpec.mk (w.heap.size + 2) 3 3 r0 i (gvs (st.take i)) (.int .i64 (g : Nat)) [.int .i64 (g : Nat)])).row.ownBlock ≠ some k ∧ ((ChSpec.mk (w.heap.size + 2) 4 4 r1 i (als (st.take i)) (.bool al) [.bool al])).row.ownBlock ≠ some k ∧ ((ChSpec.mk (w.heap.size + 2) 3 3 r2 i (vls (st.take i)) ((.int .i64 x)) [(.int .i64 x)])).row.ownBlock ≠ some k) → wx.heap[k]? = W.heap[k]? := fun k hk hn => HC.block k hk (by
          intro c hc
          simp only [List.mem_cons, List.not_mem_nil, or_false] at hc
          rcases hc with rfl | rfl | rfl
          · exact hn.1
          · exact hn.2.1
          · exact hn.2.2
        )
        refine ⟨(hrow _ (by have := HB1.out; omega) ⟨NE.out.1 _ (by omega), NE.out.2.1 _ (by omega), NE.out.2.2 _ (by omega)⟩).trans HE0.out, (hrow _ (by have := HB1.out; omega) ⟨NF.out.1, NF.out.2.1, NF.out.2.2⟩).trans HE1.out⟩
        )
      refine wpAny_inv (fun l a wx => ∃ (d0 d1 d2 : ChDyn) (s0 : Bool) (vs0 : Value), l = #[true, d0.r, true, d0.y, d0.b, d0.a, true, d1.r, true, d1.y, d1.b, d1.a, true, d2.r, true, d2.y, d2.b, d2.a, s0, false, false, false, false, false] ∧ a = (((((((((((((A0.put (some 20) d0.vr).put (some 22) d0.vx).put (some 23) d0.vb).put (some 24) d0.va).put (some 26) d1.vr).put (some 28) d1.vx).put (some 29) d1.vb).put (some 30) d1.va).put (some 32) d2.vr).put (some 34) d2.vx).put (some 35) d2.vb).put (some 36) d2.va).put (some 37) vs0) ∧ (s0 = true → vs0 = (.pointer (some ⟨w.heap.size + 1, 0, none⟩))) ∧ ((d1.a = true → d0.a = true) ∧ (d2.a = true → d1.a = true)) ∧ Chains W [((ChSpec.mk (w.heap.size + 2) 3 3 r0 i (gvs (st.take i)) (.int .i64 (g : Nat)) [.int .i64 (g : Nat)]), d0), ((ChSpec.mk (w.heap.size + 2) 4 4 r1 i (als (st.take i)) (.bool al) [.bool al]), d1), ((ChSpec.mk (w.heap.size + 2) 3 3 r2 i (vls (st.take i)) ((.int .i64 x)) [(.int .i64 x)]), d2)] wx) (by kernel_rfl) (by rintro l a wx ⟨_, _, _, _, _, rfl, _, _⟩; rfl) ?step _ _ _ _ (by kernel_rfl) ?start
      case start =>
        refine ⟨ChDyn.new (ChSpec.mk (w.heap.size + 2) 3 3 r0 i (gvs (st.take i)) (.int .i64 (g : Nat)) [.int .i64 (g : Nat)]) (A0.tmps[20]?.getD undef) (A0.tmps[22]?.getD undef) (A0.tmps[23]?.getD undef) (A0.tmps[24]?.getD undef), ChDyn.new (ChSpec.mk (w.heap.size + 2) 4 4 r1 i (als (st.take i)) (.bool al) [.bool al]) (A0.tmps[26]?.getD undef) (A0.tmps[28]?.getD undef) (A0.tmps[29]?.getD undef) (A0.tmps[30]?.getD undef), ChDyn.new (ChSpec.mk (w.heap.size + 2) 3 3 r2 i (vls (st.take i)) ((.int .i64 x)) [(.int .i64 x)]) (A0.tmps[32]?.getD undef) (A0.tmps[34]?.getD undef) (A0.tmps[35]?.getD undef) (A0.tmps[36]?.getD undef), false, (A0.tmps[37]?.getD undef), rfl, ?_, (fun h => by cases h), ⟨(fun h => by cases h), (fun h => by cases h)⟩, ?_⟩
        · simp only [ChDyn.new, put_self]
        · exact (((Chains.nil W).add (ChSpec.mk (w.heap.size + 2) 3 3 r2 i (vls (st.take i)) ((.int .i64 x)) [(.int .i64 x)]) _ _ _ _ HO2.out (fun gk hg c hc => by cases hc)).add (ChSpec.mk (w.heap.size + 2) 4 4 r1 i (als (st.take i)) (.bool al) [.bool al]) _ _ _ _ HO1.out (fun gk hg c hc => by simp only [List.mem_cons, List.not_mem_nil, or_false] at hc; subst hc; exact fun hm => HSv.out.n12 gk hg (by simpa [ChDyn.new] using hm))).add (ChSpec.mk (w.heap.size + 2) 3 3 r0 i (gvs (st.take i)) (.int .i64 (g : Nat)) [.int .i64 (g : Nat)]) _ _ _ _ HO0.out (fun gk hg c hc => by simp only [List.mem_cons, List.not_mem_nil, or_false] at hc; rcases hc with rfl | rfl; exact fun hm => HSv.out.n01 gk hg (by simpa [ChDyn.new] using hm); exact fun hm => HSv.out.n02 gk hg (by simpa [ChDyn.new] using hm))
      case step =>
        rintro l a wx ⟨⟨cr0, cy0, cb0, ca0, cvr0, cvx0, cvb0, cva0, cu0⟩, ⟨cr1, cy1, cb1, ca1, cvr1, cvx1, cvb1, cva1, cu1⟩, ⟨cr2, cy2, cb2, ca2, cvr2, cvx2, cvb2, cva2, cu2⟩, cs0, cvs0, rfl, rfl, HS0, HACH, HC⟩
        have hA0 := HA0.out
        subst hA0
        clear HA0
        have HE := HCELL.out _ _ _ _ HC
        clear HCELL
        have q0 : wx.cell? ⟨w.heap.size + 1, 0, none⟩ = some r0 := by rw [cell_of_block HE.1]; rfl
        have q1 : wx.cell? ⟨w.heap.size + 1, 1, none⟩ = some r1 := by rw [cell_of_block HE.1]; rfl
        have q2 : wx.cell? ⟨w.heap.size + 1, 2, none⟩ = some r2 := by rw [cell_of_block HE.1]; rfl
        have p0 : wx.cell? ⟨wr.heap.size, 0, none⟩ = some (.int .i64 (g : Nat)) := by rw [cell_of_block HE.2]; rfl
        have p1 : wx.cell? ⟨wr.heap.size, 1, none⟩ = some (.bool al) := by rw [cell_of_block HE.2]; rfl
        have p2 : wx.cell? ⟨wr.heap.size, 2, none⟩ = some ((.int .i64 x)) := by rw [cell_of_block HE.2]; rfl
        have hsz := HC.size
        by_cases hdone : ca0 = true ∧ ca1 = true ∧ ca2 = true
        · left
          obtain ⟨rfl, rfl, rfl⟩ := hdone
          obtain ⟨z1, z2, z3, g0, cap0, z4, hu0, own0⟩ := (Chains.at0 HC).done rfl
          dsimp only at z1 z2 z3 z4
          subst z1 z2 z3 z4
          obtain ⟨z1, z2, z3, g1, cap1, z4, hu1, own1⟩ := (Chains.at1 HC).done rfl
          dsimp only at z1 z2 z3 z4
          subst z1 z2 z3 z4
          obtain ⟨z1, z2, z3, g2, cap2, z4, hu2, own2⟩ := (Chains.at2 HC).done rfl
          dsimp only at z1 z2 z3 z4
          subst z1 z2 z3 z4
          cases cs0 with
          | false =>
            refine wpAny_fuel 6 (by kernel_rfl) ?_
            simp only [Act.put, List.setIfInBounds_toArray, List.set_cons_zero, List.set_cons_succ]
            have fz : ∀ j, wx.frozen? ⟨w.heap.size + 1, j, none⟩ = false := fun j => unfrozen_of_block HE.1 j
            have HCC := Lib.hid HC
            clear HC
            refine wpAny_takeD 18 37 (.pointer (some ⟨w.heap.size + 1, 0, none⟩)) rfl rfl (by kernel_rfl) (by kernel_rfl) (by kernel_rfl) (fun _ _ _ h => h) (by rfl) (fun w => by go_simp) ?_
            simp only [Act.put, List.setIfInBounds_toArray, List.set_cons_zero, List.set_cons_succ]
            refine wpAny_ready (rs := [19]) (by kernel_rfl) (by simp) (AllReady.cons rfl (fun K hK => ?_) AllReady.nil)
            go_simp
            refine hK _ _ ?_
            clear hK K
            refine wpAny_takeD 20 38 (.pointer (some ⟨w.heap.size + 1, 1, none⟩)) rfl rfl (by kernel_rfl) (by kernel_rfl) (by kernel_rfl) (fun _ _ _ h => h) (by rfl) (fun w => by go_simp) ?_
            simp only [Act.put, List.setIfInBounds_toArray, List.set_cons_zero, List.set_cons_succ]
            refine wpAny_ready (rs := [21]) (by kernel_rfl) (by simp) (AllReady.cons rfl (fun K hK => ?_) AllReady.nil)
            go_simp
            refine hK _ _ ?_
            clear hK K
            refine wpAny_takeD 22 39 (.pointer (some ⟨w.heap.size + 1, 2, none⟩)) rfl rfl (by kernel_rfl) (by kernel_rfl) (by kernel_rfl) (fun _ _ _ h => h) (by rfl) (fun w => by go_simp) ?_
            simp only [Act.put, List.setIfInBounds_toArray, List.set_cons_zero, List.set_cons_succ]
            refine wpAny_ready (rs := [23]) (by kernel_rfl) (by simp) (AllReady.cons rfl (fun K hK => ?_) AllReady.nil)
            go_simp
            refine hK _ _ ?_
            clear hK K
            refine wpAny_done (by kernel_rfl) ?_ _
            go_wp2
            refine ⟨⟨i + 1, _, _, _, by omega, by simp, Lib.hid (SvAt.next HSv.out HKW.out HCC.out HBW.out HE.1 (by have := HN.out; omega) hgt.out own0 own1 own2 hu0 hu1 hu2)⟩, by simp [intOf]; omega⟩
          | true =>
            obtain rfl := HS0 rfl
            refine wpAny_fuel 5 (by kernel_rfl) ?_
            simp only [Act.put, List.setIfInBounds_toArray, List.set_cons_zero, List.set_cons_succ]
            have fz : ∀ j, wx.frozen? ⟨w.heap.size + 1, j, none⟩ = false := fun j => unfrozen_of_block HE.1 j
            have HCC := Lib.hid HC
            clear HC
            refine wpAny_ready (rs := [19]) (by kernel_rfl) (by simp) (AllReady.cons rfl (fun K hK => ?_) AllReady.nil)
            go_simp
            refine hK _ _ ?_
            clear hK K
            refine wpAny_takeD 20 38 (.pointer (some ⟨w.heap.size + 1, 1, none⟩)) rfl rfl (by kernel_rfl) (by kernel_rfl) (by kernel_rfl) (fun _ _ _ h => h) (by rfl) (fun w => by go_simp) ?_
            simp only [Act.put, List.setIfInBounds_toArray, List.set_cons_zero, List.set_cons_succ]
            refine wpAny_ready (rs := [21]) (by kernel_rfl) (by simp) (AllReady.cons rfl (fun K hK => ?_) AllReady.nil)
            go_simp
            refine hK _ _ ?_
            clear hK K
            refine wpAny_takeD 22 39 (.pointer (some ⟨w.heap.size + 1, 2, none⟩)) rfl rfl (by kernel_rfl) (by kernel_rfl) (by kernel_rfl) (fun _ _ _ h => h) (by rfl) (fun w => by go_simp) ?_
            simp only [Act.put, List.setIfInBounds_toArray, List.set_cons_zero, List.set_cons_succ]
            refine wpAny_ready (rs := [23]) (by kernel_rfl) (by simp) (AllReady.cons rfl (fun K hK => ?_) AllReady.nil)
            go_simp
            refine hK _ _ ?_
            clear hK K
            refine wpAny_done (by kernel_rfl) ?_ _
            go_wp2
            refine ⟨⟨i + 1, _, _, _, by omega, by simp, Lib.hid (SvAt.next HSv.out HKW.out HCC.out HBW.out HE.1 (by have := HN.out; omega) hgt.out own0 own1 own2 hu0 hu1 hu2)⟩, by simp [intOf]; omega⟩
        · right
          refine ⟨openOps_pos (i := 23) (by decide) rfl, fun i hi => ?_⟩
          obtain ⟨ho, hlt⟩ := ready_open hi
          have hlt2 : i < 24 := hlt
          rcases (by omega : i = 0 ∨ i = 1 ∨ i = 2 ∨ i = 3 ∨ i = 4 ∨ i = 5 ∨ i = 6 ∨ i = 7 ∨ i = 8 ∨ i = 9 ∨ i = 10 ∨ i = 11 ∨ i = 12 ∨ i = 13 ∨ i = 14 ∨ i = 15 ∨ i = 16 ∨ i = 17 ∨ i = 18 ∨ i = 19 ∨ i = 20 ∨ i = 21 ∨ i = 22 ∨ i = 23) with rfl | rfl | rfl | rfl | rfl | rfl | rfl | rfl | rfl | rfl | rfl | rfl | rfl | rfl | rfl | rfl | rfl | rfl | rfl | rfl | rfl | rfl | rfl | rfl
          · exact absurd (show true = false from ho) (by decide)
          · refine wpOp_step rfl (fun K hK => ?_)
            simp only [Act.put, List.setIfInBounds_toArray, List.set_cons_zero, List.set_cons_succ]
            go_simp
            refine hK _ _ ⟨⟨true, cy0, cb0, ca0, ((ChSpec.mk (w.heap.size + 2) 3 3 r0 i (gvs (st.take i)) (.int .i64 (g : Nat)) [.int .i64 (g : Nat)])).row, cvx0, cvb0, cva0, cu0⟩, ⟨cr1, cy1, cb1, ca1, cvr1, cvx1, cvb1, cva1, cu1⟩, ⟨cr2, cy2, cb2, ca2, cvr2, cvx2, cvb2, cva2, cu2⟩, cs0, cvs0, ?_, ?_, HS0, HACH, ?_⟩
            · rfl
            · simp only [Act.put, List.setIfInBounds_toArray, List.set_cons_zero, List.set_cons_succ]
            · exact Chains.r0 HC
          · exact absurd (show true = false from ho) (by decide)
          · refine wpOp_step rfl (fun K hK => ?_)
            simp only [Act.put, List.setIfInBounds_toArray, List.set_cons_zero, List.set_cons_succ]
            go_simp
            refine hK _ _ ⟨⟨cr0, true, cb0, ca0, cvr0, ((ChSpec.mk (w.heap.size + 2) 3 3 r0 i (gvs (st.take i)) (.int .i64 (g : Nat)) [.int .i64 (g : Nat)])).x, cvb0, cva0, cu0⟩, ⟨cr1, cy1, cb1, ca1, cvr1, cvx1, cvb1, cva1, cu1⟩, ⟨cr2, cy2, cb2, ca2, cvr2, cvx2, cvb2, cva2, cu2⟩, cs0, cvs0, ?_, ?_, HS0, HACH, ?_⟩
            · rfl
            · simp only [Act.put, List.setIfInBounds_toArray, List.set_cons_zero, List.set_cons_succ]
            · exact Chains.y0 HC
          · have hY : cy0 = true := needs_ready (j := 3) hi (by kernel_rfl)
            have hb0 : cb0 = false := ho
            have hx := (Chains.at0 HC).val hY
            have ha0 : ca0 = false := by
              cases hq : ca0 with
              | false => rfl
              | true => have := ((Chains.at0 HC).done hq).2.2.1; dsimp only at this; rw [hb0] at this; cases this
            dsimp only at hx
            subst hx
            refine wpOp_step rfl (fun K hK => ?_)
            simp only [Act.put, List.setIfInBounds_toArray, List.set_cons_zero, List.set_cons_succ]
            go_simp
            refine hK _ _ ⟨⟨cr0, cy0, true, ca0, cvr0, ((ChSpec.mk (w.heap.size + 2) 3 3 r0 i (gvs (st.take i)) (.int .i64 (g : Nat)) [.int .i64 (g : Nat)])).x, (.slice (some ⟨wx.heap.size, 0, none⟩) 1 1), cva0, (wx.heap.size :: cu0)⟩, ⟨cr1, cy1, cb1, ca1, cvr1, cvx1, cvb1, cva1, cu1⟩, ⟨cr2, cy2, cb2, ca2, cvr2, cvx2, cvb2, cva2, cu2⟩, cs0, cvs0, ?_, ?_, HS0, HACH, ?_⟩
            · rfl
            · simp only [Act.put, List.setIfInBounds_toArray, List.set_cons_zero, List.set_cons_succ]
            · exact Chains.b0 HC ha0 hY
          · have hR : cr0 = true := needs_ready (j := 1) hi (by kernel_rfl)
            have hbq : cb0 = true := needs_ready (j := 4) hi (by kernel_rfl)
            have ha0 : ca0 = false := ho
            have hat0 := Chains.at0 HC
            have hr := (hat0.row hR).symm
            obtain ⟨gl, hvb, hgu, hlit⟩ := hat0.lit hbq ha0
            dsimp only at hr hvb
            subst hr hvb
            refine wpOp_step rfl (fun K hK => ?_)
            simp only [Act.put, List.setIfInBounds_toArray, List.set_cons_zero, List.set_cons_succ]
            refine (if_pos (show Region.wanted _ _ = true from rfl)).mpr ?_
            refine wp_append_lies wx (.tmp 20) (.tmp 23) 32 (by rfl) (w.heap.size + 2) 3 i0 (.int .i64 0) 1 8 Tryd.underlying32 hi0 hz0 hs0 hb0 rfl (by decide) ((ChSpec.mk (w.heap.size + 2) 3 3 r0 i (gvs (st.take i)) (.int .i64 (g : Nat)) [.int .i64 (g : Nat)])).row i ((ChSpec.mk (w.heap.size + 2) 3 3 r0 i (gvs (st.take i)) (.int .i64 (g : Nat)) [.int .i64 (g : Nat)])).xs (by rfl) (hat0.own ha0) ⟨gl, 0, none⟩ 1 1 ((ChSpec.mk (w.heap.size + 2) 3 3 r0 i (gvs (st.take i)) (.int .i64 (g : Nat)) [.int .i64 (g : Nat)])).xc (by rfl) (by rfl) (World.news_of_block hlit) (by intro u hu; simp at hu; subst hu; rfl) (by decide) (by simp only [maxLen]; omega) (by omega) (by have := HB1.out; omega) wx.heap.size rfl ?_
            intro gn cap w1 hown hgrow hat hlt1
            refine hK _ _ ⟨⟨cr0, cy0, cb0, true, ((ChSpec.mk (w.heap.size + 2) 3 3 r0 i (gvs (st.take i)) (.int .i64 (g : Nat)) [.int .i64 (g : Nat)])).row, cvx0, (.slice (some ⟨gl, 0, none⟩) 1 1), (.slice (some ⟨gn, 0, none⟩) (i + 1) cap), (gn :: cu0)⟩, ⟨cr1, cy1, cb1, ca1, cvr1, cvx1, cvb1, cva1, cu1⟩, ⟨cr2, cy2, cb2, ca2, cvr2, cvx2, cvb2, cva2, cu2⟩, cs0, cvs0, ?_, ?_, HS0, ⟨(fun _ => rfl), HACH.2⟩, ?_⟩
            · rfl
            · simp only [List.getElem_toArray, List.getElem_cons_succ, List.getElem_cons_zero, Act.put, List.setIfInBounds_toArray, List.set_cons_zero, List.set_cons_succ]
            · exact Chains.a0 HC hR hbq hown hgrow hat hlt1
          · exact absurd (show true = false from ho) (by decide)
          · refine wpOp_step rfl (fun K hK => ?_)
            simp only [Act.put, List.setIfInBounds_toArray, List.set_cons_zero, List.set_cons_succ]
            go_simp
            refine hK _ _ ⟨⟨cr0, cy0, cb0, ca0, cvr0, cvx0, cvb0, cva0, cu0⟩, ⟨true, cy1, cb1, ca1, ((ChSpec.mk (w.heap.size + 2) 4 4 r1 i (als (st.take i)) (.bool al) [.bool al])).row, cvx1, cvb1, cva1, cu1⟩, ⟨cr2, cy2, cb2, ca2, cvr2, cvx2, cvb2, cva2, cu2⟩, cs0, cvs0, ?_, ?_, HS0, HACH, ?_⟩
            · rfl
            · simp only [Act.put, List.setIfInBounds_toArray, List.set_cons_zero, List.set_cons_succ]
            · exact Chains.r1 HC
          · exact absurd (show true = false from ho) (by decide)
          · refine wpOp_step rfl (fun K hK => ?_)
            simp only [Act.put, List.setIfInBounds_toArray, List.set_cons_zero, List.set_cons_succ]
            go_simp
            refine hK _ _ ⟨⟨cr0, cy0, cb0, ca0, cvr0, cvx0, cvb0, cva0, cu0⟩, ⟨cr1, true, cb1, ca1, cvr1, ((ChSpec.mk (w.heap.size + 2) 4 4 r1 i (als (st.take i)) (.bool al) [.bool al])).x, cvb1, cva1, cu1⟩, ⟨cr2, cy2, cb2, ca2, cvr2, cvx2, cvb2, cva2, cu2⟩, cs0, cvs0, ?_, ?_, HS0, HACH, ?_⟩
            · rfl
            · simp only [Act.put, List.setIfInBounds_toArray, List.set_cons_zero, List.set_cons_succ]
            · exact Chains.y1 HC
          · have hY : cy1 = true := needs_ready (j := 9) hi (by kernel_rfl)
            have hb0 : cb1 = false := ho
            have hx := (Chains.at1 HC).val hY
            have ha0 : ca1 = false := by
              cases hq : ca1 with
              | false => rfl
              | true => have := ((Chains.at1 HC).done hq).2.2.1; dsimp only at this; rw [hb0] at this; cases this
            dsimp only at hx
            subst hx
            refine wpOp_step rfl (fun K hK => ?_)
            simp only [Act.put, List.setIfInBounds_toArray, List.set_cons_zero, List.set_cons_succ]
            go_simp
            refine hK _ _ ⟨⟨cr0, cy0, cb0, ca0, cvr0, cvx0, cvb0, cva0, cu0⟩, ⟨cr1, cy1, true, ca1, cvr1, ((ChSpec.mk (w.heap.size + 2) 4 4 r1 i (als (st.take i)) (.bool al) [.bool al])).x, (.slice (some ⟨wx.heap.size, 0, none⟩) 1 1), cva1, (wx.heap.size :: cu1)⟩, ⟨cr2, cy2, cb2, ca2, cvr2, cvx2, cvb2, cva2, cu2⟩, cs0, cvs0, ?_, ?_, HS0, HACH, ?_⟩
            · rfl
            · simp only [Act.put, List.setIfInBounds_toArray, List.set_cons_zero, List.set_cons_succ]
            · exact Chains.b1 HC ha0 hY
          · have hR : cr1 = true := needs_ready (j := 7) hi (by kernel_rfl)
            have hbq : cb1 = true := needs_ready (j := 10) hi (by kernel_rfl)
            have ha0 : ca1 = false := ho
            have hat0 := Chains.at1 HC
            have hr := (hat0.row hR).symm
            obtain ⟨gl, hvb, hgu, hlit⟩ := hat0.lit hbq ha0
            dsimp only at hr hvb
            subst hr hvb
            refine wpOp_step rfl (fun K hK => ?_)
            simp only [Act.put, List.setIfInBounds_toArray, List.set_cons_zero, List.set_cons_succ]
            refine (if_pos (show Region.wanted _ _ = true from rfl)).mpr ?_
            refine wp_append_lies wx (.tmp 26) (.tmp 29) 33 (by rfl) (w.heap.size + 2) 4 i1 (.bool false) 1 1 Tryd.underlying33 hi1 hz1 hs1 hb1 rfl (by decide) ((ChSpec.mk (w.heap.size + 2) 4 4 r1 i (als (st.take i)) (.bool al) [.bool al])).row i ((ChSpec.mk (w.heap.size + 2) 4 4 r1 i (als (st.take i)) (.bool al) [.bool al])).xs (by rfl) (hat0.own ha0) ⟨gl, 0, none⟩ 1 1 ((ChSpec.mk (w.heap.size + 2) 4 4 r1 i (als (st.take i)) (.bool al) [.bool al])).xc (by rfl) (by rfl) (World.news_of_block hlit) (by intro u hu; simp at hu; subst hu; rfl) (by decide) (by simp only [maxLen]; omega) (by omega) (by have := HB1.out; omega) wx.heap.size rfl ?_
            intro gn cap w1 hown hgrow hat hlt1
            have hprev : ca0 = true := needs_ready (j := 5) hi (by kernel_rfl)
            refine hK _ _ ⟨⟨cr0, cy0, cb0, ca0, cvr0, cvx0, cvb0, cva0, cu0⟩, ⟨cr1, cy1, cb1, true, ((ChSpec.mk (w.heap.size + 2) 4 4 r1 i (als (st.take i)) (.bool al) [.bool al])).row, cvx1, (.slice (some ⟨gl, 0, none⟩) 1 1), (.slice (some ⟨gn, 0, none⟩) (i + 1) cap), (gn :: cu1)⟩, ⟨cr2, cy2, cb2, ca2, cvr2, cvx2, cvb2, cva2, cu2⟩, cs0, cvs0, ?_, ?_, HS0, ⟨(fun _ => hprev), (fun _ => rfl)⟩, ?_⟩
            · rfl
            · simp only [List.getElem_toArray, List.getElem_cons_succ, List.getElem_cons_zero, Act.put, List.setIfInBounds_toArray, List.set_cons_zero, List.set_cons_succ]
            · exact Chains.a1 HC hR hbq hown hgrow hat hlt1
          · exact absurd (show true = false from ho) (by decide)
          · refine wpOp_step rfl (fun K hK => ?_)
            simp only [Act.put, List.setIfInBounds_toArray, List.set_cons_zero, List.set_cons_succ]
            go_simp
            refine hK _ _ ⟨⟨cr0, cy0, cb0, ca0, cvr0, cvx0, cvb0, cva0, cu0⟩, ⟨cr1, cy1, cb1, ca1, cvr1, cvx1, cvb1, cva1, cu1⟩, ⟨true, cy2, cb2, ca2, ((ChSpec.mk (w.heap.size + 2) 3 3 r2 i (vls (st.take i)) ((.int .i64 x)) [(.int .i64 x)])).row, cvx2, cvb2, cva2, cu2⟩, cs0, cvs0, ?_, ?_, HS0, HACH, ?_⟩
            · rfl
            · simp only [Act.put, List.setIfInBounds_toArray, List.set_cons_zero, List.set_cons_succ]
            · exact Chains.r2 HC
          · exact absurd (show true = false from ho) (by decide)
          · refine wpOp_step rfl (fun K hK => ?_)
            simp only [Act.put, List.setIfInBounds_toArray, List.set_cons_zero, List.set_cons_succ]
            go_simp
            refine hK _ _ ⟨⟨cr0, cy0, cb0, ca0, cvr0, cvx0, cvb0, cva0, cu0⟩, ⟨cr1, cy1, cb1, ca1, cvr1, cvx1, cvb1, cva1, cu1⟩, ⟨cr2, true, cb2, ca2, cvr2, ((ChSpec.mk (w.heap.size + 2) 3 3 r2 i (vls (st.take i)) ((.int .i64 x)) [(.int .i64 x)])).x, cvb2, cva2, cu2⟩, cs0, cvs0, ?_, ?_, HS0, HACH, ?_⟩
            · rfl
            · simp only [Act.put, List.setIfInBounds_toArray, List.set_cons_zero, List.set_cons_succ]
            · exact Chains.y2 HC
          · have hY : cy2 = true := needs_ready (j := 15) hi (by kernel_rfl)
            have hb0 : cb2 = false := ho
            have hx := (Chains.at2 HC).val hY
            have ha0 : ca2 = false := by
              cases hq : ca2 with
              | false => rfl
              | true => have := ((Chains.at2 HC).done hq).2.2.1; dsimp only at this; rw [hb0] at this; cases this
            dsimp only at hx
            subst hx
            refine wpOp_step rfl (fun K hK => ?_)
            simp only [Act.put, List.setIfInBounds_toArray, List.set_cons_zero, List.set_cons_succ]
            go_simp
            refine hK _ _ ⟨⟨cr0, cy0, cb0, ca0, cvr0, cvx0, cvb0, cva0, cu0⟩, ⟨cr1, cy1, cb1, ca1, cvr1, cvx1, cvb1, cva1, cu1⟩, ⟨cr2, cy2, true, ca2, cvr2, ((ChSpec.mk (w.heap.size + 2) 3 3 r2 i (vls (st.take i)) ((.int .i64 x)) [(.int .i64 x)])).x, (.slice (some ⟨wx.heap.size, 0, none⟩) 1 1), cva2, (wx.heap.size :: cu2)⟩, cs0, cvs0, ?_, ?_, HS0, HACH, ?_⟩
            · rfl
            · simp only [Act.put, List.setIfInBounds_toArray, List.set_cons_zero, List.set_cons_succ]
            · exact Chains.b2 HC ha0 hY
          · have hR : cr2 = true := needs_ready (j := 13) hi (by kernel_rfl)
            have hbq : cb2 = true := needs_ready (j := 16) hi (by kernel_rfl)
            have ha0 : ca2 = false := ho
            have hat0 := Chains.at2 HC
            have hr := (hat0.row hR).symm
            obtain ⟨gl, hvb, hgu, hlit⟩ := hat0.lit hbq ha0
            dsimp only at hr hvb
            subst hr hvb
            refine wpOp_step rfl (fun K hK => ?_)
            simp only [Act.put, List.setIfInBounds_toArray, List.set_cons_zero, List.set_cons_succ]
            refine (if_pos (show Region.wanted _ _ = true from rfl)).mpr ?_
            refine wp_append_lies wx (.tmp 32) (.tmp 35) 32 (by rfl) (w.heap.size + 2) 3 i2 (.int .i64 0) 1 8 Tryd.underlying32 hi2 hz2 hs2 hb2 rfl (by decide) ((ChSpec.mk (w.heap.size + 2) 3 3 r2 i (vls (st.take i)) ((.int .i64 x)) [(.int .i64 x)])).row i ((ChSpec.mk (w.heap.size + 2) 3 3 r2 i (vls (st.take i)) ((.int .i64 x)) [(.int .i64 x)])).xs (by rfl) (hat0.own ha0) ⟨gl, 0, none⟩ 1 1 ((ChSpec.mk (w.heap.size + 2) 3 3 r2 i (vls (st.take i)) ((.int .i64 x)) [(.int .i64 x)])).xc (by rfl) (by rfl) (World.news_of_block hlit) (by intro u hu; simp at hu; subst hu; rfl) (by decide) (by simp only [maxLen]; omega) (by omega) (by have := HB1.out; omega) wx.heap.size rfl ?_
            intro gn cap w1 hown hgrow hat hlt1
            have hprev : ca1 = true := needs_ready (j := 11) hi (by kernel_rfl)
            refine hK _ _ ⟨⟨cr0, cy0, cb0, ca0, cvr0, cvx0, cvb0, cva0, cu0⟩, ⟨cr1, cy1, cb1, ca1, cvr1, cvx1, cvb1, cva1, cu1⟩, ⟨cr2, cy2, cb2, true, ((ChSpec.mk (w.heap.size + 2) 3 3 r2 i (vls (st.take i)) ((.int .i64 x)) [(.int .i64 x)])).row, cvx2, (.slice (some ⟨gl, 0, none⟩) 1 1), (.slice (some ⟨gn, 0, none⟩) (i + 1) cap), (gn :: cu2)⟩, cs0, cvs0, ?_, ?_, HS0, ⟨HACH.1, (fun _ => hprev)⟩, ?_⟩
            · rfl
            · simp only [List.getElem_toArray, List.getElem_cons_succ, List.getElem_cons_zero, Act.put, List.setIfInBounds_toArray, List.set_cons_zero, List.set_cons_succ]
            · exact Chains.a2 HC hR hbq hown hgrow hat hlt1
          · refine wpOp_step rfl (fun K hK => ?_)
            simp only [Act.put, List.setIfInBounds_toArray, List.set_cons_zero, List.set_cons_succ]
            go_simp
            refine hK _ _ ⟨⟨cr0, cy0, cb0, ca0, cvr0, cvx0, cvb0, cva0, cu0⟩, ⟨cr1, cy1, cb1, ca1, cvr1, cvx1, cvb1, cva1, cu1⟩, ⟨cr2, cy2, cb2, ca2, cvr2, cvx2, cvb2, cva2, cu2⟩, true, (.pointer (some ⟨w.heap.size + 1, 0, none⟩)), ?_, ?_, (fun _ => rfl), HACH, HC⟩
            · rfl
            · simp only [Act.put, List.setIfInBounds_toArray, List.set_cons_zero, List.set_cons_succ]
          · have hA2 : ca2 = true := needs_ready (j := 17) hi (by kernel_rfl)
            have hA1 : ca1 = true := HACH.2 hA2
            have hA0 : ca0 = true := HACH.1 hA1
            exact absurd ⟨hA0, hA1, hA2⟩ hdone
          · exact absurd (show false = true from needs_ready (j := 19) hi (by kernel_rfl)) (by decide)
          · exact absurd (show false = true from needs_ready (j := 20) hi (by kernel_rfl)) (by decide)
          · exact absurd (show false = true from needs_ready (j := 21) hi (by kernel_rfl)) (by decide)
          · exact absurd (show false = true from needs_ready (j := 22) hi (by kernel_rfl)) (by decide)
    · have hlb : decide (i < n) = false := by simpa using hlt2
      obtain rfl : i = n := by omega
      have b0 := HSv.out.box
      have b1 := HSv.out.out
      have q0 : wr.cell? ⟨w.heap.size + 1, 0, none⟩ = some r0 := by rw [cell_of_block b0]; rfl
      have q1 : wr.cell? ⟨w.heap.size + 1, 1, none⟩ = some r1 := by rw [cell_of_block b0]; rfl
      have q2 : wr.cell? ⟨w.heap.size + 1, 2, none⟩ = some r2 := by rw [cell_of_block b0]; rfl
      have p0 : wr.cell? ⟨w.heap.size, 0, none⟩ = some (.slice none 0 0) := by rw [cell_of_block b1]; rfl
      have p1 : wr.cell? ⟨w.heap.size, 1, none⟩ = some (.slice none 0 0) := by rw [cell_of_block b1]; rfl
      have p2 : wr.cell? ⟨w.heap.size, 2, none⟩ = some (.slice none 0 0) := by rw [cell_of_block b1]; rfl
      have fz : ∀ j, wr.frozen? ⟨w.heap.size, j, none⟩ = false := fun j => unfrozen_of_block b1 j
      obtain ⟨a0, k0, rfl⟩ := own_slice HSv.out.o0
      obtain ⟨a1, k1, rfl⟩ := own_slice HSv.out.o1
      obtain ⟨a2, k2, rfl⟩ := own_slice HSv.out.o2
      clear b0 b1
      go_wp2
      refine bodyPost_ret (v := .agg #[.slice a0 i k0, .slice a1 i k1, .slice a2 i k2]) (by simp [results, Tryd.f21, go_sem, p0, p1, p2]) rfl ?_
      have hsz := World.block_lt_of_cell? _ _ p0
      obtain rfl := HN.out
      have tk : ∀ k, k = st.length → st.take k = st := fun k hk => by rw [hk]; exact List.take_length
      have e0 := HSv.out.o0
      have e1 := HSv.out.o1
      have e2 := HSv.out.o2
      have hk := HSv.out.k
      rw [tk _ rfl] at e0 e1 e2
      have hlt3 : ∀ j, j < 3 → (⟨w.heap.size, j, none⟩ : Addr).block < w.heap.size + 2 := fun j _ => by dsimp only; omega
      have f0 := ownsRow_setCell_below (ownsRow_setCell_below (ownsRow_setCell_below e0 (hlt3 0 (by decide)) (.slice a0 st.length k0)) (hlt3 1 (by decide)) (.slice a1 st.length k1)) (hlt3 2 (by decide)) (.slice a2 st.length k2)
      have f1 := ownsRow_setCell_below (ownsRow_setCell_below (ownsRow_setCell_below e1 (hlt3 0 (by decide)) (.slice a0 st.length k0)) (hlt3 1 (by decide)) (.slice a1 st.length k1)) (hlt3 2 (by decide)) (.slice a2 st.length k2)
      have f2 := ownsRow_setCell_below (ownsRow_setCell_below (ownsRow_setCell_below e2 (hlt3 0 (by decide)) (.slice a0 st.length k0)) (hlt3 1 (by decide)) (.slice a1 st.length k1)) (hlt3 2 (by decide)) (.slice a2 st.length k2)
      have hg := fun j (hj : j < st.length) => show (gvs st)[j]? = some (zI (gF st) j) by simp [gvs, gF, List.getElem?_map, List.getElem?_eq_getElem hj]
      have ha := fun j (hj : j < st.length) => show (als st)[j]? = some (zB (aF st) j) by simp [als, aF, List.getElem?_map, List.getElem?_eq_getElem hj]
      have hv := fun j (hj : j < st.length) => show (vls st)[j]? = some (vF st j) by simp [vls, vF, List.getElem?_map, List.getElem?_eq_getElem hj]
      exact ⟨_, rfl, ⟨a0, k0, a1, k1, a2, k2, rfl, ⟨SlF.of_own f0 hg, SlF.of_own f1 ha, SlF.of_own f2 hv⟩⟩, ((hk.setCell (p := ⟨w.heap.size, 0, none⟩) (Nat.le_refl _) _).setCell (p := ⟨w.heap.size, 1, none⟩) (Nat.le_refl _) _).setCell (p := ⟨w.heap.size, 2, none⟩) (Nat.le_refl _) _⟩
end Go.Proofs.YtpaecmpiokkdnaaDoor.Int
