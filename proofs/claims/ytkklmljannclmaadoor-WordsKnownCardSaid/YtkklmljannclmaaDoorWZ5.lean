/- Words: an item is read, by the program. | Words: numbers and parts in memory. | A range over a function whose iterator knows what the loop keeps: the loop's invariant I is told to the iterator, and the iterator tells the loop's body G of what it hands over. No program. | A range over a function whose iterator keeps memory of its own: the loop's body promises to leave it alone (Kp). No program. | Words: the iterator of a line's pieces. -/
import Derived.Test.YtkklmljannclmaaDoorWZ4
import Derived.Deep.Cut
import Derived.Test.YtkklmljannclmaaDoorWZ3
import Derived.Test.YtkklmljannclmaaDoorWZ1
import Derived.RangeFuncNested
import Derived.RangeFuncBound
import Derived.RangeFuncCalls
import Derived.RangeFuncLeaves
import Derived.Shelf.Abstract
import Derived.Shelf.RegionOpen
import Derived.OwnWalkIn
import Derived.TacticsInMore
import Derived.LoopNIn
import Derived.LoopIn
import Derived.Laws.EntriesVeiled
namespace Go.Proofs.YtkklmljannclmaaDoor
open Go.RowKit Go.Sort Go.Joins Go.Shelf
attribute [local go_sem] cell_grow frozen_grow size_grow

theorem bless_eq : ∀ (x y : List UInt8), Op.bytesLess x y = decide (x < y)
  | [], [] => by simp [Op.bytesLess]
  | _ :: _, [] => by simp [Op.bytesLess]
  | [], _ :: _ => by simp [Op.bytesLess]
  | a :: x, b :: y => by
    have ih := bless_eq x y
    rw [Op.bytesLess, ih]
    simp only [List.cons_lt_cons_iff]
    by_cases h1 : a < b <;> by_cases h2 : a = b <;> by_cases h3 : x < y <;> simp [h1, h2, h3]
theorem d45 (c : UInt8) : ((c.toNat : Int) != 45) = !decide (c = 45) := by
  rw [Bool.eq_iff_iff]
  simp only [bne_iff_ne, ne_eq, Bool.not_eq_true', decide_eq_false_iff_not]
  refine not_congr ⟨fun h => UInt8.toNat_inj.1 ?_, fun h => by rw [h]; rfl⟩
  rw [show (45 : UInt8).toNat = 45 from rfl]; omega
theorem head_bt {l : List UInt8} (h : l ≠ []) : l.head? = some (bt l 0) := by
  cases l with
  | nil => exact absurd rfl h
  | cons c r => rfl
set_option maxRecDepth 100000 in
set_option maxHeartbeats 1600000 in
theorem natural_ok (s : ByteArray) (L : List UInt8) (hL : s.data.toList = L) (hs : s.size ≤ 281474976710656) (w : World) (hT : TW w) :
    Calls Tryd.prog 76 #[.string s] w fun e w' => e = .returned (.tuple #[.int .i64 (natV L), .bool (natB L)]) ∧ Below w.heap.size w w' := by
  have hlen := len_of hL
  have HI := Lib.hid (wint_ok s L hL hs 0 1099511627776 (by decide) (by decide) w hT)
  have hw := nat_ways L
  obtain ⟨E, hE⟩ : ∃ E, intE L 0 1099511627776 = E := ⟨_, rfl⟩
  obtain ⟨V, hV⟩ : ∃ V, intV L 0 1099511627776 = V := ⟨_, rfl⟩
  rw [hE, hV] at HI hw
  clear hE hV hT
  rcases hw with ⟨h1, h2, h3⟩ | ⟨h1, h2, h3, h4, h5⟩ | ⟨h1, h2, h3, h4⟩ | ⟨h1, h2, h3, h4⟩
  · subst h2
    rw [h1, ← h3]
    clear hL h1 h3
    go_enter Tryd.func76, Tryd.ntmps76
    go_wp2_with fail
    refine HI.out.mono ?_
    rintro e w1 ⟨rfl, b1⟩
    go_wp2_with fail
    go_ret2
    exact ⟨rfl, b1⟩
  · subst h2
    have hp : 0 < s.size := by
      rcases Nat.eq_zero_or_pos s.size with h | h
      · exact absurd (List.length_eq_zero_iff.1 (by omega)) h5
      · exact h
    have hb := bt_get hL hp
    rw [head_bt h5] at h4
    have hc := d45 (bt L 0)
    rw [decide_eq_false (fun e => h4 (by rw [e]))] at hc
    obtain ⟨c, hcd⟩ : ∃ c, bt L 0 = c := ⟨_, rfl⟩
    rw [hcd] at hb hc
    rw [h1, h3]
    clear hL h1 h3 h4 hcd
    go_enter Tryd.func76, Tryd.ntmps76
    go_wp2_with fail
    refine HI.out.mono ?_
    rintro e w1 ⟨rfl, b1⟩
    go_wp2_with fail
    go_ret2
    exact ⟨rfl, b1⟩
  · subst h2
    have h5 : L ≠ [] := by rintro rfl; simp at h3
    have hp : 0 < s.size := by
      rcases Nat.eq_zero_or_pos s.size with h | h
      · exact absurd (List.length_eq_zero_iff.1 (by omega)) h5
      · exact h
    have hb := bt_get hL hp
    rw [head_bt h5] at h3
    have hc := d45 (bt L 0)
    rw [decide_eq_true (Option.some.inj h3)] at hc
    obtain ⟨c, hcd⟩ : ∃ c, bt L 0 = c := ⟨_, rfl⟩
    rw [hcd] at hb hc
    have hnv : natV L = 0 := by unfold natV; rw [h1]; rfl
    subst h4
    rw [h1, hnv]
    clear hL h1 h3 hcd hnv
    go_enter Tryd.func76, Tryd.ntmps76
    go_wp2_with fail
    refine HI.out.mono ?_
    rintro e w1 ⟨rfl, b1⟩
    go_wp2_with fail
    go_ret2
    exact ⟨rfl, b1⟩
  · have hnv : natV L = 0 := by unfold natV; rw [h1]; rfl
    have d0 : (E == 0) = false := beq_eq_false_iff_ne.2 h2
    have d7 : (E == 7) = false := beq_eq_false_iff_ne.2 h3
    subst h4
    rw [h1, hnv]
    clear hL h1 h2 h3 hnv
    go_enter Tryd.func76, Tryd.ntmps76
    go_wp2_with fail
    refine HI.out.mono ?_
    rintro e w1 ⟨rfl, b1⟩
    go_wp2_with fail
    go_ret2
    exact ⟨rfl, b1⟩
/-- a number, but no more than that -/
def capN (n : Nat) : Int := (min n CAP : Nat)
theorem natV_cap {l : List UInt8} (h : natB l = true) : natV l = capN (valN 0 l) := by unfold natV capN; rw [if_pos h]
theorem natV_two {l : List UInt8} (h : natB l = true) : (2 ≤ natV l) = (2 ≤ valN 0 l) := by
  unfold natV CAP
  rw [if_pos h]
  exact propext ⟨fun h => by omega, fun h => by omega⟩
/-- what read hands back -/
def RdPost (w : World) (L : List UInt8) (x : Ending) (w' : World) : Prop :=
  ∃ f l k : Int, x = .returned (.tuple #[.agg #[.int .i64 f, .int .i64 l, .int .i64 k], .bool (itmP L).isSome]) ∧ (∀ y, itmP L = some y → f = capN y.1 ∧ l = capN y.2.1 ∧ k = capN y.2.2) ∧ Below w.heap.size w w'
abbrev PtB (W : World) (g : Nat) (f l k : Int) : Prop := W.heap[g]? = some (.cells #[.int .i64 f, .int .i64 l, .int .i64 k] 74 (0, 0))
theorem put3 {W : World} {g : Nat} {a b c : Int} (h : PtB W g a b c) (f l k : Int) : PtB (((W.setCell ⟨g, 0, none⟩ (.int .i64 f)).setCell ⟨g, 1, none⟩ (.int .i64 l)).setCell ⟨g, 2, none⟩ (.int .i64 k)) g f l k := by
  have h1 : PtB (W.setCell ⟨g, 0, none⟩ (.int .i64 f)) g f b c := (setCell_block h _).trans (by simp)
  have h2 : PtB ((W.setCell ⟨g, 0, none⟩ (.int .i64 f)).setCell ⟨g, 1, none⟩ (.int .i64 l)) g f l c := (setCell_block h1 _).trans (by simp)
  exact (setCell_block h2 _).trans (by simp)
theorem put3c {W : World} {g : Nat} {a b c : Int} (h : PtB W g a b c) (f l k : Int) :
    (((W.setCell ⟨g, 0, none⟩ (.int .i64 f)).setCell ⟨g, 1, none⟩ (.int .i64 l)).setCell ⟨g, 2, none⟩ (.int .i64 k)).cell? ⟨g, 0, none⟩ = some (.int .i64 f) ∧
    (((W.setCell ⟨g, 0, none⟩ (.int .i64 f)).setCell ⟨g, 1, none⟩ (.int .i64 l)).setCell ⟨g, 2, none⟩ (.int .i64 k)).cell? ⟨g, 1, none⟩ = some (.int .i64 l) ∧
    (((W.setCell ⟨g, 0, none⟩ (.int .i64 f)).setCell ⟨g, 1, none⟩ (.int .i64 l)).setCell ⟨g, 2, none⟩ (.int .i64 k)).cell? ⟨g, 2, none⟩ = some (.int .i64 k) := by
  have hp := put3 h f l k
  exact ⟨by rw [cell_of_block hp]; rfl, by rw [cell_of_block hp]; rfl, by rw [cell_of_block hp]; rfl⟩
theorem below3 {w W : World} (h : Below w.heap.size w W) (f l k : Value) : Below w.heap.size w (((W.setCell ⟨w.heap.size, 0, none⟩ f).setCell ⟨w.heap.size, 1, none⟩ l).setCell ⟨w.heap.size, 2, none⟩ k) :=
  ((h.setCell (p := ⟨w.heap.size, 0, none⟩) (Nat.le_refl _) _).setCell (p := ⟨w.heap.size, 1, none⟩) (Nat.le_refl _) _).setCell (p := ⟨w.heap.size, 2, none⟩) (Nat.le_refl _) _
/-- the ways of an item that is parted -/
theorem itm_ways {L A B : List UInt8} {C : UInt8} (hL : L = A ++ C :: B) (hp : pcut L = A.length) :
    (natB A = false → itmP L = none) ∧ (natB A = true → natB B = false → itmP L = none) ∧
    (natB A = true → natB B = true → C = 45 → itmP L = if lessB A B = true then some (valN 0 A, valN 0 B, 1) else none) ∧
    (natB A = true → natB B = true → C ≠ 45 → itmP L = if 2 ≤ natV A then some (valN 0 B, valN 0 B, valN 0 A) else none) := by
  subst hL
  have h := itm_cut hp
  refine ⟨fun h1 => ?_, fun h1 h2 => ?_, fun h1 h2 h3 => ?_, fun h1 h2 h3 => ?_⟩
  · rw [h, if_neg]; rintro ⟨k, _⟩; rw [h1] at k; cases k
  · rw [h, if_neg]; rintro ⟨_, k⟩; rw [h2] at k; cases k
  · rw [h, if_pos ⟨h1, h2⟩, if_pos h3, natB_less h1 h2]
    simp only [decide_eq_true_eq]
  · rw [h, if_pos ⟨h1, h2⟩, if_neg h3]
    simp only [natV_two h1]
set_option maxRecDepth 100000 in
set_option maxHeartbeats 6400000 in
theorem read_ok (s : ByteArray) (L : List UInt8) (hL : s.data.toList = L) (hs : s.size ≤ 4294967280) (w : World) (hT : TW w) :
    Calls Tryd.prog 48 #[.string s] w (RdPost w L) := by
  have hlen := len_of hL
  have b0 := below_box0 w (.cells #[.int .i64 0, .int .i64 0, .int .i64 0] 74)
  have HX0 : Hid (PtB (w.alloc (.cells #[.int .i64 0, .int .i64 0, .int .i64 0] 74)) w.heap.size 0 0 0) := Lib.hid (heap_alloc_new w _)
  have HIA := Lib.hid (ixa_ok s L hL hs (w.alloc (.cells #[.int .i64 0, .int .i64 0, .int .i64 0] 74)))
  have HB0 := Lib.hid b0
  have HT := Lib.hid hT
  have hxa : ixA L = if pcut L < L.length then (pcut L : Int) else -1 := rfl
  have HL := Lib.hid hL
  by_cases hlt : pcut L < L.length
  · rw [if_pos hlt] at hxa
    have hcut : L = L.take (pcut L) ++ bt L (pcut L) :: L.drop (pcut L + 1) := by
      have := drop_bt hlt
      rw [← this, List.take_append_drop]
    have htl : (L.take (pcut L)).length = pcut L := by rw [List.length_take]; omega
    have hw := itm_ways (L := L) hcut (by rw [htl])
    have HEA : Hid ((s.extract 0 (pcut L)).data.toList = L.take (pcut L)) := Lib.hid (by rw [Lib.extract_from_zero, hL])
    have HEB : Hid ((s.extract (pcut L + 1) s.size).data.toList = L.drop (pcut L + 1)) := Lib.hid (by rw [ext_list hL, List.take_of_length_le (by rw [List.length_drop]; omega)])
    have hc := d45 (bt L (pcut L))
    have hal : (L.take (pcut L)).length = pcut L := htl
    have hbl : (L.drop (pcut L + 1)).length = s.size - (pcut L + 1) := by rw [List.length_drop, hlen]
    have hsb : (s.extract (pcut L + 1) s.size).size = s.size - (pcut L + 1) := by rw [ByteArray.size_extract]; omega
    have hsa : (s.extract 0 (pcut L)).size = pcut L := by rw [ByteArray.size_extract]; omega
    obtain ⟨p, hp⟩ : ∃ p, pcut L = p := ⟨_, rfl⟩
    rw [hp] at HEA HEB hc hal hbl hsb hsa hw hlt hxa
    have hp2 : p < s.size := by omega
    have hb := bt_get hL hp2
    obtain ⟨A, hA⟩ : ∃ A, L.take p = A := ⟨_, rfl⟩
    obtain ⟨B, hB⟩ : ∃ B, L.drop (p + 1) = B := ⟨_, rfl⟩
    obtain ⟨C, hC⟩ : ∃ C, bt L p = C := ⟨_, rfl⟩
    rw [hA] at HEA hw hal
    rw [hB] at HEB hw hbl
    rw [hC] at hw hb hc
    rw [hxa] at HIA
    have HNA := Lib.hid (fun W h => natural_ok (s.extract 0 p) A HEA.out (by rw [hsa]; omega) W h)
    have HNB := Lib.hid (fun W h => natural_ok (s.extract (p + 1) s.size) B HEB.out (by rw [hsb]; omega) W h)
    obtain ⟨O, hO⟩ : ∃ O, itmP L = O := ⟨_, rfl⟩
    rw [hO] at hw
    have HW := Lib.hid hw
    have hps : p ≤ s.size := by omega
    have hp1 : p + 1 ≤ s.size := by omega
    have d0 : decide ((p : Int) < 0) = false := decide_eq_false (by omega)
    have HS : Hid (itmP L = O) := Lib.hid hO
    have hstr : Op.bytesLess (s.extract 0 p).toList (s.extract (p + 1) s.size).toList = decide (A < B) := by rw [bless_eq, Lib.toList_data, Lib.toList_data, HEA.out, HEB.out]
    clear hL hxa hcut htl hw hlt b0 hp hA hB hC hO hT
    obtain ⟨VA, hVA⟩ : ∃ x, natV A = x := ⟨_, rfl⟩
    obtain ⟨VB, hVB⟩ : ∃ x, natV B = x := ⟨_, rfl⟩
    obtain ⟨qa, hqa⟩ : ∃ x, natB A = x := ⟨_, rfl⟩
    obtain ⟨qb, hqb⟩ : ∃ x, natB B = x := ⟨_, rfl⟩
    rw [hVA, hqa] at HNA
    rw [hVB, hqb] at HNB
    rw [hqa, hqb, hVA] at HW
    have HCA : Hid (qa = true → VA = capN (valN 0 A)) := Lib.hid (fun h => by rw [← hVA]; exact natV_cap (hqa.trans h))
    have HCB : Hid (qb = true → VB = capN (valN 0 B)) := Lib.hid (fun h => by rw [← hVB]; exact natV_cap (hqb.trans h))
    clear hVA hVB hqa hqb
    have hor : (decide ((A.length : Int) < (B.length : Int)) = true ∧ lessB A B = true) ∨ (decide ((A.length : Int) < (B.length : Int)) = false ∧ ((A.length : Int) == (B.length : Int)) = true ∧ lessB A B = decide (A < B)) ∨ (decide ((A.length : Int) < (B.length : Int)) = false ∧ ((A.length : Int) == (B.length : Int)) = false ∧ lessB A B = false) := by
      unfold lessB
      rcases Nat.lt_trichotomy A.length B.length with h | h | h
      · left; simp [h]
      · right; left; rw [h]; simp
      · right; right
        have h1 : ¬ A.length < B.length := by omega
        have h2 : ¬ A.length = B.length := by omega
        simp [h1, h2]; omega
    rw [hal, hbl] at hor
    have hbi : ((s.size - (p + 1) : Nat) : Int) = (s.size : Int) - ((p : Int) + 1) := by omega
    clear hal hbl hsa hsb
    go_enter Tryd.func48, Tryd.ntmps48
    go_wp2_with fail
    refine HIA.out.mono ?_
    rintro e w1 ⟨rfl, b1⟩
    have HX1 := Lib.hid ((b1.block _ (blk_lt HX0.out)).trans HX0.out)
    have HB1 := Lib.hid (below_tr HB0.out b1)
    clear b1 HIA HX0 HB0
    go_wp2_with fail
    go_quiet (fail)
    have HBq := Lib.hid (HB1.out.trans ((below_draw w1 nq).mono HB1.out.size))
    have HXq : Hid (PtB (w1.drewN nq) w.heap.size 0 0 0) := Lib.hid HX1.out
    obtain ⟨w2, hw2⟩ : ∃ w2, w1.drewN nq = w2 := ⟨_, rfl⟩
    rw [hw2] at HBq HXq ⊢
    clear hw2 HB1 HX1
    go_wp2_with fail
    refine (HNA.out _ (HT.out.below HBq.out)).mono ?_
    rintro e w3 ⟨rfl, b3⟩
    have HX3 := Lib.hid ((b3.block _ (blk_lt HXq.out)).trans HXq.out)
    have HB3 := Lib.hid (below_tr HBq.out b3)
    clear b3 HXq HBq HNA
    go_wp2_with fail
    refine (HNB.out _ (HT.out.below HB3.out)).mono ?_
    rintro e w4 ⟨rfl, b4⟩
    have HX4 : Hid (PtB w4 w.heap.size 0 0 0) := Lib.hid ((b4.block _ (blk_lt HX3.out)).trans HX3.out)
    have HB4 := Lib.hid (below_tr HB3.out b4)
    clear b4 HX3 HB3 HNB
    have x0 : w4.cell? ⟨w.heap.size, 0, none⟩ = some (.int .i64 0) := by rw [cell_of_block HX4.out]; rfl
    have x1 : w4.cell? ⟨w.heap.size, 1, none⟩ = some (.int .i64 0) := by rw [cell_of_block HX4.out]; rfl
    have x2 : w4.cell? ⟨w.heap.size, 2, none⟩ = some (.int .i64 0) := by rw [cell_of_block HX4.out]; rfl
    have fx := unfrozen_of_block HX4.out
    have lx := blk_lt HX4.out
    obtain ⟨y0, y1, y2⟩ := put3c HX4.out VA VB 1
    obtain ⟨z0, z1, z2⟩ := put3c HX4.out VB VB VA
    obtain ⟨r, hr⟩ : ∃ r, lessB A B = r := ⟨_, rfl⟩
    rw [hr] at hor HW
    -- what is handed back, by the tests
    have fin1 : C = 45 → ∀ u, u = (qa && (qb && r)) → RdPost w L (.returned (.tuple #[.agg #[.int .i64 VA, .int .i64 VB, .int .i64 1], .bool u])) (((w4.setCell ⟨w.heap.size, 0, none⟩ (.int .i64 VA)).setCell ⟨w.heap.size, 1, none⟩ (.int .i64 VB)).setCell ⟨w.heap.size, 2, none⟩ (.int .i64 1)) := by
      intro hC u hu
      obtain ⟨h1, h2, h3, _⟩ := HW.out
      refine ⟨VA, VB, 1, ?_, ?_, below3 HB4.out _ _ _⟩
      · rw [HS.out, hu]
        cases qa
        · rw [h1 rfl]; rfl
        · cases qb
          · rw [h2 rfl rfl]; rfl
          · rw [h3 rfl rfl hC]; cases r <;> rfl
      · intro y hy
        rw [HS.out] at hy
        cases qa
        · rw [h1 rfl] at hy; cases hy
        · cases qb
          · rw [h2 rfl rfl] at hy; cases hy
          · rw [h3 rfl rfl hC] at hy
            cases r
            · cases hy
            · cases hy; exact ⟨HCA.out rfl, HCB.out rfl, rfl⟩
    have fin2 : C ≠ 45 → ∀ u, u = (qa && (qb && decide (2 ≤ VA))) → RdPost w L (.returned (.tuple #[.agg #[.int .i64 VB, .int .i64 VB, .int .i64 VA], .bool u])) (((w4.setCell ⟨w.heap.size, 0, none⟩ (.int .i64 VB)).setCell ⟨w.heap.size, 1, none⟩ (.int .i64 VB)).setCell ⟨w.heap.size, 2, none⟩ (.int .i64 VA)) := by
      intro hC u hu
      obtain ⟨h1, h2, _, h3⟩ := HW.out
      refine ⟨VB, VB, VA, ?_, ?_, below3 HB4.out _ _ _⟩
      · rw [HS.out, hu]
        cases qa
        · rw [h1 rfl]; rfl
        · cases qb
          · rw [h2 rfl rfl]; rfl
          · rw [h3 rfl rfl hC]
            by_cases h4 : 2 ≤ VA
            · rw [if_pos h4, decide_eq_true h4]; rfl
            · rw [if_neg h4, decide_eq_false h4]; rfl
      · intro y hy
        rw [HS.out] at hy
        cases qa
        · rw [h1 rfl] at hy; cases hy
        · cases qb
          · rw [h2 rfl rfl] at hy; cases hy
          · rw [h3 rfl rfl hC] at hy
            split at hy
            · cases hy; exact ⟨HCB.out rfl, HCB.out rfl, HCA.out rfl⟩
            · cases hy
    have HF1 := Lib.hid fin1
    have HF2 := Lib.hid fin2
    clear fin1 fin2 hr HW HCA HCB HS
    have hor2 : (decide ((p : Int) < (s.size : Int) - ((p : Int) + 1)) = true ∧ r = true) ∨ (decide ((p : Int) < (s.size : Int) - ((p : Int) + 1)) = false ∧ ((p : Int) == (s.size : Int) - ((p : Int) + 1)) = true ∧ r = decide (A < B)) ∨ (decide ((p : Int) < (s.size : Int) - ((p : Int) + 1)) = false ∧ ((p : Int) == (s.size : Int) - ((p : Int) + 1)) = false ∧ r = false) := by
      rw [hbi] at hor; exact hor
    by_cases hC : C = 45
    · rw [decide_eq_true hC] at hc
      clear hor z0 z1 z2 HF2
      obtain ⟨k1, k2⟩ | ⟨k1, k2, k3⟩ | ⟨k1, k2, k3⟩ := hor2
      · cases qa <;> cases qb <;> go_wp2 <;>
          (refine bodyPost_ret (v := .tuple #[.agg #[.int .i64 VA, .int .i64 VB, .int .i64 1], .bool _]) (by simp [results, Tryd.results48, go_sem, y0, y1, y2]; rfl) rfl (HF1.out hC _ (by subst k2; rfl)))
      · cases qa <;> cases qb <;> go_wp2 <;>
          (refine bodyPost_ret (v := .tuple #[.agg #[.int .i64 VA, .int .i64 VB, .int .i64 1], .bool _]) (by simp [results, Tryd.results48, go_sem, y0, y1, y2]; rfl) rfl (HF1.out hC _ (by subst k3; simp)))
      · cases qa <;> cases qb <;> go_wp2 <;>
          (refine bodyPost_ret (v := .tuple #[.agg #[.int .i64 VA, .int .i64 VB, .int .i64 1], .bool _]) (by simp [results, Tryd.results48, go_sem, y0, y1, y2]; rfl) rfl (HF1.out hC _ (by subst k3; rfl)))
    · rw [decide_eq_false hC] at hc
      have HF := Lib.hid (HF2.out hC)
      clear hor y0 y1 y2 HF1 HF2 hC
      rw [Bool.not_false] at hc
      have g2 : decide (VA ≥ 2) = decide (2 ≤ VA) := rfl
      obtain ⟨r2, hr2⟩ : ∃ r2, decide (2 ≤ VA) = r2 := ⟨_, rfl⟩
      rw [hr2] at HF g2
      obtain ⟨k1, k2⟩ | ⟨k1, k2, k3⟩ | ⟨k1, k2, k3⟩ := hor2
      · cases qa <;> cases qb <;> go_wp2 <;>
          (refine bodyPost_ret (v := .tuple #[.agg #[.int .i64 VB, .int .i64 VB, .int .i64 VA], .bool _]) (by simp [results, Tryd.results48, go_sem, z0, z1, z2]; rfl) rfl (HF.out _ (by rfl)))
      · cases qa <;> cases qb <;> go_wp2 <;>
          (refine bodyPost_ret (v := .tuple #[.agg #[.int .i64 VB, .int .i64 VB, .int .i64 VA], .bool _]) (by simp [results, Tryd.results48, go_sem, z0, z1, z2]; rfl) rfl (HF.out _ (by rfl)))
      · cases qa <;> cases qb <;> go_wp2 <;>
          (refine bodyPost_ret (v := .tuple #[.agg #[.int .i64 VB, .int .i64 VB, .int .i64 VA], .bool _]) (by simp [results, Tryd.results48, go_sem, z0, z1, z2]; rfl) rfl (HF.out _ (by rfl)))
  · rw [if_neg hlt] at hxa
    have hpe : pcut L = L.length := by have := pcut_le L; omega
    have hit := itm_one hpe
    have HN := Lib.hid (fun W h => natural_ok s L hL (by omega) W h)
    have hcp := fun h => @natV_cap L h
    rw [hxa] at HIA
    obtain ⟨q, hq⟩ : ∃ q, natB L = q := ⟨_, rfl⟩
    obtain ⟨V, hV⟩ : ∃ V, natV L = V := ⟨_, rfl⟩
    rw [hq] at HN hit hcp
    rw [hV] at HN hcp
    have HPT : Hid ((itmP L).isSome = q ∧ ∀ y, itmP L = some y → V = capN y.1 ∧ V = capN y.2.1 ∧ (1 : Int) = capN y.2.2) := Lib.hid (by
      rw [hit]
      cases q
      · exact ⟨rfl, fun y hy => by cases hy⟩
      · exact ⟨rfl, fun y hy => by cases hy; exact ⟨hcp rfl, hcp rfl, rfl⟩⟩)
    have d0 : decide ((-1 : Int) < 0) = true := rfl
    clear hL hxa hlt hpe hit hcp b0 hq hV hT
    go_enter Tryd.func48, Tryd.ntmps48
    go_wp2_with fail
    refine HIA.out.mono ?_
    rintro e w1 ⟨rfl, b1⟩
    have HX1 := Lib.hid ((b1.block _ (blk_lt HX0.out)).trans HX0.out)
    have HB1 := Lib.hid (below_tr HB0.out b1)
    clear b1 HIA HX0
    go_wp2_with fail
    refine (HN.out _ (HT.out.below HB1.out)).mono ?_
    rintro e w2 ⟨rfl, b2⟩
    have HX2 : Hid (PtB w2 w.heap.size 0 0 0) := Lib.hid ((b2.block _ (blk_lt HX1.out)).trans HX1.out)
    have HB2 := Lib.hid (below_tr HB1.out b2)
    clear b2 HX1 HB1 HN
    have x0 : w2.cell? ⟨w.heap.size, 0, none⟩ = some (.int .i64 0) := by rw [cell_of_block HX2.out]; rfl
    have x1 : w2.cell? ⟨w.heap.size, 1, none⟩ = some (.int .i64 0) := by rw [cell_of_block HX2.out]; rfl
    have x2 : w2.cell? ⟨w.heap.size, 2, none⟩ = some (.int .i64 0) := by rw [cell_of_block HX2.out]; rfl
    have fx := unfrozen_of_block HX2.out
    have lx := blk_lt HX2.out
    obtain ⟨z0, z1, z2⟩ := put3c HX2.out V V 1
    go_wp2
    refine bodyPost_ret (v := .tuple #[.agg #[.int .i64 V, .int .i64 V, .int .i64 1], .bool q]) (by simp [results, Tryd.results48, go_sem, z0, z1, z2]) rfl ?_
    exact ⟨V, V, 1, by rw [HPT.out.1], HPT.out.2, below3 HB2.out _ _ _⟩
end Go.Proofs.YtkklmljannclmaaDoor

namespace Go.Proofs.YtkklmljannclmaaDoor
open Go.RowKit Go.Sort Go.Joins Go.Shelf

/-- a slice that reads as numbers -/
def SlN (w : World) (a : Option Addr) (I : List Int) : Prop := I = [] ∨ ∃ b o, a = some ⟨b, o, none⟩ ∧ ∀ j, j < I.length → w.cell? ⟨b, o + j, none⟩ = some (.int .i64 (I.getD j 0))
theorem SlN.below {w w' : World} {a : Option Addr} {I : List Int} (h : SlN w a I) (hb : Below w.heap.size w w') : SlN w' a I := by
  rcases h with h | ⟨b, o, ha, hc⟩
  · exact .inl h
  · exact .inr ⟨b, o, ha, fun j hj => cell_later hb (hc j hj)⟩
theorem SlN.at_ {w : World} {a : Option Addr} {I : List Int} (h : SlN w a I) {j : Nat} (hj : j < I.length) : ∃ b o, a = some ⟨b, o, none⟩ ∧ w.cell? ⟨b, o + j, none⟩ = some (.int .i64 (I.getD j 0)) := by
  rcases h with rfl | ⟨b, o, ha, hc⟩
  · simp at hj
  · exact ⟨b, o, ha, hc j hj⟩
theorem int_snoc (X : List Int) (x : Int) : (X ++ [x]).map (Value.int .i64) = X.map (Value.int .i64) ++ [.int .i64 x] := by simp
theorem SlN.of_own {w : World} {base len cap : Nat} {e : TypeId} {a : Option Addr} {I : List Int} (h : w.ownsRow base e 1 (.slice a len cap) I.length (I.map (Value.int .i64))) : SlN w a I := by
  by_cases h0 : I.length = 0
  · exact .inl (List.length_eq_zero_iff.1 h0)
  · obtain ⟨g, cap', hv⟩ := ownsRow_form h (by omega)
    cases hv
    refine .inr ⟨g, 0, rfl, fun j hj => ?_⟩
    have c0 := h.cellAt j (by omega)
    rw [List.getElem?_map, List.getElem?_eq_getElem hj] at c0
    rw [List.getD_eq_getElem?_getD, List.getElem?_eq_getElem hj, Nat.zero_add]
    exact c0
theorem info_int : (Tryd.prog.info? 3).map (fun i => (i.zero, i.size, i.bytes)) = some (some (.int .i64 0), 1, 8) := by kernel_rfl
/-- parts as cells -/
def pc3 (Y : List Prt) : List Value := Y.flatMap fun x => [.int .i64 (capN x.1), .int .i64 (capN x.2.1), .int .i64 (capN x.2.2)]
theorem pc3_snoc (Y : List Prt) (x : Prt) : pc3 (Y ++ [x]) = pc3 Y ++ [.int .i64 (capN x.1), .int .i64 (capN x.2.1), .int .i64 (capN x.2.2)] := by simp [pc3]
theorem pc3_length (Y : List Prt) : (pc3 Y).length = Y.length * 3 := by
  induction Y with
  | nil => rfl
  | cons x Y ih =>
    have e : pc3 (x :: Y) = [.int .i64 (capN x.1), .int .i64 (capN x.2.1), .int .i64 (capN x.2.2)] ++ pc3 Y := rfl
    rw [e, List.length_append, ih]; simp; omega
theorem pc3_get (Y : List Prt) (k : Nat) (h : k < Y.length) : (pc3 Y)[k * 3]? = some (.int .i64 (capN Y[k].1)) ∧ (pc3 Y)[k * 3 + 1]? = some (.int .i64 (capN Y[k].2.1)) ∧ (pc3 Y)[k * 3 + 2]? = some (.int .i64 (capN Y[k].2.2)) := by
  induction Y generalizing k with
  | nil => simp at h
  | cons x Y ih =>
    cases k with
    | zero => simp [pc3]
    | succ k =>
      have := ih k (by simpa using h)
      simp only [pc3, List.flatMap_cons] at this ⊢
      rw [List.getElem?_append_right (by simp; omega), List.getElem?_append_right (by simp; omega), List.getElem?_append_right (by simp; omega)]
      simpa [show (k + 1) * 3 - 3 = k * 3 by omega, show (k + 1) * 3 + 1 - 3 = k * 3 + 1 by omega, show (k + 1) * 3 + 2 - 3 = k * 3 + 2 by omega] using this
theorem info_part : (Tryd.prog.info? 74).map (fun i => (i.zero, i.size, i.bytes)) = some (some (.agg #[.int .i64 0, .int .i64 0, .int .i64 0]), 3, 24) := by kernel_rfl
/-- a slice that reads as parts -/
def SlP (w : World) (a : Option Addr) (Y : List Prt) : Prop := ∀ j (hj : j < Y.length), ∃ b o, a = some ⟨b, o, none⟩ ∧ w.cell? ⟨b, o + j * 3, none⟩ = some (.int .i64 (capN Y[j].1)) ∧ w.cell? ⟨b, o + j * 3 + 1, none⟩ = some (.int .i64 (capN Y[j].2.1)) ∧ w.cell? ⟨b, o + j * 3 + 2, none⟩ = some (.int .i64 (capN Y[j].2.2))
theorem SlP.below {w w' : World} {a : Option Addr} {Y : List Prt} (h : SlP w a Y) (hb : Below w.heap.size w w') : SlP w' a Y := fun j hj => by
  obtain ⟨b, o, ha, h0, h1, h2⟩ := h j hj
  exact ⟨b, o, ha, cell_later hb h0, cell_later hb h1, cell_later hb h2⟩
theorem SlP.of_own {w : World} {base len cap : Nat} {e : TypeId} {a : Option Addr} {Y : List Prt} (h : w.ownsRow base e 3 (.slice a len cap) Y.length (pc3 Y)) : SlP w a Y := fun j hj => by
  obtain ⟨g, cap', hv⟩ := ownsRow_form h (by omega)
  cases hv
  obtain ⟨e0, e1, e2⟩ := pc3_get Y j hj
  have c0 := h.cellAt (j * 3) (by omega)
  have c1 := h.cellAt (j * 3 + 1) (by omega)
  have c2 := h.cellAt (j * 3 + 2) (by omega)
  rw [e0] at c0
  rw [e1] at c1
  rw [e2] at c2
  refine ⟨g, 0, rfl, ?_⟩
  rw [Nat.zero_add]
  exact ⟨c0, c1, c2⟩
/-- the parts of the first pieces -/
theorem take_snoc {α : Type} {l : List α} {k : Nat} {x : α} (h : l[k]? = some x) : l.take (k + 1) = l.take k ++ [x] := by
  rw [List.take_add_one, h]; rfl
theorem itm_some {p : List UInt8} (h : (itmP p).isSome = true) : ∃ y, itmP p = some y := Option.isSome_iff_exists.1 h
/-- how the many grow -/
theorem many_up {Y : List Prt} {k : Nat} (hk : k < Y.length) : sumP (Y.take (k + 1)) = sumP (Y.take k) + prtN Y[k] := by
  rw [take_snoc (List.getElem?_eq_getElem hk), sumP_two]
  unfold sumP
  simp
theorem many_le {Y : List Prt} (k : Nat) : sumP (Y.take k) ≤ sumP Y := by
  have h := sumP_two (Y.take k) (Y.drop k)
  rw [List.take_append_drop] at h
  omega
theorem capN_le {n : Nat} (h : n ≤ 9999) : capN n = n := by unfold capN CAP; rw [Nat.min_eq_left (by omega)]
theorem capN_big {n : Nat} : (9999 < capN n) ↔ 9999 < n := by unfold capN CAP; omega
theorem capN_pos (n : Nat) : 0 ≤ capN n := by unfold capN; omega
theorem capN_min (n : Nat) : min (capN n) 501 = (min n 501 : Nat) := by unfold capN CAP; omega
end Go.Proofs.YtkklmljannclmaaDoor

namespace Go.Proofs.YtkklmljannclmaaDoor
open Go.RowKit

/-- what an iterator promises to a loop that keeps I -/
def SeqI {α : Type} (F : Fence) (n : Nat) (P : Program) (gf : Nat) (lb : Array Value) (encs : α → Array Value) (I : List α → World → Prop) (G : List α → α → Prop) (S : List α → Prop) (w : World) : Prop :=
  ∀ (l : Nat) (J Jx : List α → World → Prop) (W : World), Below w.heap.size w W → AbidesFrom W.heap.size J → AbidesFrom W.heap.size Jx → (∀ pre W1, J pre W1 → I pre W1) →
    (∀ pre x W1, J pre W1 → G pre x → YieldAt F (n - 1) P l (encs x) W1 fun e W' => (e = .returned (.bool true) ∧ J (pre ++ [x]) W') ∨ (e = .returned (.bool false) ∧ Jx (pre ++ [x]) W')) →
    J [] W →
    CallsIn F n P gf (#[.func (.yield l) #[] #[]] ++ lb) W fun e W' => (∃ v, e = .returned v) ∧ ((∃ xs, S xs ∧ J xs W') ∨ (∃ pre, Jx pre W'))

/-- how a round may end -/
abbrev roundPost {α : Type} (B : Nat) (I : List α → World → Prop) (Ix : Code → List α → World → Prop) (xs : List α) (W : World) : Exit → Act → World → Prop := ownPostG B (fun _ _ => True) I Ix xs W

theorem wpIn_iter {α : Type} {F : Fence} {n : Nat} {P : Program} {g : Operand} {ps : Array Tmp} {assign body : Code} {Q : Exit → Act → World → Prop} {a : Act} {w : World}
    (hro : F.round = none) (h1 : 1 ≤ n) {gf : Nat} {lb : Array Value} (hg : a.eval g = .func (.func gf) #[] lb) (hFg : F.fn gf) (eg : ∀ args w, (callFunc gf args).run P w = .ok (.enter gf args) w)
    {encs : α → Array Value} {G : List α → α → Prop} {S : List α → Prop} (I : List α → World → Prop) (hseq : SeqI F (n - 1) P gf lb encs I G S w)
    (hps : ∀ x, (encs x).size = ps.size) (Ix : Code → List α → World → Prop) (hI : OwnFrom w.heap.size I) (hIx : ∀ c, OwnFrom w.heap.size (Ix c)) (h0 : I [] w) (Ax : α → Act → World → Prop) (hAx : ∀ x a', OwnFrom w.heap.size (fun (_ : Unit) W => Ax x a' W))
    (hassign : ∀ (l : Nat) (pre : List α) (x : α) (W : World) (K : Act → World → Prop), I pre W → G pre x → (∀ a' W', KeepsFrom w.heap.size W W' → I pre W' → Ax x a' W' → K a' W') →
      assign.wpIn (F.inRound l) (n - 1 - 1) P (Exit.then K (fun _ _ _ => False)) { tmps := (ps.zip (encs x)).foldl (fun t (p, v) => t.setIfInBounds p v) a.tmps, defers := [] } W)
    (hbody : ∀ (l : Nat) (pre : List α) (x : α) (a' : Act) (W : World), w.heap.size ≤ l → I pre W → Ax x a' W → G pre x → body.wpIn (F.inRound l) (n - 1 - 1) P (roundPost w.heap.size I Ix (pre ++ [x]) W) a' W)
    (hdone : ∀ (D : Nat) (xs : List α) (W : World), w.heap.size ≤ D → S xs → I xs W → W.heap[D]? = some (.deferred (some [])) → Q .normal { a with defers := { target := .collected D, args := #[] } :: a.defers } W)
    (hstop : ∀ (D : Nat) (c : Code) (pre : List α) (W : World), w.heap.size ≤ D → Ix c pre W → W.heap[D]? = some (.deferred (some [])) → c.wpIn F n P Q { a with defers := { target := .collected D, args := #[] } :: a.defers } W) :
    (Code.rangeFunc g ps assign body).wpIn F n P Q a w := by
  refine wpIn_rangeFunc fun fn hfn => ?_
  rw [hro]
  obtain ⟨rec, hrec⟩ : ∃ rec : LoopState → Option Code → Loop, rec = fun st pe => { state := st, pending := pe, fn, tmps := a.tmps, params := ps, assign, body, defers := w.heap.size } := ⟨_, rfl⟩
  obtain ⟨W1, hW1⟩ : ∃ W1, (w.alloc (.deferred (some []))).alloc (.loop (rec .ready none)) = W1 := ⟨_, rfl⟩
  have hL1 : W1.heap[w.heap.size + 1]? = some (.loop (rec .ready none)) := by
    rw [← hW1]; have := World.alloc_heap_new (w.alloc (.deferred (some []))) (.loop (rec .ready none)); rwa [World.size_alloc] at this
  have hK1 : W1.heap[w.heap.size]? = some (.deferred (some [])) := by
    rw [← hW1]; exact (Below.heap_alloc _ _ _ (by simp)).trans (World.alloc_heap_new w _)
  have hI1 : I [] W1 := by rw [← hW1]; exact hI.alloc _ (hI.alloc _ h0)
  have hb1 : Below w.heap.size w W1 := by
    rw [← hW1]; exact ((Below.refl _ w).alloc (Nat.le_refl _) _).alloc (by simp) _
  have hs1 : w.heap.size ≤ W1.heap.size := hb1.size
  refine ⟨w.heap.size + 1, [{ target := .collected w.heap.size, args := #[] }], W1, { target := .fn (.func gf) lb, args := #[.func (.yield (w.heap.size + 1)) #[] #[]] }, W1, gf,
    #[.func (.yield (w.heap.size + 1)) #[] #[]] ++ lb, W1, ?_, ?_, ?_, ?_, fun _ => h1, ?_⟩
  · rw [← hW1, hrec]; exact run_enterLoop_outer _ _ _ _ _
  · simp only [resolve, hg]
    simp [go_sem]
  · intro f' hf'; simp [Target.leads] at hf'; subst hf'; exact hFg
  · simp [invoke, go_sem, eg]
  · have hnw : ∀ {A : World} {row : Option Nat}, (∀ r, row = some r → W1.heap.size ≤ r ∧ ∃ o : Obj, A.heap[r]? = some o ∧ o.isWalk = true) → (∀ r, row = some r → w.heap.size ≤ r ∧ ∃ o : Obj, A.heap[r]? = some o ∧ o.isCells = false) :=
      fun hr r e => by obtain ⟨hB, o, ho, hw⟩ := hr r e; exact ⟨Nat.le_trans hs1 hB, o, ho, Obj.not_cells_of_walk hw⟩
    refine (hseq (w.heap.size + 1)
      (fun pre W => I pre W ∧ W.heap[w.heap.size + 1]? = some (.loop (rec .ready none)) ∧ W.heap[w.heap.size]? = some (.deferred (some [])))
      (fun pre W => ∃ c, Ix c pre W ∧ W.heap[w.heap.size + 1]? = some (.loop (rec .done (some c))) ∧ W.heap[w.heap.size]? = some (.deferred (some [])))
      W1 hb1
      (fun s A B row hs hg' hr => ⟨hI s A B row hs.1 hg' (hnw hr), (grownBy_keeps hg' (fun r e => (hr r e).2) hs.2.1 rfl).trans hs.2.1, (grownBy_keeps hg' (fun r e => (hr r e).2) hs.2.2 rfl).trans hs.2.2⟩)
      (fun s A B row hs hg' hr => by
        obtain ⟨c, hc, hl, hk⟩ := hs
        exact ⟨c, hIx c s A B row hc hg' (hnw hr), (grownBy_keeps hg' (fun r e => (hr r e).2) hl rfl).trans hl, (grownBy_keeps hg' (fun r e => (hr r e).2) hk rfl).trans hk⟩)
      (fun _ _ h => h.1) ?_ ⟨hI1, hL1, hK1⟩).mono ?_
    · rintro pre x W ⟨hi, hl, hk⟩ hG
      have hy := run_yield (P := P) (args := encs x) hl (by rw [hrec]; exact hps x)
      rw [hrec] at hy
      refine ⟨fn, _, assign, body, hy, roundIn_of_wpIn hfn (hassign _ pre x W _ hi hG ?_)⟩
      clear hy
      intro a' Wa hkfa hia hax
      have hl := hkfa.same _ _ (Nat.le_succ _) hl rfl
      have hk := hkfa.same _ _ (Nat.le_refl _) hk rfl
      have hlt : w.heap.size + 1 < Wa.heap.size := (Array.getElem?_eq_some_iff.1 hl).1
      refine ⟨_, run_beginRound hl (by rw [hrec]), ?_⟩
      have hl2 : (Wa.putObj (w.heap.size + 1) (.loop { rec .ready none with state := .busy })).heap[w.heap.size + 1]? = some (.loop { rec .ready none with state := .busy }) := World.putObj_heap_same hlt
      have hk2 : (Wa.putObj (w.heap.size + 1) (.loop { rec .ready none with state := .busy })).heap[w.heap.size]? = some (.deferred (some [])) := (World.putObj_heap_other (by omega)).trans hk
      refine wpIn_mono (hbody _ pre x a' _ (Nat.le_succ _) (hI.putObj _ hia (Nat.le_succ _) hl rfl) ((hAx x a').putObj (s := ()) _ hax (Nat.le_succ _) hl rfl) hG) ?_
      have fin : ∀ (jump : Option Code) (W3 : World), KeepsFrom w.heap.size (Wa.putObj (w.heap.size + 1) (.loop { rec .ready none with state := .busy })) W3 →
          (Instr.endRound (w.heap.size + 1) jump).run P W3 = .ok (.bool jump.isNone) (W3.putObj (w.heap.size + 1) (.loop (rec (if jump.isNone then .ready else .done) jump))) ∧
          W3.heap[w.heap.size + 1]? = some (.loop { rec .ready none with state := .busy }) ∧
          (W3.putObj (w.heap.size + 1) (.loop (rec (if jump.isNone then .ready else .done) jump))).heap[w.heap.size + 1]? = some (.loop (rec (if jump.isNone then .ready else .done) jump)) ∧
          (W3.putObj (w.heap.size + 1) (.loop (rec (if jump.isNone then .ready else .done) jump))).heap[w.heap.size]? = some (.deferred (some [])) := fun jump W3 hk3 => by
        have hl3 := hk3.same _ _ (Nat.le_succ _) hl2 rfl
        have := run_endRound (P := P) jump hl3
        rw [hrec] at this ⊢
        exact ⟨this, by rw [hrec] at hl3; exact hl3, World.putObj_heap_same (Array.getElem?_eq_some_iff.1 hl3).1, (World.putObj_heap_other (by omega)).trans (hk3.same _ _ (Nat.le_refl _) hk2 rfl)⟩
      rintro e a3 W3 hp
      cases e with
      | normal =>
        obtain ⟨hk3, -, hi3⟩ := hp
        obtain ⟨hr, hl3, hl4, hk4⟩ := fin none W3 hk3
        exact ⟨_, _, hr, .inl ⟨rfl, hI.putObj _ hi3 (Nat.le_succ _) hl3 rfl, hl4, hk4⟩⟩
      | ret =>
        obtain ⟨hk3, hi3⟩ := hp
        obtain ⟨hr, hl3, hl4, hk4⟩ := fin (some .ret) W3 hk3
        exact ⟨_, _, hr, .inr ⟨rfl, .ret, (hIx _).putObj _ hi3 (Nat.le_succ _) hl3 rfl, hl4, hk4⟩⟩
      | exit id =>
        obtain ⟨hk3, hi3⟩ := hp
        obtain ⟨hr, hl3, hl4, hk4⟩ := fin (some (.exit id)) W3 hk3
        exact ⟨_, _, hr, .inr ⟨rfl, .exit id, (hIx _).putObj _ hi3 (Nat.le_succ _) hl3 rfl, hl4, hk4⟩⟩
      | goto t =>
        obtain ⟨hk3, hi3⟩ := hp
        obtain ⟨hr, hl3, hl4, hk4⟩ := fin (some (.goto t)) W3 hk3
        exact ⟨_, _, hr, .inr ⟨rfl, .goto t, (hIx _).putObj _ hi3 (Nat.le_succ _) hl3 rfl, hl4, hk4⟩⟩
      | panic ch => exact hp.elim
      | outgrown => exact hp.elim
    · rintro e W2 ⟨⟨v, rfl⟩, (⟨xs, hS, hi, hl, hk⟩ | ⟨pre, c, hi, hl, hk⟩)⟩
      · exact ⟨none, _, by have := run_endLoop (P := P) hl (by rw [hrec]; simp); rw [hrec] at this; exact this, hdone _ xs _ (Nat.le_refl _) hS (hI.putObj _ hi (Nat.le_succ _) hl rfl) ((World.putObj_heap_other (by omega)).trans hk)⟩
      · exact ⟨some c, _, by have := run_endLoop (P := P) hl (by rw [hrec]; simp); rw [hrec] at this; exact this, hstop _ c pre _ (Nat.le_refl _) ((hIx c).putObj _ hi (Nat.le_succ _) hl rfl) ((World.putObj_heap_other (by omega)).trans hk)⟩
/-- .. where the assigned variables lie in the frame -/
theorem wpIn_iter_moves {α : Type} {F : Fence} {n : Nat} {P : Program} {g : Operand} {ps : Array Tmp} {assign body : Code} {Q : Exit → Act → World → Prop} {a : Act} {w : World}
    (hro : F.round = none) (h1 : 1 ≤ n) {gf : Nat} {lb : Array Value} (hg : a.eval g = .func (.func gf) #[] lb) (hFg : F.fn gf) (eg : ∀ args w, (callFunc gf args).run P w = .ok (.enter gf args) w)
    {encs : α → Array Value} {G : List α → α → Prop} {S : List α → Prop} (I : List α → World → Prop) (hseq : SeqI F (n - 1) P gf lb encs I G S w)
    (hps : ∀ x, (encs x).size = ps.size) (Ix : Code → List α → World → Prop) (hI : OwnFrom w.heap.size I) (hIx : ∀ c, OwnFrom w.heap.size (Ix c)) (h0 : I [] w) (A1 : Act → α → Act)
    (hassign : ∀ (l : Nat) (x : α) (W : World) (K : Act → World → Prop), K (A1 a x) W →
      assign.wpIn (F.inRound l) (n - 1 - 1) P (Exit.then K (fun _ _ _ => False)) { tmps := (ps.zip (encs x)).foldl (fun t (p, v) => t.setIfInBounds p v) a.tmps, defers := [] } W)
    (hbody : ∀ (l : Nat) (pre : List α) (x : α) (W : World), w.heap.size ≤ l → I pre W → G pre x → body.wpIn (F.inRound l) (n - 1 - 1) P (roundPost w.heap.size I Ix (pre ++ [x]) W) (A1 a x) W)
    (hdone : ∀ (D : Nat) (xs : List α) (W : World), w.heap.size ≤ D → S xs → I xs W → W.heap[D]? = some (.deferred (some [])) → Q .normal { a with defers := { target := .collected D, args := #[] } :: a.defers } W)
    (hstop : ∀ (D : Nat) (c : Code) (pre : List α) (W : World), w.heap.size ≤ D → Ix c pre W → W.heap[D]? = some (.deferred (some [])) → c.wpIn F n P Q { a with defers := { target := .collected D, args := #[] } :: a.defers } W) :
    (Code.rangeFunc g ps assign body).wpIn F n P Q a w :=
  wpIn_iter hro h1 hg hFg eg I hseq hps Ix hI hIx h0 (fun x a' _ => a' = A1 a x) (fun _ _ _ _ _ _ h _ _ => h)
    (fun l _ x W _ hi _ hK => hassign l x W _ (hK _ _ (KeepsFrom.refl _ _) hi rfl)) (fun l pre x a' W hl hi ha hG => by subst ha; exact hbody l pre x W hl hi hG) hdone hstop
end Go.Proofs.YtkklmljannclmaaDoor

namespace Go.Proofs.YtkklmljannclmaaDoor
open Go.RowKit

/-- what an iterator promises to a loop that keeps I, and whose body keeps what Kp says -/
def SeqIK {α : Type} (F : Fence) (n : Nat) (P : Program) (gf : Nat) (lb : Array Value) (encs : α → Array Value) (Kp : World → World → Prop) (Ow : Nat → World → World → Prop) (I : List α → World → Prop) (G : List α → α → Prop) (S : List α → Prop) (w : World) : Prop :=
  ∀ (l : Nat) (J Jx : List α → World → Prop) (W : World), Below w.heap.size w W → AbidesFrom W.heap.size J → (∀ s A B, J s A → Ow W.heap.size A B → J s B) → AbidesFrom W.heap.size Jx → (∀ pre W1, J pre W1 → I pre W1) →
    (∀ pre x W1, J pre W1 → G pre x → YieldAt F (n - 1) P l (encs x) W1 fun e W' => (e = .returned (.bool true) ∧ J (pre ++ [x]) W' ∧ Kp W1 W') ∨ (e = .returned (.bool false) ∧ Jx (pre ++ [x]) W')) →
    J [] W →
    CallsIn F n P gf (#[.func (.yield l) #[] #[]] ++ lb) W fun e W' => (∃ v, e = .returned v) ∧ ((∃ xs, S xs ∧ J xs W') ∨ (∃ pre, Jx pre W'))

/-- how a round may end -/
abbrev roundPostK {α : Type} (B : Nat) (Kp : World → World → Prop) (I : List α → World → Prop) (Ix : Code → List α → World → Prop) (xs : List α) (W : World) : Exit → Act → World → Prop := ownPostG B Kp I Ix xs W

theorem wpIn_iterK {α : Type} {F : Fence} {n : Nat} {P : Program} {g : Operand} {ps : Array Tmp} {assign body : Code} {Q : Exit → Act → World → Prop} {a : Act} {w : World}
    (hro : F.round = none) (h1 : 1 ≤ n) {gf : Nat} {lb : Array Value} (hg : a.eval g = .func (.func gf) #[] lb) (hFg : F.fn gf) (eg : ∀ args w, (callFunc gf args).run P w = .ok (.enter gf args) w)
    {encs : α → Array Value} {Kp : World → World → Prop} {Ow : Nat → World → World → Prop} {G : List α → α → Prop} {S : List α → Prop} (I : List α → World → Prop) (hseq : SeqIK F (n - 1) P gf lb encs Kp Ow I G S w)
    (hOn : ∀ {B : Nat} {X Y : World} {k : Nat} {o : Obj}, Ow B X Y → X.heap[k]? = some o → o.isCells = false → Y.heap[k]? = some o) (hOm : ∀ {B B' : Nat} {X Y : World}, B ≤ B' → Ow B' X Y → Ow B X Y) (hIo : ∀ s X Y, I s X → Ow w.heap.size X Y → I s Y)
    (hKt : ∀ {A B C : World}, Kp A B → Kp B C → Kp A C) (hKb : ∀ (W : World) (l : Nat) (o o' : Obj), w.heap.size ≤ l → W.heap[l]? = some o → o.isCells = false → Kp W (W.putObj l o'))
    (hps : ∀ x, (encs x).size = ps.size) (Ix : Code → List α → World → Prop) (hI : OwnFrom w.heap.size I) (hIx : ∀ c, OwnFrom w.heap.size (Ix c)) (h0 : I [] w) (Ax : α → Act → World → Prop) (hAx : ∀ x a', OwnFrom w.heap.size (fun (_ : Unit) W => Ax x a' W))
    (hassign : ∀ (l : Nat) (pre : List α) (x : α) (W : World) (K : Act → World → Prop), I pre W → G pre x → (∀ a' W', KeepsFrom w.heap.size W W' → Kp W W' → I pre W' → Ax x a' W' → K a' W') →
      assign.wpIn (F.inRound l) (n - 1 - 1) P (Exit.then K (fun _ _ _ => False)) { tmps := (ps.zip (encs x)).foldl (fun t (p, v) => t.setIfInBounds p v) a.tmps, defers := [] } W)
    (hbody : ∀ (l : Nat) (pre : List α) (x : α) (a' : Act) (W : World), w.heap.size ≤ l → I pre W → Ax x a' W → G pre x → body.wpIn (F.inRound l) (n - 1 - 1) P (roundPostK w.heap.size Kp I Ix (pre ++ [x]) W) a' W)
    (hdone : ∀ (D : Nat) (xs : List α) (W : World), w.heap.size ≤ D → S xs → I xs W → W.heap[D]? = some (.deferred (some [])) → Q .normal { a with defers := { target := .collected D, args := #[] } :: a.defers } W)
    (hstop : ∀ (D : Nat) (c : Code) (pre : List α) (W : World), w.heap.size ≤ D → Ix c pre W → W.heap[D]? = some (.deferred (some [])) → c.wpIn F n P Q { a with defers := { target := .collected D, args := #[] } :: a.defers } W) :
    (Code.rangeFunc g ps assign body).wpIn F n P Q a w := by
  refine wpIn_rangeFunc fun fn hfn => ?_
  rw [hro]
  obtain ⟨rec, hrec⟩ : ∃ rec : LoopState → Option Code → Loop, rec = fun st pe => { state := st, pending := pe, fn, tmps := a.tmps, params := ps, assign, body, defers := w.heap.size } := ⟨_, rfl⟩
  obtain ⟨W1, hW1⟩ : ∃ W1, (w.alloc (.deferred (some []))).alloc (.loop (rec .ready none)) = W1 := ⟨_, rfl⟩
  have hL1 : W1.heap[w.heap.size + 1]? = some (.loop (rec .ready none)) := by
    rw [← hW1]; have := World.alloc_heap_new (w.alloc (.deferred (some []))) (.loop (rec .ready none)); rwa [World.size_alloc] at this
  have hK1 : W1.heap[w.heap.size]? = some (.deferred (some [])) := by
    rw [← hW1]; exact (Below.heap_alloc _ _ _ (by simp)).trans (World.alloc_heap_new w _)
  have hI1 : I [] W1 := by rw [← hW1]; exact hI.alloc _ (hI.alloc _ h0)
  have hb1 : Below w.heap.size w W1 := by
    rw [← hW1]; exact ((Below.refl _ w).alloc (Nat.le_refl _) _).alloc (by simp) _
  have hs1 : w.heap.size ≤ W1.heap.size := hb1.size
  refine ⟨w.heap.size + 1, [{ target := .collected w.heap.size, args := #[] }], W1, { target := .fn (.func gf) lb, args := #[.func (.yield (w.heap.size + 1)) #[] #[]] }, W1, gf,
    #[.func (.yield (w.heap.size + 1)) #[] #[]] ++ lb, W1, ?_, ?_, ?_, ?_, fun _ => h1, ?_⟩
  · rw [← hW1, hrec]; exact run_enterLoop_outer _ _ _ _ _
  · simp only [resolve, hg]
    simp [go_sem]
  · intro f' hf'; simp [Target.leads] at hf'; subst hf'; exact hFg
  · simp [invoke, go_sem, eg]
  · have hnw : ∀ {A : World} {row : Option Nat}, (∀ r, row = some r → W1.heap.size ≤ r ∧ ∃ o : Obj, A.heap[r]? = some o ∧ o.isWalk = true) → (∀ r, row = some r → w.heap.size ≤ r ∧ ∃ o : Obj, A.heap[r]? = some o ∧ o.isCells = false) :=
      fun hr r e => by obtain ⟨hB, o, ho, hw⟩ := hr r e; exact ⟨Nat.le_trans hs1 hB, o, ho, Obj.not_cells_of_walk hw⟩
    refine (hseq (w.heap.size + 1)
      (fun pre W => I pre W ∧ W.heap[w.heap.size + 1]? = some (.loop (rec .ready none)) ∧ W.heap[w.heap.size]? = some (.deferred (some [])))
      (fun pre W => ∃ c, Ix c pre W ∧ W.heap[w.heap.size + 1]? = some (.loop (rec .done (some c))) ∧ W.heap[w.heap.size]? = some (.deferred (some [])))
      W1 hb1
      (fun s A B row hs hg' hr => ⟨hI s A B row hs.1 hg' (hnw hr), (grownBy_keeps hg' (fun r e => (hr r e).2) hs.2.1 rfl).trans hs.2.1, (grownBy_keeps hg' (fun r e => (hr r e).2) hs.2.2 rfl).trans hs.2.2⟩)
      (fun s A B hs ho => ⟨hIo s A B hs.1 (hOm hs1 ho), hOn ho hs.2.1 rfl, hOn ho hs.2.2 rfl⟩)
      (fun s A B row hs hg' hr => by
        obtain ⟨c, hc, hl, hk⟩ := hs
        exact ⟨c, hIx c s A B row hc hg' (hnw hr), (grownBy_keeps hg' (fun r e => (hr r e).2) hl rfl).trans hl, (grownBy_keeps hg' (fun r e => (hr r e).2) hk rfl).trans hk⟩)
      (fun _ _ h => h.1) ?_ ⟨hI1, hL1, hK1⟩).mono ?_
    · rintro pre x W ⟨hi, hl, hk⟩ hG
      have hy := run_yield (P := P) (args := encs x) hl (by rw [hrec]; exact hps x)
      rw [hrec] at hy
      refine ⟨fn, _, assign, body, hy, roundIn_of_wpIn hfn (hassign _ pre x W _ hi hG ?_)⟩
      clear hy
      intro a' Wa hkfa hkpa hia hax
      have hl := hkfa.same _ _ (Nat.le_succ _) hl rfl
      have hk := hkfa.same _ _ (Nat.le_refl _) hk rfl
      have hlt : w.heap.size + 1 < Wa.heap.size := (Array.getElem?_eq_some_iff.1 hl).1
      refine ⟨_, run_beginRound hl (by rw [hrec]), ?_⟩
      have hl2 : (Wa.putObj (w.heap.size + 1) (.loop { rec .ready none with state := .busy })).heap[w.heap.size + 1]? = some (.loop { rec .ready none with state := .busy }) := World.putObj_heap_same hlt
      have hk2 : (Wa.putObj (w.heap.size + 1) (.loop { rec .ready none with state := .busy })).heap[w.heap.size]? = some (.deferred (some [])) := (World.putObj_heap_other (by omega)).trans hk
      refine wpIn_mono (hbody _ pre x a' _ (Nat.le_succ _) (hI.putObj _ hia (Nat.le_succ _) hl rfl) ((hAx x a').putObj (s := ()) _ hax (Nat.le_succ _) hl rfl) hG) ?_
      have fin : ∀ (jump : Option Code) (W3 : World), KeepsFrom w.heap.size (Wa.putObj (w.heap.size + 1) (.loop { rec .ready none with state := .busy })) W3 →
          (Instr.endRound (w.heap.size + 1) jump).run P W3 = .ok (.bool jump.isNone) (W3.putObj (w.heap.size + 1) (.loop (rec (if jump.isNone then .ready else .done) jump))) ∧
          W3.heap[w.heap.size + 1]? = some (.loop { rec .ready none with state := .busy }) ∧
          (W3.putObj (w.heap.size + 1) (.loop (rec (if jump.isNone then .ready else .done) jump))).heap[w.heap.size + 1]? = some (.loop (rec (if jump.isNone then .ready else .done) jump)) ∧
          (W3.putObj (w.heap.size + 1) (.loop (rec (if jump.isNone then .ready else .done) jump))).heap[w.heap.size]? = some (.deferred (some [])) := fun jump W3 hk3 => by
        have hl3 := hk3.same _ _ (Nat.le_succ _) hl2 rfl
        have := run_endRound (P := P) jump hl3
        rw [hrec] at this ⊢
        exact ⟨this, by rw [hrec] at hl3; exact hl3, World.putObj_heap_same (Array.getElem?_eq_some_iff.1 hl3).1, (World.putObj_heap_other (by omega)).trans (hk3.same _ _ (Nat.le_refl _) hk2 rfl)⟩
      rintro e a3 W3 hp
      cases e with
      | normal =>
        obtain ⟨hk3, hkp3, hi3⟩ := hp
        obtain ⟨hr, hl3, hl4, hk4⟩ := fin none W3 hk3
        exact ⟨_, _, hr, .inl ⟨rfl, ⟨hI.putObj _ hi3 (Nat.le_succ _) hl3 rfl, hl4, hk4⟩, hKt hkpa (hKt (hKb _ _ _ _ (Nat.le_succ _) hl rfl) (hKt hkp3 (hKb _ _ _ _ (Nat.le_succ _) hl3 rfl)))⟩⟩
      | ret =>
        obtain ⟨hk3, hi3⟩ := hp
        obtain ⟨hr, hl3, hl4, hk4⟩ := fin (some .ret) W3 hk3
        exact ⟨_, _, hr, .inr ⟨rfl, .ret, (hIx _).putObj _ hi3 (Nat.le_succ _) hl3 rfl, hl4, hk4⟩⟩
      | exit id =>
        obtain ⟨hk3, hi3⟩ := hp
        obtain ⟨hr, hl3, hl4, hk4⟩ := fin (some (.exit id)) W3 hk3
        exact ⟨_, _, hr, .inr ⟨rfl, .exit id, (hIx _).putObj _ hi3 (Nat.le_succ _) hl3 rfl, hl4, hk4⟩⟩
      | goto t =>
        obtain ⟨hk3, hi3⟩ := hp
        obtain ⟨hr, hl3, hl4, hk4⟩ := fin (some (.goto t)) W3 hk3
        exact ⟨_, _, hr, .inr ⟨rfl, .goto t, (hIx _).putObj _ hi3 (Nat.le_succ _) hl3 rfl, hl4, hk4⟩⟩
      | panic ch => exact hp.elim
      | outgrown => exact hp.elim
    · rintro e W2 ⟨⟨v, rfl⟩, (⟨xs, hS, hi, hl, hk⟩ | ⟨pre, c, hi, hl, hk⟩)⟩
      · exact ⟨none, _, by have := run_endLoop (P := P) hl (by rw [hrec]; simp); rw [hrec] at this; exact this, hdone _ xs _ (Nat.le_refl _) hS (hI.putObj _ hi (Nat.le_succ _) hl rfl) ((World.putObj_heap_other (by omega)).trans hk)⟩
      · exact ⟨some c, _, by have := run_endLoop (P := P) hl (by rw [hrec]; simp); rw [hrec] at this; exact this, hstop _ c pre _ (Nat.le_refl _) ((hIx c).putObj _ hi (Nat.le_succ _) hl rfl) ((World.putObj_heap_other (by omega)).trans hk)⟩
/-- .. where the assignment lays a box of its own -/
theorem wpIn_iterK_box {α : Type} {F : Fence} {n : Nat} {P : Program} {g : Operand} {ps : Array Tmp} {assign body : Code} {Q : Exit → Act → World → Prop} {a : Act} {w : World}
    (hro : F.round = none) (h1 : 1 ≤ n) {gf : Nat} {lb : Array Value} (hg : a.eval g = .func (.func gf) #[] lb) (hFg : F.fn gf) (eg : ∀ args w, (callFunc gf args).run P w = .ok (.enter gf args) w)
    {encs : α → Array Value} {Kp : World → World → Prop} {Ow : Nat → World → World → Prop} {G : List α → α → Prop} {S : List α → Prop} (I : List α → World → Prop) (hseq : SeqIK F (n - 1) P gf lb encs Kp Ow I G S w)
    (hOn : ∀ {B : Nat} {X Y : World} {k : Nat} {o : Obj}, Ow B X Y → X.heap[k]? = some o → o.isCells = false → Y.heap[k]? = some o) (hOm : ∀ {B B' : Nat} {X Y : World}, B ≤ B' → Ow B' X Y → Ow B X Y) (hIo : ∀ s X Y, I s X → Ow w.heap.size X Y → I s Y)
    (hKt : ∀ {A B C : World}, Kp A B → Kp B C → Kp A C) (hKb : ∀ (W : World) (l : Nat) (o o' : Obj), w.heap.size ≤ l → W.heap[l]? = some o → o.isCells = false → Kp W (W.putObj l o'))
    (hps : ∀ x, (encs x).size = ps.size) (Ix : Code → List α → World → Prop) (hI : OwnFrom w.heap.size I) (hIx : ∀ c, OwnFrom w.heap.size (Ix c)) (h0 : I [] w) (A1 : Act → α → Nat → Act) (PB : α → Nat → World → Prop) (hPB : ∀ x Bx, OwnFrom w.heap.size (fun (_ : Unit) W => PB x Bx W))
    (hassign : ∀ (l : Nat) (pre : List α) (x : α) (W : World) (K : Act → World → Prop), I pre W → G pre x → (∀ Bx W', KeepsFrom w.heap.size W W' → Kp W W' → I pre W' → PB x Bx W' → K (A1 a x Bx) W') →
      assign.wpIn (F.inRound l) (n - 1 - 1) P (Exit.then K (fun _ _ _ => False)) { tmps := (ps.zip (encs x)).foldl (fun t (p, v) => t.setIfInBounds p v) a.tmps, defers := [] } W)
    (hbody : ∀ (l : Nat) (pre : List α) (x : α) (Bx : Nat) (W : World), w.heap.size ≤ l → I pre W → PB x Bx W → G pre x → body.wpIn (F.inRound l) (n - 1 - 1) P (roundPostK w.heap.size Kp I Ix (pre ++ [x]) W) (A1 a x Bx) W)
    (hdone : ∀ (D : Nat) (xs : List α) (W : World), w.heap.size ≤ D → S xs → I xs W → W.heap[D]? = some (.deferred (some [])) → Q .normal { a with defers := { target := .collected D, args := #[] } :: a.defers } W)
    (hstop : ∀ (D : Nat) (c : Code) (pre : List α) (W : World), w.heap.size ≤ D → Ix c pre W → W.heap[D]? = some (.deferred (some [])) → c.wpIn F n P Q { a with defers := { target := .collected D, args := #[] } :: a.defers } W) :
    (Code.rangeFunc g ps assign body).wpIn F n P Q a w :=
  wpIn_iterK hro h1 hg hFg eg I hseq hOn hOm hIo hKt hKb hps Ix hI hIx h0 (fun x a' W => ∃ Bx, a' = A1 a x Bx ∧ PB x Bx W) (fun x a' s X Y row hs hg' hr => by obtain ⟨Bx, h2, h3⟩ := hs; exact ⟨Bx, h2, hPB x Bx () X Y row h3 hg' hr⟩)
    (fun l pre x W K hi hG hK => hassign l pre x W K hi hG fun Bx W' h2 h3 h4 h5 => hK _ _ h2 h3 h4 ⟨Bx, rfl, h5⟩) (fun l pre x a' W hl hi ha hG => by obtain ⟨Bx, rfl, h5⟩ := ha; exact hbody l pre x Bx W hl hi h5 hG) hdone hstop
/-- the walk's continuation, written out: so that a proof may be cut there -/
theorem wp_then_mono {P : Program} {x y : Code} {K : Act → World → Prop} {Q : Exit → Act → World → Prop} {a : Act} {w : World} (hK : ∀ a w, y.wp P Q a w → K a w) (h : x.wp P (Exit.then (y.wp P Q) Q) a w) : x.wp P (Exit.then K Q) a w :=
  wp_mono h fun e a w hq => by
    cases e with
    | normal => exact hK _ _ hq
    | exit i => exact hq
    | goto i => exact hq
    | ret => exact hq
    | panic c => exact hq
    | outgrown => exact hq
end Go.Proofs.YtkklmljannclmaaDoor

namespace Go.Proofs.YtkklmljannclmaaDoor
open Go.RowKit Go.Sort Go.Joins Go.Shelf
attribute [local go_sem] cell_grow frozen_grow size_grow Oper.semAt_some

theorem wide_any' (d : Nat) : Fence.wide.depth.isSome = true → 1 ≤ d := fun h => by simp [Fence.wide] at h
theorem yformK {R S : World → Prop} {K : World → Prop} {e : Ending} {W : World} (h : (e = .returned (.bool true) ∧ R W ∧ K W) ∨ (e = .returned (.bool false) ∧ S W)) : ∃ b, e = .returned (.bool b) ∧ Hid ((b = true → R W ∧ K W) ∧ (b = false → S W)) := by
  rcases h with ⟨h1, h2⟩ | ⟨h1, h2⟩
  · exact ⟨true, h1, Lib.hid ⟨(fun _ => h2), (fun h => by cases h)⟩⟩
  · exact ⟨false, h1, Lib.hid ⟨(fun h => by cases h), (fun _ => h2)⟩⟩
/-- the function that finds a field's end, as a value -/
abbrev endsV (q : Nat) : Value := .func (.func 68) #[] #[.pointer (some ⟨q, 0, none⟩)]
/-- what pieces lays -/
structure PiAt (w : World) (s : ByteArray) (W : World) : Prop where
  k : Below w.heap.size w W
  n : W.heap.size = w.heap.size + 3
  s : W.heap[w.heap.size]? = some (.cells #[.string s] 9 (0, 0))
  q : WB W (w.heap.size + 1) false
  f : W.heap[w.heap.size + 2]? = some (.cells #[endsV (w.heap.size + 1)] 104 (0, 0))
set_option maxRecDepth 100000 in
theorem pieces_ok (s : ByteArray) (w : World) : Calls Tryd.prog 41 #[.string s] w fun e w' =>
    e = .returned (.func (.func 69) #[] #[.pointer (some ⟨w.heap.size, 0, none⟩), .pointer (some ⟨w.heap.size + 2, 0, none⟩)]) ∧ PiAt w s w' := by
  go_enter Tryd.func41, Tryd.ntmps41
  go_wp2
  go_ret
  refine ⟨rfl, ?_⟩
  have h1 := heap_alloc_new w (.cells #[.string s] 9)
  have h2 := heap_alloc_new (w.alloc (.cells #[.string s] 9)) (.cells #[.bool false] 4)
  have h3 := heap_alloc_new ((w.alloc (.cells #[.string s] 9)).alloc (.cells #[.bool false] 4)) (.cells #[endsV (w.heap.size + 1)] 104)
  simp only [World.size_alloc] at h2 h3
  have b2 := below_box0 (w.alloc (.cells #[.string s] 9)) (.cells #[.bool false] 4)
  have b3 := below_box0 ((w.alloc (.cells #[.string s] 9)).alloc (.cells #[.bool false] 4)) (.cells #[endsV (w.heap.size + 1)] 104)
  exact ⟨(((Below.refl _ w).alloc (Nat.le_refl _) _).alloc (by simp) _).alloc (by simp; omega) _, by simp, (b3.block _ (by simp; omega)).trans ((b2.block _ (by simp)).trans h1), (b3.block _ (by simp)).trans h2, h3⟩
/-- what the iterator turns: the state's box -/
def OwP (q : Nat) (_ : Nat) (A B : World) : Prop := (∃ b, WB A q b) ∧ A.grownBy B (some q)
/-- what the loop's body leaves alone -/
def KpP (q : Nat) (A B : World) : Prop := ∀ b, WB A q b → WB B q b
abbrev encS (x : ByteArray) : Array Value := #[.string x]
def GP (L : List UInt8) (pre : List ByteArray) (x : ByteArray) : Prop := ∃ R, pcsL L = pre.map (·.data.toList) ++ x.data.toList :: R
def SP (L : List UInt8) (xs : List ByteArray) : Prop := pcsL L = xs.map (·.data.toList)
/-- what the loop keeps for the iterator -/
def KeepP (n : Nat) (s : ByteArray) (W : World) : Prop := W.cell? ⟨n, 0, none⟩ = some (.string s) ∧ W.cell? ⟨n + 2, 0, none⟩ = some (endsV (n + 1))
def strLen : Value → Nat
  | .string s => s.size
  | _ => 0
set_option maxRecDepth 100000 in
set_option maxHeartbeats 3200000 in
theorem pieces_seq (d n : Nat) (s : ByteArray) (L : List UInt8) (hL : s.data.toList = L) (hs : s.size ≤ 4611686018427387904) (I : List ByteArray → World → Prop) (hI : ∀ pre W, I pre W → KeepP n s W) (w : World) (hq : WB w (n + 1) false) :
    SeqIK Fence.wide d Tryd.prog 69 #[.pointer (some ⟨n, 0, none⟩), .pointer (some ⟨n + 2, 0, none⟩)] encS (KpP (n + 1)) (OwP (n + 1)) I (GP L) (SP L) w := by
  intro l J Jx W hbw _ hJo _ hJI hY h0
  have hqW : WB W (n + 1) false := (hbw.block _ (blk_lt hq)).trans hq
  obtain ⟨c0, c1⟩ := hI _ _ (hJI _ _ h0)
  have HJ0 := Lib.hid h0
  have HQ0 := Lib.hid hqW
  have HJo := Lib.hid hJo
  have HIJ := Lib.hid (fun pre W h => hI pre W (hJI pre W h))
  have HY := Lib.hid hY
  have HL := Lib.hid hL
  clear hJo hI hJI hY h0 hqW hq hbw hL
  refine callsIn_of_wp Tryd.func69 rfl trivial ?_ rfl
  simp only [Tryd.ntmps69, List.size_toArray, List.length_cons, List.length_nil, Nat.reduceAdd, Nat.reduceSub, Array.replicate_succ, Array.replicate_zero, List.push_toArray, List.append_toArray, List.nil_append, List.cons_append]
  gi_wp2
  clear c0 c1
  gi_loopw [4] (fun r wr => ∃ (T : ByteArray) (pre : List ByteArray), r = .string T ∧ T.size ≤ s.size ∧ Hid (pcsL L = pre.map (·.data.toList) ++ pcsL T.data.toList) ∧ Hid (J pre wr) ∧ Hid (WB wr (n + 1) false)) (fun r _ => strLen r)
  case atStart => exact ⟨s, [], rfl, Nat.le_refl _, Lib.hid (by rw [HL.out]; rfl), HJ0, HQ0⟩
  case round =>
    clear HJ0 HQ0
    obtain ⟨T, pre, rfl, hT, HP, HJ, HQ⟩ := hrel
    obtain ⟨c0, c1⟩ := HIJ.out _ _ HJ.out
    obtain ⟨D, hD⟩ : ∃ D, T.data.toList = D := ⟨_, rfl⟩
    have hDl := len_of hD
    have HI := Lib.hid (indexFuncT_ok T D hD (n + 1) false wr HQ.out)
    have hcl := cut_le D false
    have hpe := @pcsL_end D
    have hpc := @pcsL_cut D
    rw [hD] at HP
    have HD := Lib.hid hD
    obtain ⟨k, hk⟩ : ∃ k, cut false D = k := ⟨_, rfl⟩
    have hix : ixC false D = if k < D.length then (k : Int) else -1 := by unfold ixC; rw [hk]
    rw [hk] at HI hcl hpe hpc
    rw [hix] at HI
    clear hD hk hix
    by_cases hlt : k < D.length
    · rw [if_pos hlt] at HI
      have hpcs := hpc hlt
      have d0 : decide ((k : Int) < 0) = false := decide_eq_false (by omega)
      have hkT : k ≤ T.size := by omega
      have hk1 : k + 1 ≤ T.size := by omega
      have HTK : Hid ((T.extract 0 k).data.toList = D.take k) := Lib.hid (by rw [Lib.extract_from_zero, HD.out])
      have HTD : Hid ((T.extract (k + 1) T.size).data.toList = D.drop (k + 1)) := Lib.hid (by rw [ext_list HD.out, List.take_of_length_le (by rw [List.length_drop]; omega)])
      have hsz : (T.extract (k + 1) T.size).size = T.size - (k + 1) := by rw [ByteArray.size_extract]; omega
      have HPC := Lib.hid hpcs
      clear hpe hpc hpcs
      gi_wp2_with fail
      refine ⟨trivial, wide_any' _, (callsIn_wide.2 HI.out).mono ?_⟩
      rintro e w2 ⟨rfl, ⟨b', hb', hbf⟩, ho⟩
      have hbf := hbf hlt
      subst hbf
      have HJ2 := Lib.hid (HJo.out _ _ _ HJ.out ⟨⟨false, HQ.out⟩, ho.grown⟩)
      have HQ2 := Lib.hid hb'
      obtain ⟨fn, tmps, assign, body, hyl, hR⟩ := HY.out pre (T.extract 0 k) w2 HJ2.out ⟨pcsL (D.drop (k + 1)), by rw [HP.out, HPC.out, HTK.out]⟩
      clear HI HJ HQ hb' ho c0 c1
      gi_wp2_with fail
      refine ⟨wide_any' _, hR.mono ?_⟩
      intro e W3 hW3
      obtain ⟨b, rfl, HBB⟩ := yformK hW3
      clear hW3 hR
      cases b with
      | true =>
        have HX2 := Lib.hid (HBB.out.1 rfl)
        clear HBB
        gi_wp2
        go_roundw
        case rel => exact ⟨T.extract (k + 1) T.size, pre ++ [T.extract 0 k], rfl, by omega, Lib.hid (by rw [HP.out, HPC.out, HTD.out, List.map_append, ← HTK.out]; simp), Lib.hid HX2.out.1, Lib.hid (HX2.out.2 _ HQ2.out)⟩
        case measure => unfold strLen; dsimp only; omega
      | false =>
        have HX2 := Lib.hid (HBB.out.2 rfl)
        clear HBB
        gi_wp2
        refine bodyPost_ret (results_none rfl _ _ _) rfl ?_
        exact ⟨⟨_, rfl⟩, .inr ⟨_, HX2.out⟩⟩
    · rw [if_neg hlt] at HI
      have HPE := Lib.hid (hpe hlt)
      have d0 : decide ((-1 : Int) < 0) = true := rfl
      clear hpe hpc
      gi_wp2_with fail
      refine ⟨trivial, wide_any' _, (callsIn_wide.2 HI.out).mono ?_⟩
      rintro e w2 ⟨rfl, ⟨b', hb', hbf⟩, ho⟩
      have HJ2 := Lib.hid (HJo.out _ _ _ HJ.out ⟨⟨false, HQ.out⟩, ho.grown⟩)
      obtain ⟨fn, tmps, assign, body, hyl, hR⟩ := HY.out pre T w2 HJ2.out ⟨[], by rw [HP.out, HPE.out, HD.out]⟩
      clear HI HJ HQ hb' ho c0 c1 hbf
      gi_wp2_with fail
      refine ⟨wide_any' _, hR.mono ?_⟩
      intro e W3 hW3
      obtain ⟨b, rfl, HBB⟩ := yformK hW3
      clear hW3 hR
      cases b with
      | true =>
        have HX2 := Lib.hid (HBB.out.1 rfl)
        clear HBB
        gi_wp2
        refine bodyPost_ret (results_none rfl _ _ _) rfl ?_
        exact ⟨⟨_, rfl⟩, .inl ⟨pre ++ [T], by unfold SP; rw [HP.out, HPE.out, List.map_append, ← HD.out]; rfl, HX2.out.1⟩⟩
      | false =>
        have HX2 := Lib.hid (HBB.out.2 rfl)
        clear HBB
        gi_wp2
        refine bodyPost_ret (results_none rfl _ _ _) rfl ?_
        exact ⟨⟨_, rfl⟩, .inr ⟨_, HX2.out⟩⟩
end Go.Proofs.YtkklmljannclmaaDoor
