/- The radix map: RadixCounts returns true. | The frame of a statement of this seat: the table of math/bits as the row lists it. | An argument of type RmDesc, as a row hands it. | The arguments of types []Call and Call of chapter 07, as a row hands them. | RadixCounts returns true for every input, on every schedule; its arguments read afterwards as they read before. No condition beyond the row's own. -/
import Derived.Test.YtfmclbacoffdaaaDoorRZ10
import Derived.Test.YtfmclbacoffdaaaDoorCards
import Derived.Test.YtfmclbacoffdaaaDoorTie
import Derived.Test.YtfmclbacoffdaaaDoorRZ2
import Derived.ProofKit
import Derived.OpenShut
import Derived.Deep.DeepHandedRow
import Derived.Lib.LaidTab
import Derived.Lib.SmallJoins
import Derived.Deep.Fields
import Derived.Deep.Slices
namespace Go.Proofs.YtfmclbacoffdaaaDoor
open Go.RowKit Go.Sort Go.Joins
attribute [local go_sem] cell_grow frozen_grow size_grow
section
variable {w : World} {a : Option Addr} {n cap : Nat} {C : Nat → Cl}
theorem getV_ds (X : RM) (p : Int) : ∃ o s t g, getV X p = dsV o s t g := by
  unfold getV unV
  split
  · split
    · exact ⟨_, _, _, _, rfl⟩
    · exact ⟨_, _, _, _, rfl⟩
  · exact ⟨_, _, _, _, rfl⟩
theorem two_l (w : World) (A B : Array Value) (t : TypeId) : ((w.alloc (.cells A t)).alloc (.cells B t)).drew.heap[w.heap.size]? = some (.cells A t (0, 0)) := by
  show ((w.alloc (.cells A t)).alloc (.cells B t)).heap[w.heap.size]? = _
  rw [Below.heap_alloc _ _ _ (by simp)]
  exact heap_alloc_new w _
theorem two_r (w : World) (A B : Array Value) (t : TypeId) : ((w.alloc (.cells A t)).alloc (.cells B t)).drew.heap[w.heap.size + 1]? = some (.cells B t (0, 0)) := by
  have := heap_alloc_new (w.alloc (.cells A t)) (.cells B t)
  rw [World.size_alloc] at this
  exact this
theorem two_b (w : World) (A B : Obj) : Below w.heap.size w ((w.alloc A).alloc B).drew :=
  below_tr (below_box0 w A) (below_tr (below_box0 _ B) (Below.refl _ _).drew)
set_option maxRecDepth 100000 in
set_option maxHeartbeats 1600000 in
theorem nodes_nil (N : Int) (h : N < 1 ∨ 145 < N ∨ 40 < n) (hT : Tab w) : Calls Tryd.prog 4 #[.int .i64 N, .slice a n cap] w fun e w' => e = .returned (.bool true) ∧ Below w.heap.size w w' := by
  have HM := Lib.hid (mkd_nil (w := w) (a := a) (cap := cap) N h)
  have HT := Lib.hid hT
  clear h hT
  go_enter Tryd.func4, Tryd.ntmps4
  go_wp2_with fail
  refine HM.out.mono ?_
  rintro e w1 ⟨rfl, b1⟩
  have B1 := Lib.hid b1
  clear b1
  go_wp2_with fail
  refine (awake_ok _ (HT.out.below B1.out)).mono ?_
  rintro e w2 ⟨rfl, b2⟩
  have B2 := Lib.hid (below_tr B1.out b2)
  clear b2
  go_wp2
  go_ret
  exact ⟨rfl, B2.out⟩
set_option maxRecDepth 100000 in
set_option maxHeartbeats 12800000 in
theorem nodes_in (N : Nat) (h1 : 1 ≤ N) (h2 : N ≤ 145) (hn : n ≤ 40) (hC : SlC w a n C) (hT : Tab w) : Calls Tryd.prog 4 #[.int .i64 N, .slice a n cap] w fun e w' => e = .returned (.bool true) ∧ Below w.heap.size w w' := by
  have HM := Lib.hid (mkd_ok (cap := cap) N h1 h2 hn hC hT)
  obtain ⟨hA1, hA2, hA3⟩ := mkM_all h1 C n
  obtain ⟨X, hX⟩ : ∃ X, mkM N C n = X := ⟨_, rfl⟩
  rw [hX] at HM hA1 hA2 hA3
  have HA := Lib.hid hA1
  have HW := Lib.hid hA2
  have hseen := hA1.seen
  have hb1 := sumN_le1 (fun k => seenB X 64 1024 k) 16
  have hb2 := sumN_le1 (fun k => seenB X 8 1024 k) 128
  have hmle := hA1.i.m_bd.2
  rw [hA3] at hmle
  have HS := Lib.hid hseen
  have HL := Lib.hid hmle
  have HT := Lib.hid hT
  have HK1 : Hid (∀ W : World, (Instr.makeSlice 35 (.int .i64 16) (.int .i64 16)).run Tryd.prog W = .ok (.slice (some ⟨W.heap.size, 0, none⟩) 16 16) (W.alloc (.cells (bl7 16 fun _ => false) 4))) := Lib.hid (fun W => run_make_bools 16 (by decide) W)
  have HK2 : Hid (∀ W : World, (Instr.makeSlice 35 (.int .i64 128) (.int .i64 128)).run Tryd.prog W = .ok (.slice (some ⟨W.heap.size, 0, none⟩) 128 128) (W.alloc (.cells (bl7 128 fun _ => false) 4))) := Lib.hid (fun W => run_make_bools 128 (by decide) W)
  clear hA1 hA2 hA3 hX hseen hb1 hb2 hmle hC hT
  go_enter Tryd.func4, Tryd.ntmps4
  go_wp2_with fail
  refine HM.out.mono ?_
  rintro e w1 ⟨rfl, m1, b1⟩
  have M1 := Lib.hid m1
  have B1 := Lib.hid b1
  clear m1 b1 HM
  go_upto_region 4 with fail
  have hk1 := HK1.out
  have hk2 := HK2.out
  go_region_with fail
  all_goals
    have hs1 := B1.out.size
    first
      | (obtain ⟨W2, hW2⟩ : ∃ W, ((w1.alloc (.cells (bl7 16 fun _ => false) 4)).alloc (.cells (bl7 128 fun _ => false) 4)).drew = W := ⟨_, rfl⟩
         rw [hW2]
         have X1 : Hid (Bl7 W2 w1.heap.size 16 fun _ => false) := Lib.hid (by rw [← hW2]; exact two_l _ _ _ _)
         have X2 : Hid (Bl7 W2 (w1.heap.size + 1) 128 fun _ => false) := Lib.hid (by rw [← hW2]; exact two_r _ _ _ _)
         have b2 : Below w1.heap.size w1 W2 := by rw [← hW2]; exact two_b _ _ _
         clear hW2
         obtain ⟨gs, hgs⟩ : ∃ g, w1.heap.size + 1 = g := ⟨_, rfl⟩
         obtain ⟨gb, hgb⟩ : ∃ g, w1.heap.size = g := ⟨_, rfl⟩
         have M2 := Lib.hid (M1.out.below b2)
         have B2 := Lib.hid (below_tr B1.out b2)
         clear b2
         rw [hgs] at X2
         rw [hgb] at X1
         rw [hgs, hgb]
         have hne : gb ≠ gs := by omega
         have hgb' : w.heap.size ≤ gb := by omega
         have hgs' : w.heap.size ≤ gs := by omega)
      | (obtain ⟨W2, hW2⟩ : ∃ W, ((w1.alloc (.cells (bl7 128 fun _ => false) 4)).alloc (.cells (bl7 16 fun _ => false) 4)).drew = W := ⟨_, rfl⟩
         rw [hW2]
         have X1 : Hid (Bl7 W2 (w1.heap.size + 1) 16 fun _ => false) := Lib.hid (by rw [← hW2]; exact two_r _ _ _ _)
         have X2 : Hid (Bl7 W2 w1.heap.size 128 fun _ => false) := Lib.hid (by rw [← hW2]; exact two_l _ _ _ _)
         have b2 : Below w1.heap.size w1 W2 := by rw [← hW2]; exact two_b _ _ _
         clear hW2
         obtain ⟨gb, hgb⟩ : ∃ g, w1.heap.size + 1 = g := ⟨_, rfl⟩
         obtain ⟨gs, hgs⟩ : ∃ g, w1.heap.size = g := ⟨_, rfl⟩
         have M2 := Lib.hid (M1.out.below b2)
         have B2 := Lib.hid (below_tr B1.out b2)
         clear b2
         rw [hgb] at X1
         rw [hgs] at X2
         rw [hgb, hgs]
         have hne : gb ≠ gs := by omega
         have hgb' : w.heap.size ≤ gb := by omega
         have hgs' : w.heap.size ≤ gs := by omega)
    clear hgb hgs hs1 hk1 hk2
    have HNE := Lib.hid hne
    have HGB := Lib.hid hgb'
    have HGS := Lib.hid hgs'
    clear hne hgb' hgs'
    go_wp2
    go_loopw [8] (fun i wr => ∃ p : Nat, i = .int .i64 p ∧ p ≤ 1024 ∧ Hid (Bl7 wr gb 16 (seenB X 64 p)) ∧ Hid (Bl7 wr gs 128 (seenB X 8 p)) ∧ Hid (TM wr w.heap.size (w.heap.size + 1) w.heap.size X.st X.m X.r) ∧ Hid (Below w.heap.size w wr)) (fun i _ => 1024 - (intOf i).toNat)
    case atStart => exact ⟨0, rfl, Nat.zero_le _, Lib.hid (X1.out.congr fun _ _ => rfl), Lib.hid (X2.out.congr fun _ _ => rfl), M2, B2⟩
    case round =>
      obtain ⟨p, rfl, hp, Y1, Y2, M, BR⟩ := hrel
      by_cases hlt : p < 1024
      · have HG := Lib.hid (get_ok M.out HA.out HW.out p)
        obtain ⟨vo, vs, vt, vg, hv⟩ := getV_ds X p
        rw [hv, getE_at HW.out hlt] at HG
        have i1 : (p : Int) < 1024 := by omega
        have hwk : IntKind.i64.wrap ((p : Int) + 1) = (p : Int) + 1 := IntWalk.i64_in _ (by omega)
        clear hv
        by_cases hw0 : wdI X.st p = 0
        · rw [if_pos hw0] at HG
          have S1 : Hid (∀ d k, seenB X d (p + 1) k = seenB X d p k) := Lib.hid (fun d k => by rw [seenB_step, hw0]; simp)
          clear hw0
          go_wp2_with fail
          refine HG.out.mono ?_
          rintro e w3 ⟨rfl, b3⟩
          have b4 := below_box0 w3 (.cells #[.int .i64 vo, .int .i64 vs, .int .i64 vt, .bool vg] 23)
          have Z1 := Lib.hid ((Y1.out.below b3).below b4)
          have Z2 := Lib.hid ((Y2.out.below b3).below b4)
          have M4 := Lib.hid ((M.out.below b3).below b4)
          have B4 := Lib.hid (below_tr BR.out (below_tr b3 b4))
          clear b3 b4
          go_wp2
          go_roundw
          case rel => exact ⟨p + 1, by go_num, by omega, Lib.hid (Z1.out.congr fun j _ => S1.out 64 j), Lib.hid (Z2.out.congr fun j _ => S1.out 8 j), M4, B4⟩
          case measure => simp [intOf]; omega
        · rw [if_neg hw0] at HG
          have S1 : Hid (∀ d k, seenB X d (p + 1) k = if k = p / d then true else seenB X d p k) := Lib.hid (fun d k => by
            rw [seenB_step]
            by_cases e : k = p / d
            · simp [e, hw0]
            · have e2 : ¬ p / d = k := fun h => e h.symm
              simp [e, e2])
          have ip0 : (0 : Int) ≤ (p : Int) := by omega
          have q1 : (p : Int).tdiv 64 = ((p / 64 : Nat) : Int) := by rw [Int.tdiv_eq_ediv_of_nonneg (by omega)]; omega
          have q2 : (p : Int).tdiv 8 = ((p / 8 : Nat) : Int) := by rw [Int.tdiv_eq_ediv_of_nonneg (by omega)]; omega
          clear hw0
          go_wp2_with fail
          refine HG.out.mono ?_
          rintro e w3 ⟨rfl, b3⟩
          have b4 := below_box0 w3 (.cells #[.int .i64 vo, .int .i64 vs, .int .i64 vt, .bool vg] 23)
          have Z1 := Lib.hid ((Y1.out.below b3).below b4)
          have Z2 := Lib.hid ((Y2.out.below b3).below b4)
          have M4 := Lib.hid ((M.out.below b3).below b4)
          have B4 := Lib.hid (below_tr BR.out (below_tr b3 b4))
          clear b3 b4
          obtain ⟨w4, hw4⟩ : ∃ W, w3.alloc (.cells #[.int .i64 vo, .int .i64 vs, .int .i64 vt, .bool vg] 23) = W := ⟨_, rfl⟩
          rw [hw4] at Z1 Z2 M4 B4
          have V1 := Lib.hid (Z1.out.set (p / 64) true)
          have V2 := Lib.hid ((Z2.out.other (a := ⟨gb, p / 64, none⟩) HNE.out (.bool true)).set (p / 8) true)
          have V1' := Lib.hid (V1.out.other (a := ⟨gs, p / 8, none⟩) (fun e => HNE.out e.symm) (.bool true))
          have M5 := Lib.hid ((M4.out.storeB Z1.out (p / 64) (.bool true)).storeB (Z2.out.other (a := ⟨gb, p / 64, none⟩) HNE.out (.bool true)) (p / 8) (.bool true))
          have B5 := Lib.hid ((B4.out.setCell (p := ⟨gb, p / 64, none⟩) HGB.out (.bool true)).setCell (p := ⟨gs, p / 8, none⟩) HGS.out (.bool true))
          have c1 : w4.cell? ⟨gb, p / 64, none⟩ = some (.bool (seenB X 64 p (p / 64))) := Z1.out.at_ (by omega)
          have c2 : w4.cell? ⟨gs, p / 8, none⟩ = some (.bool (seenB X 8 p (p / 8))) := Z2.out.at_ (by omega)
          have f1 : ∀ j, w4.frozen? ⟨gb, j, none⟩ = false := fun j => unfrozen_of_block Z1.out j
          have f2 : ∀ j, w4.frozen? ⟨gs, j, none⟩ = false := fun j => unfrozen_of_block Z2.out j
          have hne := HNE.out
          have l1 := blk_lt Z1.out
          have l2 := blk_lt Z2.out
          have x1 : ((p / 64 : Nat) : Int) < 16 := by omega
          have x2 : ((p / 8 : Nat) : Int) < 128 := by omega
          go_upto_region 9 with fail
          clear hw4
          go_wp2
          go_roundw
          case rel => exact ⟨p + 1, by go_num, by omega, Lib.hid (V1'.out.congr fun j _ => S1.out 64 j), Lib.hid (V2.out.congr fun j _ => S1.out 8 j), M5, B5⟩
          case measure => simp [intOf]; omega
      · obtain rfl : p = 1024 := by omega
        have i1 : ¬ (((1024 : Nat) : Int) < 1024) := by omega
        have hgb := HGB.out
        have hgs := HGS.out
        clear HGB HGS HNE
        go_wp2
        go_loopw [11, 12] (fun c i wr' => ∃ k : Nat, i = .int .i64 k ∧ k ≤ 16 ∧ c = .int .i64 ((1 + seenN X 64 k : Nat) : Int) ∧ wr' = wr) (fun _ i _ => 16 - (intOf i).toNat)
        case atStart => exact ⟨0, rfl, Nat.zero_le _, rfl, rfl⟩
        case round =>
          obtain ⟨k, rfl, hk, rfl, rfl⟩ := hrel
          by_cases hlt2 : k < 16
          · have c1 := Y1.out.at_ hlt2
            have j0 : (0 : Int) ≤ (k : Int) := by omega
            have j1 : (k : Int) < 16 := by omega
            have hwk : IntKind.i64.wrap ((k : Int) + 1) = (k : Int) + 1 := IntWalk.i64_in _ (by omega)
            have hb := sumN_le1 (fun k => seenB X 64 1024 k) k
            have hst : seenN X 64 (k + 1) = seenN X 64 k + if seenB X 64 1024 k = true then 1 else 0 := rfl
            obtain ⟨y, hy⟩ : ∃ y, seenN X 64 k = y := ⟨_, rfl⟩
            have hyb : y ≤ k := by rw [← hy]; exact hb
            rw [hy] at hst ⊢
            have hwy : IntKind.i64.wrap (((1 + y : Nat) : Int) + 1) = ((1 + y : Nat) : Int) + 1 := IntWalk.i64_in _ (by omega)
            obtain ⟨z, hz⟩ : ∃ z, seenB X 64 1024 k = z := ⟨_, rfl⟩
            rw [hz] at hst c1
            have HST := Lib.hid hst
            clear hb hy hz hst
            cases z
            · go_wp2
              go_roundw
              case rel => exact ⟨k + 1, by go_num, by omega, by have := HST.out; simp at this; rw [this], by first | rfl | trivial⟩
              case measure => simp [intOf]; omega
            · go_wp2
              go_roundw
              case rel => exact ⟨k + 1, by go_num, by omega, by have := HST.out; simp at this; rw [this]; go_num, by first | rfl | trivial⟩
              case measure => simp [intOf]; omega
          · obtain rfl : k = 16 := by omega
            have i1 : ¬ (((16 : Nat) : Int) < 16) := by omega
            have hb16 : seenN X 64 16 ≤ 16 := sumN_le1 (fun k => seenB X 64 1024 k) 16
            obtain ⟨y1, hy1⟩ : ∃ y, seenN X 64 16 = y := ⟨_, rfl⟩
            rw [hy1] at HS hb16 ⊢
            clear hy1
            go_wp2
            go_loopw [11, 13] (fun c i wr' => ∃ k : Nat, i = .int .i64 k ∧ k ≤ 128 ∧ c = .int .i64 ((1 + y1 + seenN X 8 k : Nat) : Int) ∧ wr' = wr) (fun _ i _ => 128 - (intOf i).toNat)
            case atStart => exact ⟨0, rfl, Nat.zero_le _, rfl, rfl⟩
            case round =>
              obtain ⟨k, rfl, hk, rfl, rfl⟩ := hrel
              by_cases hlt2 : k < 128
              · have c1 := Y2.out.at_ hlt2
                have j0 : (0 : Int) ≤ (k : Int) := by omega
                have j1 : (k : Int) < 128 := by omega
                have hwk : IntKind.i64.wrap ((k : Int) + 1) = (k : Int) + 1 := IntWalk.i64_in _ (by omega)
                have hb := sumN_le1 (fun k => seenB X 8 1024 k) k
                have hst : seenN X 8 (k + 1) = seenN X 8 k + if seenB X 8 1024 k = true then 1 else 0 := rfl
                obtain ⟨y, hy⟩ : ∃ y, seenN X 8 k = y := ⟨_, rfl⟩
                have hyb : y ≤ k := by rw [← hy]; exact hb
                rw [hy] at hst ⊢
                have hwy : IntKind.i64.wrap (((1 + y1 + y : Nat) : Int) + 1) = ((1 + y1 + y : Nat) : Int) + 1 := IntWalk.i64_in _ (by omega)
                obtain ⟨z, hz⟩ : ∃ z, seenB X 8 1024 k = z := ⟨_, rfl⟩
                rw [hz] at hst c1
                have HST := Lib.hid hst
                clear hb hy hz hst
                cases z
                · go_wp2
                  go_roundw
                  case rel => exact ⟨k + 1, by go_num, by omega, by have := HST.out; simp at this; rw [this], by first | rfl | trivial⟩
                  case measure => simp [intOf]; omega
                · go_wp2
                  go_roundw
                  case rel => exact ⟨k + 1, by go_num, by omega, by have := HST.out; simp at this; rw [this]; go_num, by first | rfl | trivial⟩
                  case measure => simp [intOf]; omega
              · obtain rfl : k = 128 := by omega
                have i1 : ¬ (((128 : Nat) : Int) < 128) := by omega
                have HND := Lib.hid (nodes_ok M.out)
                have e1 : ((1 + y1 + seenN X 8 128 : Nat) : Int) = (X.m : Int) := by rw [HS.out]
                have e2 : (X.m : Int) ≤ (N : Int) := by have := HL.out; omega
                rw [e1]
                have z1 : ((X.m : Int) == (X.m : Int)) = true := by simp
                obtain ⟨mm, hmm⟩ : ∃ z, (X.m : Int) = z := ⟨_, rfl⟩
                rw [hmm] at HND e2 z1 ⊢
                clear e1 hmm
                go_wp2_with fail
                refine HND.out.mono ?_
                rintro e w5 ⟨rfl, rfl⟩
                go_wp2_with fail
                refine (awake_ok _ (HT.out.below BR.out)).mono ?_
                rintro e w6 ⟨rfl, b6⟩
                have B6 := Lib.hid (below_tr BR.out b6)
                clear b6
                go_wp2
                go_ret
                exact ⟨rfl, B6.out⟩
/-- RadixCounts returns true -/
theorem law_nodes (N : Int) (hC : SlC w a n C) (hT : Tab w) : Calls Tryd.prog 4 #[.int .i64 N, .slice a n cap] w fun e w' => e = .returned (.bool true) ∧ Below w.heap.size w w' := by
  by_cases h : N < 1 ∨ 145 < N ∨ 40 < n
  · exact nodes_nil N h hT
  · obtain ⟨N', rfl⟩ := Int.eq_ofNat_of_zero_le (show 0 ≤ N by omega)
    exact nodes_in N' (by omega) (by omega) (by omega) hC hT
end
end Go.Proofs.YtfmclbacoffdaaaDoor

namespace Go.Proofs.YtfmclbacoffdaaaDoor
open Go.ChangeShapes Go.WideShapes Go.ChangeAt Go.RowKit

theorem own : ownKnob Tryd.prog.godebug = none := by kernel_rfl
theorem gTab : Tryd.prog.globalNamed "math/bits.deBruijn64tab" = some 0 := by kernel_rfl
theorem gTabType : (Tryd.prog.globals[0]?).map (·.type) = some 129 := by kernel_rfl
theorem cellsTab : Tryd.prog.cellsOf 129 = 64 := by kernel_rfl
theorem cellsU8 : Tryd.prog.cellsOf 5 = 1 := by kernel_rfl

theorem tab_of {W : World} (h : laidMetH Tryd.prog [("math/bits.deBruijn64tab", Rows.laid_math_bits_deBruijn64tab)] W) : Tab W := by
  have ht : Lib.TabIs Tryd.prog W "math/bits.deBruijn64tab" .u8 (Lib.deBruijn64tab.map fun (x : Nat) => (x : Int)) :=
    Lib.tabIs_of_head (rest := []) gTab gTabType Tryd.underlying129 Tryd.underlying5 cellsU8 cellsTab h
  intro i hi
  have := ht.cell gTab i (by rw [List.length_map]; exact hi)
  rw [this]
  have e : (Lib.deBruijn64tab.map fun (x : Nat) => (x : Int)).getD i 0 = ((Lib.deBruijn64tab.getD i 0 : Nat) : Int) := by
    have h64 : Lib.deBruijn64tab.length = 64 := rfl
    simp [List.getD_eq_getElem?_getD, h64, hi]
  rw [e]

/-- A world for the witness: the settled one, the table holding what its initialiser lays. -/
noncomputable def laidWorld (os : Os) : World :=
  { World.holding Tryd.prog os ⟨#[], #[], []⟩ with heap := (World.holding Tryd.prog os ⟨#[], #[], []⟩).heap.modify 0 fun
      | .cells _ t frozen => .cells (Lib.deBruijn64tab.map fun (x : Nat) => Value.int .u8 (x : Int)).toArray t frozen
      | o => o }
theorem laidOut : laidOutB Tryd.prog = true := by kernel_rfl

theorem trodAll_below {H : Type} {enc : TypeId × Value → H} {W W' : World} (hb : Below W.heap.size W W') (ts : List TypeId) : ∀ (vs : List Value) (ds : List (DataW H)) (ps : List MemPlace),
    (ts.all fun t => Tryd.prog.readableRec t && decide (t < Tryd.prog.types.size)) = true → (∀ x ∈ ps, x.block < W.heap.size) → DataW.TrodAll enc Tryd.prog W 0 (fun _ => true) true ts vs ds ps →
    DataW.TrodAll enc Tryd.prog W' 0 (fun b => decide (b < W.heap.size)) true ts vs ds ps := by
  induction ts with
  | nil =>
    intro vs ds ps _ _ h
    obtain ⟨rfl, rfl, rfl⟩ := trodAll_nil h
    exact trodAll_mk0
  | cons t ts ih =>
    intro vs ds ps hr hlt h
    obtain ⟨v, vs', d, ds', p, q, rfl, rfl, rfl, h1, h2⟩ := trodAll_cons h
    rw [List.all_cons, Bool.and_eq_true, Bool.and_eq_true] at hr
    exact trodAll_cons_mk (Below.trod laidOut hr.1.1 (of_decide_eq_true hr.1.2) h1 hb (fun x hx => hlt x (List.mem_append_left _ hx))) (ih vs' ds' q hr.2 (fun x hx => hlt x (List.mem_append_right _ hx)) h2)

/-- WHAT A LAW's WALK GIVES THE ROW: true, the arguments read as they did. -/
theorem law_post {H : Type} {enc : TypeId × Value → H} {fn : Func} {s : ChangeSpec} {W W' : World} {args : Array Value} {ds gs : List (DataW H)} {before : List MemPlace}
    (hW : DataW.Whole enc Tryd.prog fn.params.toList s.vars false W args.toList ds gs before) (hv : s.vars = []) (hr : (fn.params.toList.all fun t => Tryd.prog.readableRec t && decide (t < Tryd.prog.types.size)) = true) (hrt : fn.resultTypes = #[4])
    (h1 : (s.fn H (ds ++ gs)).results = [.lit (.bool true)]) (h2 : (s.fn H (ds ++ gs)).args = ds) (h3 : (s.fn H (ds ++ gs)).vars = []) (hb : Below W.heap.size W W') :
    s.post enc Tryd.prog fn false true false false W args (.bool true) W' := by
  have hW' := hW
  have hlt := hW.lt
  obtain ⟨p, q, hA, hV, rfl, hfz, hnd⟩ := hW
  refine ⟨ds, gs, p ++ q, [], p, [], hW', ?_, ?_, ?_, hb.frame _, fun h => by cases h⟩
  · rw [h1, hrt]
    exact trodAll_cons_mk (shut_bool Tryd.underlying4 _) trodAll_mk0
  · rw [h2]
    exact trodAll_below hb _ _ _ _ hr (fun x hx => hlt x (List.mem_append_left _ hx)) hA
  · rw [h3, hv]; rfl
end Go.Proofs.YtfmclbacoffdaaaDoor

namespace Go.Proofs.YtfmclbacoffdaaaDoor
open Go.ChangeShapes Go.WideShapes Go.ChangeAt Go.RowKit Go.Joins
set_option maxRecDepth 100000 in
theorem open_desc {H : Type} {enc : TypeId × Value → H} {W : World} {base : Nat} {v : Value} {d : DataW H} {p : List MemPlace} (hv : Value.okWide Tryd.prog W .any base 23 v) (h : DataW.Trod enc Tryd.prog W 0 (fun _ => true) true 23 v d p) :
    ∃ (o s t : Int) (g : Bool), v = .agg #[.int .i64 o, .int .i64 s, .int .i64 t, .bool g] ∧ (-9223372036854775808 ≤ o ∧ o ≤ 9223372036854775807) ∧ (-9223372036854775808 ≤ s ∧ s ≤ 9223372036854775807) ∧ (-9223372036854775808 ≤ t ∧ t ≤ 9223372036854775807) := by
  obtain ⟨cs, rfl, hsz⟩ := okWide_struct Tryd.underlying23 hv
  have hC : Tryd.prog.cellsOf 23 = 4 := by kernel_rfl
  have hk : Tryd.prog.cellsOf 3 = 1 := by kernel_rfl
  have hk6 : Tryd.prog.cellsOf 2 = 1 := by kernel_rfl
  have hkb : Tryd.prog.cellsOf 4 = 1 := by kernel_rfl
  obtain ⟨fuel, hf⟩ := h
  have hl : cs.toList.length = 4 := by simpa using hsz.trans hC
  obtain ⟨ys, n', _, _, _, hyl, hg⟩ := DataW.trod_struct Tryd.underlying23 hf
  have h0 : DataW.trod enc Tryd.prog W 0 (fun _ => true) true n' 3 ((cs.toList.drop 0).take (Tryd.prog.cellsOf 3)) = ys[0]? := hg 0 _ rfl
  have h1 : DataW.trod enc Tryd.prog W 0 (fun _ => true) true n' 3 ((cs.toList.drop 1).take (Tryd.prog.cellsOf 3)) = ys[1]? := hg 1 _ rfl
  have h2 : DataW.trod enc Tryd.prog W 0 (fun _ => true) true n' 2 ((cs.toList.drop 2).take (Tryd.prog.cellsOf 2)) = ys[2]? := hg 2 _ rfl
  have h3 : DataW.trod enc Tryd.prog W 0 (fun _ => true) true n' 4 ((cs.toList.drop 3).take (Tryd.prog.cellsOf 4)) = ys[3]? := hg 3 _ rfl
  rw [hk] at h0 h1
  rw [hk6] at h2
  rw [hkb] at h3
  have e0 : ys[0]? = some (ys[0]'(by rw [hyl]; decide)) := List.getElem?_eq_getElem _
  have e1 : ys[1]? = some (ys[1]'(by rw [hyl]; decide)) := List.getElem?_eq_getElem _
  have e2 : ys[2]? = some (ys[2]'(by rw [hyl]; decide)) := List.getElem?_eq_getElem _
  have e3 : ys[3]? = some (ys[3]'(by rw [hyl]; decide)) := List.getElem?_eq_getElem _
  match hcs : cs.toList, hl with
  | [v0, v1, v2, v3], _ =>
    rw [hcs] at h0 h1 h2 h3
    obtain ⟨x0, f0, _, w0⟩ := DataW.trod_int Tryd.underlying3 (show DataW.trod enc Tryd.prog W 0 (fun _ => true) true n' 3 [v0] = some _ from h0.trans e0)
    obtain ⟨x1, f1, _, w1⟩ := DataW.trod_int Tryd.underlying3 (show DataW.trod enc Tryd.prog W 0 (fun _ => true) true n' 3 [v1] = some _ from h1.trans e1)
    obtain ⟨x2, f2, _, w2⟩ := DataW.trod_int Tryd.underlying2 (show DataW.trod enc Tryd.prog W 0 (fun _ => true) true n' 2 [v2] = some _ from h2.trans e2)
    obtain ⟨x3, f3, _⟩ := DataW.trod_bool Tryd.underlying4 (show DataW.trod enc Tryd.prog W 0 (fun _ => true) true n' 4 [v3] = some _ from h3.trans e3)
    cases f0; cases f1; cases f2; cases f3
    exact ⟨x0, x1, x2, x3, by cases cs; simp_all, bounds_i64 w0, bounds_i64 w1, bounds_i64 w2⟩
end Go.Proofs.YtfmclbacoffdaaaDoor

namespace Go.Proofs.YtfmclbacoffdaaaDoor
open Go.ChangeShapes Go.WideShapes Go.ChangeAt Go.RowKit Go.Joins Go.Deep
/-- the bounds of a call's numbers -/
structure ClOk (x : Cl) : Prop where
  w : x.wh ≤ 255
  f : -9223372036854775808 ≤ x.f ∧ x.f ≤ 9223372036854775807
  t : -9223372036854775808 ≤ x.t ∧ x.t ≤ 9223372036854775807
  o : -9223372036854775808 ≤ x.o ∧ x.o ≤ 9223372036854775807
  s : -9223372036854775808 ≤ x.s ∧ x.s ≤ 9223372036854775807
  c : -9223372036854775808 ≤ x.c ∧ x.c ≤ 9223372036854775807
section
variable {H : Type} {enc : TypeId × Value → H} {W : World} {base : Nat}
set_option maxRecDepth 100000 in
/-- the cells of a call -/
theorem cells_call {fuel : Nat} {cs : List Value} {x : DataW H × List MemPlace} (hl : cs.length = 7) (hf : DataW.trod enc Tryd.prog W base (fun _ => true) true fuel 73 cs = some x) :
    ∃ x : Cl, cs = [.int .u8 (x.wh : Int), .int .i64 x.f, .int .i64 x.t, .int .i64 x.o, .int .i64 x.s, .int .i64 x.c, .bool x.g] ∧ ClOk x := by
  have hk5 : Tryd.prog.cellsOf 5 = 1 := by kernel_rfl
  have hk : Tryd.prog.cellsOf 3 = 1 := by kernel_rfl
  have hk6 : Tryd.prog.cellsOf 2 = 1 := by kernel_rfl
  have hkb : Tryd.prog.cellsOf 4 = 1 := by kernel_rfl
  have hkd : Tryd.prog.cellsOf 23 = 4 := by kernel_rfl
  obtain ⟨ys, n', _, _, _, hyl, hg⟩ := DataW.trod_struct Tryd.underlying73 hf
  have h0 : DataW.trod enc Tryd.prog W base (fun _ => true) true n' 5 ((cs.drop 0).take (Tryd.prog.cellsOf 5)) = ys[0]? := hg 0 _ rfl
  have h1 : DataW.trod enc Tryd.prog W base (fun _ => true) true n' 3 ((cs.drop 1).take (Tryd.prog.cellsOf 3)) = ys[1]? := hg 1 _ rfl
  have h2 : DataW.trod enc Tryd.prog W base (fun _ => true) true n' 3 ((cs.drop 2).take (Tryd.prog.cellsOf 3)) = ys[2]? := hg 2 _ rfl
  have h3 : DataW.trod enc Tryd.prog W base (fun _ => true) true n' 23 ((cs.drop 3).take (Tryd.prog.cellsOf 23)) = ys[3]? := hg 3 _ rfl
  rw [hk5] at h0
  rw [hk] at h1 h2
  rw [hkd] at h3
  have e0 : ys[0]? = some (ys[0]'(by rw [hyl]; decide)) := List.getElem?_eq_getElem _
  have e1 : ys[1]? = some (ys[1]'(by rw [hyl]; decide)) := List.getElem?_eq_getElem _
  have e2 : ys[2]? = some (ys[2]'(by rw [hyl]; decide)) := List.getElem?_eq_getElem _
  have e3 : ys[3]? = some (ys[3]'(by rw [hyl]; decide)) := List.getElem?_eq_getElem _
  match cs, hl with
  | [v0, v1, v2, v3, v4, v5, v6], _ =>
    obtain ⟨x0, f0, _, w0⟩ := DataW.trod_int Tryd.underlying5 (show DataW.trod enc Tryd.prog W base (fun _ => true) true n' 5 [v0] = some _ from h0.trans e0)
    obtain ⟨x1, f1, _, w1⟩ := DataW.trod_int Tryd.underlying3 (show DataW.trod enc Tryd.prog W base (fun _ => true) true n' 3 [v1] = some _ from h1.trans e1)
    obtain ⟨x2, f2, _, w2⟩ := DataW.trod_int Tryd.underlying3 (show DataW.trod enc Tryd.prog W base (fun _ => true) true n' 3 [v2] = some _ from h2.trans e2)
    obtain ⟨zs, n2, _, _, _, hzl, hz⟩ := DataW.trod_struct Tryd.underlying23 (show DataW.trod enc Tryd.prog W base (fun _ => true) true n' 23 [v3, v4, v5, v6] = some _ from h3.trans e3)
    have g0 : DataW.trod enc Tryd.prog W base (fun _ => true) true n2 3 (([v3, v4, v5, v6].drop 0).take (Tryd.prog.cellsOf 3)) = zs[0]? := hz 0 _ rfl
    have g1 : DataW.trod enc Tryd.prog W base (fun _ => true) true n2 3 (([v3, v4, v5, v6].drop 1).take (Tryd.prog.cellsOf 3)) = zs[1]? := hz 1 _ rfl
    have g2 : DataW.trod enc Tryd.prog W base (fun _ => true) true n2 2 (([v3, v4, v5, v6].drop 2).take (Tryd.prog.cellsOf 2)) = zs[2]? := hz 2 _ rfl
    have g3 : DataW.trod enc Tryd.prog W base (fun _ => true) true n2 4 (([v3, v4, v5, v6].drop 3).take (Tryd.prog.cellsOf 4)) = zs[3]? := hz 3 _ rfl
    rw [hk] at g0 g1
    rw [hk6] at g2
    rw [hkb] at g3
    have q0 : zs[0]? = some (zs[0]'(by rw [hzl]; decide)) := List.getElem?_eq_getElem _
    have q1 : zs[1]? = some (zs[1]'(by rw [hzl]; decide)) := List.getElem?_eq_getElem _
    have q2 : zs[2]? = some (zs[2]'(by rw [hzl]; decide)) := List.getElem?_eq_getElem _
    have q3 : zs[3]? = some (zs[3]'(by rw [hzl]; decide)) := List.getElem?_eq_getElem _
    obtain ⟨x3, f3, _, w3⟩ := DataW.trod_int Tryd.underlying3 (show DataW.trod enc Tryd.prog W base (fun _ => true) true n2 3 [v3] = some _ from g0.trans q0)
    obtain ⟨x4, f4, _, w4⟩ := DataW.trod_int Tryd.underlying3 (show DataW.trod enc Tryd.prog W base (fun _ => true) true n2 3 [v4] = some _ from g1.trans q1)
    obtain ⟨x5, f5, _, w5⟩ := DataW.trod_int Tryd.underlying2 (show DataW.trod enc Tryd.prog W base (fun _ => true) true n2 2 [v5] = some _ from g2.trans q2)
    obtain ⟨x6, f6, _⟩ := DataW.trod_bool Tryd.underlying4 (show DataW.trod enc Tryd.prog W base (fun _ => true) true n2 4 [v6] = some _ from g3.trans q3)
    cases f0; cases f1; cases f2; cases f3; cases f4; cases f5; cases f6
    have b0 := bounds_u8 w0
    obtain ⟨z0, rfl⟩ := Int.eq_ofNat_of_zero_le b0.1
    exact ⟨⟨z0, x1, x2, x3, x4, x5, x6⟩, rfl, ⟨by dsimp only; omega, bounds_i64 w1, bounds_i64 w2, bounds_i64 w3, bounds_i64 w4, bounds_i64 w5⟩⟩
set_option maxRecDepth 100000 in
theorem open_call {v : Value} {d : DataW H} {p : List MemPlace} (hv : Value.okWide Tryd.prog W .any base 73 v) (h : DataW.Trod enc Tryd.prog W 0 (fun _ => true) true 73 v d p) :
    ∃ x : Cl, v = .agg #[.int .u8 (x.wh : Int), .int .i64 x.f, .int .i64 x.t, .int .i64 x.o, .int .i64 x.s, .int .i64 x.c, .bool x.g] ∧ ClOk x := by
  obtain ⟨cs, rfl, hsz⟩ := okWide_struct Tryd.underlying73 hv
  have hC : Tryd.prog.cellsOf 73 = 7 := by kernel_rfl
  obtain ⟨fuel, hf⟩ := h
  have hl : cs.toList.length = 7 := by simpa using hsz.trans hC
  obtain ⟨x, hx, hb⟩ := cells_call hl hf
  exact ⟨x, by cases cs; simp_all, hb⟩
set_option maxRecDepth 100000 in
theorem open_calls7 {v : Value} {d : DataW H} {p : List MemPlace} (hv : Value.okWide Tryd.prog W .any base 32 v) (h : DataW.Trod enc Tryd.prog W 0 (fun _ => true) true 32 v d p) :
    ∃ (a : Option Addr) (n cap : Nat) (C : Nat → Cl), v = .slice a n cap ∧ SlC W a n C ∧ n ≤ 9223372036854775807 ∧ ∀ j, j < n → ClOk (C j) := by
  obtain ⟨a, l, c, rfl⟩ := okWide_slice Tryd.underlying32 hv
  have hC : Tryd.prog.cellsOf 73 = 7 := by kernel_rfl
  obtain ⟨fuel, hf⟩ := h
  rcases open_slice Tryd.underlying32 hf with ⟨h, _⟩ | ⟨A, len, cap, mm, n, D, Pl, h, _, hl, hm, hmm, _, hi⟩
  · cases h
    exact ⟨none, 0, 0, fun _ => default, rfl, .inl rfl, by decide, fun j hj => by omega⟩
  · cases h
    have hml : maxLen ≤ 9223372036854775807 := by decide
    simp only [↓reduceIte] at hmm
    have key : ∀ i, i < c → ∃ x : Cl, (∀ k, k < 7 → W.cell? (A.add (i * 7 + k)) = [Value.int .u8 (x.wh : Int), .int .i64 x.f, .int .i64 x.t, .int .i64 x.o, .int .i64 x.s, .int .i64 x.c, .bool x.g][k]?) ∧ ClOk x := by
      intro i hic
      obtain ⟨cs', hc, ht'⟩ := hi i (by omega)
      rw [hC] at hc
      obtain ⟨_, hcl, hat⟩ := World.cells?_some hc
      obtain ⟨x, hx, hb⟩ := cells_call hcl ht'
      refine ⟨x, fun k hk => ?_, hb⟩
      have := hat k hk
      rw [Go.Deep.add_add] at this
      rw [this, hx]
    have key2 : ∃ C : Nat → Cl, ∀ i, i < c → (∀ k, k < 7 → W.cell? (A.add (i * 7 + k)) = [Value.int .u8 ((C i).wh : Int), .int .i64 (C i).f, .int .i64 (C i).t, .int .i64 (C i).o, .int .i64 (C i).s, .int .i64 (C i).c, .bool (C i).g][k]?) ∧ ClOk (C i) := by
      classical
      refine ⟨fun i => if hi : i < c then Classical.choose (key i hi) else default, fun i hi => ?_⟩
      dsimp only
      rw [dif_pos hi]
      exact Classical.choose_spec (key i hi)
    obtain ⟨C, hC'⟩ := key2
    refine ⟨some A, l, c, C, rfl, ?_, by omega, fun j hj => (hC' j (by omega)).2⟩
    by_cases h0 : l = 0
    · exact .inl h0
    · have hp := (hC' 0 (by omega)).1 0 (by decide)
      obtain ⟨b, o, spot⟩ := A
      have hs : spot = none := World.cell?_spot (hp.trans rfl)
      subst hs
      have hlt : b < W.heap.size := World.block_lt_of_cell? _ _ (hp.trans rfl)
      refine .inr ⟨b, o, rfl, hlt, fun j hj => ?_⟩
      have hk := (hC' j (by omega)).1
      simp only [Go.WideShapes.add_plain] at hk
      exact ⟨hk 0 (by decide), hk 1 (by decide), hk 2 (by decide), hk 3 (by decide), hk 4 (by decide), hk 5 (by decide), hk 6 (by decide)⟩
end
end Go.Proofs.YtfmclbacoffdaaaDoor

namespace Go.Proofs.YtfmclbacoffdaaaDoor.radixCounts
open Go.ChangeShapes Go.WideShapes Go.ChangeAt Go.RowKit

set_option maxRecDepth 100000 in
theorem contract (H : Type) (enc : TypeId × Value → H) (W : World) (base : Nat) (args : Array Value) (ds gs : List (DataW H)) (before : List MemPlace)
    (hval : ∀ (j : Nat) t v, Tryd.f4.params[j]? = some t → args[j]? = some v → Value.okWide Tryd.prog W .any base t v)
    (hW : DataW.Whole enc Tryd.prog Tryd.f4.params.toList Rows.radixCountsSpec.vars false W args.toList ds gs before) (hL : laidMetH Tryd.prog Rows.radixCountsRow.laid W) :
    Calls Tryd.prog 4 args W fun e W' => ∃ v, e = .returned v ∧ Rows.radixCountsSpec.post enc Tryd.prog Tryd.f4 false true false false W args v W' := by
  have hW' := hW
  obtain ⟨p, q, hA0, hV, rfl, hfz, hnd⟩ := hW
  have hA : DataW.TrodAll enc Tryd.prog W 0 (fun _ => true) true Tryd.f4.params.toList args.toList ds p := hA0
  rw [Tryd.params4] at hA hval
  obtain ⟨v0, vs0, d0, ds0, p0, q0, hargs, rfl, rfl, h0, r0⟩ := trodAll_cons hA
  obtain ⟨v1, vs1, d1, ds1, p1, q1, rfl, rfl, rfl, h1, r1⟩ := trodAll_cons r0
  obtain ⟨rfl, rfl, rfl⟩ := trodAll_nil r1
  obtain rfl : args = #[v0, v1] := by cases args; simp_all
  obtain ⟨rfl, rfl⟩ := trodVars_none hV
  obtain ⟨x0, rfl, rfl, rfl, w0⟩ := open_int Tryd.underlying3 (hval 0 3 v0 rfl rfl) h0
  have b0 := bounds_i64 w0
  obtain ⟨a1, l1, c1, C1, rfl, hC1, ll1, cb1⟩ := open_calls7 (hval 1 32 v1 rfl rfl) h1
  refine (law_nodes x0 hC1 (tab_of hL)).mono fun e W' ⟨he, hb⟩ => ?_
  exact ⟨_, he, law_post hW' rfl (by rw [Tryd.params4]; kernel_rfl) rfl rfl rfl rfl hb⟩

theorem laid_met (os : Os) : laidMet Tryd.prog Rows.radixCountsRow.laid ((laidWorld os).forCall (fun _ _ => 0) ⟨#[], #[.int .i64 0, .slice none 0 0], []⟩).memory :=
  laidMet_of_run' 8 (by kernel_rfl) (by kernel_rfl)
theorem reads (os : Os) {H : Type} (enc : TypeId × Value → H) : ∃ places, DataW.whole enc Tryd.prog ((laidWorld os).forCall (fun _ _ => 0) ⟨#[], #[.int .i64 0, .slice none 0 0], []⟩).memory Tryd.f4.params.toList Rows.radixCountsSpec.vars false #[Value.int .i64 0, Value.slice none 0 0].toList 8 = some ([.lit (.int .i64 0), .nil], [], places) :=
  ⟨[], by kernel_rfl⟩

set_option maxRecDepth 100000 in
theorem lifted (os : Os) (started : os.Started) (H : Type) (enc : TypeId × Value → H) (F : Stop.Interp) :
    ReturnsInHanded {} Tryd.checked os 4 .any ((OpenSpec.ofChange Rows.radixCountsSpec).preRow enc Tryd.prog Tryd.f4 Rows.radixCountsRow.domain false Rows.radixCountsRow.laid) (((OpenSpec.ofChange Rows.radixCountsSpec).at F).post enc Tryd.prog Tryd.f4 false true false false) := by
  obtain ⟨places, hx⟩ := reads os enc
  refine returnsInHanded_of_row (C := Tryd.checked) (s := OpenSpec.ofChange Rows.radixCountsSpec) own started (by kernel_rfl) Tryd.func4
    (witness_row_at (enc := enc) (C := Tryd.checked) false (laidWorld os) #[.int .i64 0, .slice none 0 0] rfl (by kernel_rfl) (by kernel_rfl) (by kernel_rfl)
      (OpenSpec.preRow_of_cond 8 hx (by kernel_rfl) (fun k hk => by cases hk) (by kernel_rfl) (laid_met os))) ?_
  intro W base args ds gs before hval hW _ _ _ hL _ _
  exact contract H enc W base args ds gs before hval hW hL

theorem said : Rows.RadixCountsSaid :=
  OpenClaim.holds_of_cond 4 Tryd.f4 rfl rfl rfl rfl rfl rfl rfl ⟨rfl, rfl, rfl, rfl, rfl⟩ rfl rfl rfl rfl rfl (by kernel_rfl) Tryd.func4 (by kernel_rfl)
    (of_decide_eq_true (by kernel_rfl)) (by unfold Func.isWrapper; first | (rw [if_pos (by decide +kernel)]; kernel_rfl) | (rw [if_neg (by decide +kernel)]; exact ⟨rfl, rfl⟩))
    (fun os started H enc _ F => by rw [OpenClaim.pre_eq_preRow]; exact lifted os started H enc F)

theorem plain (f : FuncId) (fn : Func) (hf : Tryd.pinned.checked.prog.funcNamed "polder/polderlaw07.RadixCounts" = some f) (hfn : Tryd.pinned.checked.prog.funcs[f]? = some fn) :
    false = Tryd.pinned.checked.prog.looks [] ∧ ∀ (j : Nat) t, fn.params[j]? = some t → Tryd.pinned.checked.prog.wantsStandIn t = false := by
  obtain rfl : f = 4 := Option.some.inj ((show Tryd.prog.funcNamed "polder/polderlaw07.RadixCounts" = some 4 by kernel_rfl).symm.trans hf) |>.symm
  obtain rfl : fn = Tryd.f4 := (Option.some.inj (Tryd.func4.symm.trans hfn)).symm
  refine ⟨by kernel_rfl, fun j t ht => ?_⟩
  rw [Tryd.params4] at ht
  have hm : t ∈ [3, 32] := by simpa using Array.mem_of_getElem? ht
  have hall : ([3, 32].all fun u => !Tryd.prog.wantsStandIn u) = true := by kernel_rfl
  exact (show Tryd.prog.wantsStandIn t = false by simpa using List.all_eq_true.1 hall t hm)

/-- THE CARD. -/
theorem card : Rows.RadixCountsCardSaid :=
  Claim7.holds_tied_plain_at .later [] _ _ _ _ said (fun _ h => by cases h) (by kernel_rfl) (fun _ h => by cases h) radixCounts_row_tie rfl ⟨rfl, rfl⟩ (by kernel_rfl) rfl plain (by kernel_rfl)
#print axioms card
end Go.Proofs.YtfmclbacoffdaaaDoor.radixCounts
