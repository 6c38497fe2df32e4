/- The radix map: RadixWalks: a map that is refused; the walk, in which each page that is yielded is cleared. | The radix map: RadixWalks: behind the walk: the other pages have no description; another map of the same calls; its pages of the owner 5. | The radix map: RadixWalks: the pages of the owner are counted, the runs are looked at. | The frame of a statement of this seat: the table of math/bits as the row lists it. | An argument of type RmDesc, as a row hands it. | The arguments of types []Call and Call of chapter 07, as a row hands them. | RadixWalks returns true for every input, on every schedule; its arguments read afterwards as they read before. No condition beyond the row's own. -/
import Derived.Test.YtfmclbacoffdaaaDoorRWZ2
import Derived.BigFrameIn
import Derived.Test.YtfmclbacoffdaaaDoorCards
import Derived.Test.YtfmclbacoffdaaaDoorTie
import Derived.Test.YtfmclbacoffdaaaDoorRZ2
import Derived.ProofKit
import Derived.OpenShut
import Derived.Deep.DeepHandedRow
import Derived.Lib.LaidTab
import Derived.Lib.SmallJoins
import Derived.Deep.Fields
import Derived.Test.YtfmclbacoffdaaaDoorRZ10
import Derived.Deep.Slices
namespace Go.Proofs.YtfmclbacoffdaaaDoor
open Go.RowKit Go.Sort Go.Joins Go.Shelf
attribute [local go_sem] cell_grow frozen_grow size_grow Oper.semAt_some
theorem use_k7 {F : Fence} {m : Nat} {P : Program} {y : Code} {Q : Exit → Act → World → Prop} {K : Act → World → Prop} {a : Act} {w : World} (hK : ∀ a w, y.wpIn F m P Q a w → K a w) (h : y.wpIn F m P Q a w) : K a w := hK a w h
/-- behind the walk -/
structure WkAt (w W : World) (q z7 z : Nat) (X : RM) (rv : Value) (fr : Int) (A C D : Nat) : Prop where
  e : ∃ Y, WkM w W q z7 z X Y rv fr A C ∧ WkP X (max fr 0).toNat (wL X (max fr 0).toNat 1024) Y A C
  d : W.heap[D]? = some (.deferred (some []))
  dz : w.heap.size ≤ D
theorem keeps_below {W W' : World} (hb : Below W.heap.size W W') (B : Nat) : KeepsFrom B W W' := (KeepsOthers.of_grownBy (grown_of_below hb) (fun j o h => by cases h)).from B
theorem KeepsFrom.of_fr {p q B : Nat} {W W' : World} (h : Fr p q W W') (hp : p < B) (hq : q < B) : KeepsFrom B W W' :=
  ⟨h.size, fun k o hk ho _ => (h.block k (Array.getElem?_eq_some_iff.1 ho).1 (by omega) (by omega)).trans ho⟩
section
variable {w : World} {a : Option Addr} {n cap : Nat} {C : Nat → Cl}
set_option maxRecDepth 100000 in
set_option maxHeartbeats 1600000 in
theorem rwalks_nil (N fr : Int) (h : N < 1 ∨ 145 < N ∨ 40 < n) (hT : Tab w) : Calls Tryd.prog 6 #[.int .i64 N, .slice a n cap, .int .i64 fr] w fun e w' => e = .returned (.bool true) ∧ Below w.heap.size w w' := by
  have hB := below_box0 w (.cells #[.bool false] 4)
  have HB := Lib.hid hB
  have HB0 := Lib.hid (heap_alloc_new w (.cells #[.bool false] 4))
  have HM := Lib.hid (fun w => mkd_nil (w := w) (a := a) (cap := cap) N h)
  have HT := Lib.hid hT
  clear h hT hB
  go_enter Tryd.func6, Tryd.ntmps6
  go_wp2_with fail
  refine (HM.out _).mono ?_
  rintro e w1 ⟨rfl, b1⟩
  have hb0 := (b1.block _ (by simp)).trans HB0.out
  have hl0 := blk_lt hb0
  have HB1 := Lib.hid (below_tr HB.out b1)
  clear b1
  have b2 := below_box0 w1 (.cells #[.pointer none] 33)
  have HB2 := Lib.hid (below_tr HB1.out b2)
  have HC2 := Lib.hid ((b2.block _ hl0).trans hb0)
  clear hb0 hl0 b2
  go_wp2_with fail
  refine (awake_ok _ (HT.out.below HB2.out)).mono ?_
  rintro e w3 ⟨rfl, b3⟩
  have c4 := (b3.block _ (blk_lt HC2.out)).trans HC2.out
  have HB3 := Lib.hid (below_tr HB2.out b3)
  have c4c := box_cell7 c4
  have c4f := unfrozen_of_block c4 0
  clear b3
  go_wp2
  refine bodyPost_ret (v := .bool true) (by simp [results, Tryd.f6, go_sem, c4c]) rfl ⟨rfl, HB3.out.setCell (p := ⟨w.heap.size, 0, none⟩) (Nat.le_refl _) _⟩
set_option maxRecDepth 100000 in
set_option maxHeartbeats 6400000 in
noncomputable def rwA (w : World) (a : Option Addr) (n cap N : Nat) (C : Nat → Cl) (fr : Int) : { G : World → Nat → Nat → Nat → Nat → Nat → Option Addr → Nat → Nat → Prop //
    (∀ W D z7 z A CC ra rn rc, WkAt w W (w.heap.size + 1) z7 z (mkM N C n) (.slice ra rn rc) fr A CC D → rn = (rnsL (mkM N C n) (wL (mkM N C n) 0 1024)).length → G W D z7 z A CC ra rn rc) → 1 ≤ N → N ≤ 145 → n ≤ 40 → SlC w a n C → Tab w →
    Calls Tryd.prog 6 #[.int .i64 N, .slice a n cap, .int .i64 fr] w fun e w' => e = .returned (.bool true) ∧ Below w.heap.size w w' } := by
  apply Subtype.mk
  case property =>
    intro hG h1 h2 hn hC hT
    have hB := below_box0 w (.cells #[.bool false] 4)
    have HB := Lib.hid hB
    have HB0 := Lib.hid (heap_alloc_new w (.cells #[.bool false] 4))
    have HM := Lib.hid (mkd_ok (cap := cap) N h1 h2 hn (hC.below hB) (hT.below hB))
    have hGd := RGood.mkM h1 C n
    obtain ⟨X, hX⟩ : ∃ X, mkM N C n = X := ⟨_, rfl⟩
    rw [hX] at HM hGd hG
    have HG := Lib.hid hG
    have HGD := Lib.hid hGd
    clear hG hX hC hT hB h1 h2 hn hGd
    refine (callsIn_wide (n := 4)).1 ?_
    refine callsIn_of_wp_marks Tryd.func6 rfl trivial ?_ rfl
    simp only [Tryd.ntmps6, List.size_toArray, List.length_cons, List.length_nil, Nat.reduceAdd, Nat.reduceSub, Array.replicate_succ, Array.replicate_zero, List.push_toArray, List.append_toArray, List.nil_append, List.cons_append]
    gi_wp2_with fail
    have hsz : (w.alloc (.cells #[.bool false] 4)).heap.size = w.heap.size + 1 := by simp
    generalize World.alloc _ _ = W0 at HM HB HB0 hsz ⊢
    refine ⟨trivial, (callsIn_wide.2 HM.out).mono ?_⟩
    rintro e w1 ⟨rfl, m1, b1⟩
    rw [hsz] at m1 ⊢
    have M1 := Lib.hid (m1.le (show w.heap.size ≤ w.heap.size + 1 by omega))
    have B1 := Lib.hid (below_tr HB.out b1)
    have C1 := Lib.hid ((b1.block _ (by omega)).trans HB0.out)
    have hl1 := m1.lp
    clear m1 b1 HM HB HB0 hsz
    have b2 := below_box0 w1 (.cells #[.pointer (some ⟨w.heap.size + 1 + 1, 0, none⟩)] 33)
    have M2 := Lib.hid (M1.out.below b2)
    have HRN := Lib.hid (runs_ok7 M2.out HGD.out)
    have B2 := Lib.hid (below_tr B1.out b2)
    have C2 := Lib.hid ((b2.block _ (blk_lt C1.out)).trans C1.out)
    have D2 := Lib.hid (heap_alloc_new w1 (.cells #[.pointer (some ⟨w.heap.size + 1 + 1, 0, none⟩)] 33))
    clear b2 M1 B1 C1
    gi_wp2_with fail
    have hsz : (w1.alloc (.cells #[.pointer (some ⟨w.heap.size + 1 + 1, 0, none⟩)] 33)).heap.size = w1.heap.size + 1 := by simp
    generalize World.alloc _ _ = W2 at M2 HRN B2 C2 D2 hsz ⊢
    obtain ⟨z7, hz7⟩ : ∃ z, w1.heap.size = z := ⟨_, rfl⟩
    rw [hz7] at D2 hsz hl1 ⊢
    have kk7 := box_cell7 D2.out
    refine ⟨trivial, (callsIn_wide.2 HRN.out).mono ?_⟩
    rintro e w3 ⟨ra, rc, rfl, o3, b3⟩
    rw [hsz] at o3
    obtain ⟨rn, hrn⟩ : ∃ k, (rnsL X (wL X 0 1024)).length = k := ⟨_, rfl⟩
    have HRL := Lib.hid hrn
    rw [hrn] at o3 ⊢
    have M3 := Lib.hid (M2.out.below b3)
    have B3 := Lib.hid (below_tr B2.out b3)
    have C3 := Lib.hid ((b3.block _ (blk_lt C2.out)).trans C2.out)
    have D3 := Lib.hid ((b3.block _ (blk_lt D2.out)).trans D2.out)
    have O3 := Lib.hid o3
    have kk73 := box_cell7 D3.out
    have hz73 := blk_lt D3.out
    clear b3 o3 hrn M2 HRN B2 C2 D2 kk7 hz7 hsz
    gi_wp2_with fail
    refine ⟨trivial, (callsIn_wide.2 (walk_ok _ _ _)).mono ?_⟩
    rintro e w4 ⟨rfl, hw4⟩
    obtain ⟨z, hz⟩ : ∃ z, w3.heap.size = z := ⟨_, rfl⟩
    have hWM : WkM w w4 (w.heap.size + 1) z7 z X X (.slice ra rn rc) fr (max fr 0).toNat 0 := by
      have hmx : ((max fr 0).toNat : Int) = max fr 0 := by omega
      have b4 : Below w3.heap.size w3 w4 := by
        rw [← hw4]
        exact ((((Below.refl _ w3).alloc (Nat.le_refl _) _).alloc (by simp) _).alloc (by simp; omega) _).alloc (by simp; omega) _
      have N0 : ∀ (W : World) (A : Array Value) (t : TypeId) (k : Nat), k = W.heap.size → (W.alloc (.cells A t)).heap[k]? = some (.cells A t (0, 0)) := fun W A t k e => by rw [e]; exact heap_alloc_new W _
      have N : ∀ {k : Nat} {o : Obj}, w3.heap[k]? = some o → w4.heap[k]? = some o := fun ho => (b4.block _ (blk_lt ho)).trans ho
      refine ⟨M3.out.below b4, N C3.out, N D3.out, ?_, ?_, ?_, ?_, ?_, fun r e => by rw [← hz]; exact (O3.out.lt r e).2, by omega, by omega, by omega, below_tr B3.out b4⟩
      · rw [← hw4, ← hz]; refine (Below.heap_alloc _ _ _ (by simp <;> omega)).trans ?_; refine (Below.heap_alloc _ _ _ (by simp <;> omega)).trans ?_; refine (Below.heap_alloc _ _ _ (by simp <;> omega)).trans ?_; exact N0 _ _ _ _ (by simp)
      · rw [← hw4, ← hz, hmx]; refine (Below.heap_alloc _ _ _ (by simp <;> omega)).trans ?_; refine (Below.heap_alloc _ _ _ (by simp <;> omega)).trans ?_; exact N0 _ _ _ _ (by simp)
      · rw [← hw4, ← hz]; refine (Below.heap_alloc _ _ _ (by simp <;> omega)).trans ?_; exact N0 _ _ _ _ (by simp)
      · rw [← hw4, ← hz]; exact N0 _ _ _ _ (by simp)
      · rw [HRL.out]; exact own_belowW O3.out b4
    have hsz4 : z + 4 ≤ w4.heap.size := by rw [← hw4, ← hz]; simp
    have HWM := Lib.hid hWM
    have HZ := Lib.hid hz
    clear hw4 hWM M3 B3 C3 D3 O3 kk73 hz73 hz
    gi_wp2
    rw [HZ.out]
    refine wpIn_iter_box rfl (by omega) (gf := 50) (lb := #[.pointer (some ⟨z + 1 + 1, 0, none⟩), .pointer (some ⟨z + 1 + 1 + 1, 0, none⟩)]) rfl trivial (enters_of Tryd.func50 (by kernel_rfl) rfl)
      (fun pre W => ∃ Y A CC, WkM w W (w.heap.size + 1) z7 z X Y (.slice ra rn rc) fr A CC ∧ WkP X (max fr 0).toNat pre Y A CC ∧ CC ≤ pre.length)
      (walk_seq _ w.heap.size (w.heap.size + 1 + 1) (w.heap.size + 1) (z + 1 + 1) (z + 1 + 1 + 1) X fr _ ?keep _) (fun _ => rfl) (fun _ _ _ => False) ?own (fun _ _ _ _ _ hs _ _ => hs) ?start
      (fun a x Bx => { tmps := (((a.tmps.setIfInBounds 42 (.int .i64 x)).setIfInBounds 43 (getV X x)).setIfInBounds 11 (.int .i64 x)).setIfInBounds 12 (.pointer (some ⟨Bx, 0, none⟩)), defers := [] })
      (fun x Bx W => z + 4 ≤ Bx ∧ W.heap[Bx]? = some (.cells #[.int .i64 (dO X x), .int .i64 (dS X x), .int .i64 (dT X x), .bool (dH X x)] 23 (0, 0))) ?ab
      ?assign ?body ?done (fun _ _ _ _ _ h _ => h.elim)
    case keep =>
      rintro pre W ⟨Y, A, CC, hM, hP, _⟩
      refine ⟨Y, hM.t, hP.g, fun r hr hp => ?_, box_cell7 hM.bm, box_cell7 hM.bf⟩
      rw [hP.wd r hr, if_neg hp]
    case own =>
      rintro pre A B row ⟨Y, A', CC, hM, hP⟩ hg hr
      exact ⟨Y, A', CC, hM.kept (by have := hM.k.size; have := hM.o0; have := hM.o1; have := hM.o2; omega) hg hr, hP⟩
    case start => exact ⟨X, _, 0, HWM.out, WkP.start HGD.out _, Nat.zero_le _⟩
    case ab =>
      rintro x Bx s A B row ⟨h1, h3⟩ hg hr
      exact ⟨h1, blk_kept7 h3 hg (fun r e => (hr r e).2)⟩
    case assign =>
      rintro l pre x W K ⟨Y, A, CC, hM, hP⟩ hgw hK
      have hv := getV_d X x
      have henc : encW X x = #[.int .i64 x, dsV (dO X x) (dS X x) (dT X x) (dH X x)] := by unfold encW; rw [hv]
      rw [hv] at hK
      rw [henc]
      simp only [List.setIfInBounds_toArray, List.set_cons_zero, List.set_cons_succ] at hK
      have bA := below_box0 W (.cells #[.int .i64 (dO X x), .int .i64 (dS X x), .int .i64 (dT X x), .bool (dH X x)] 23)
      have hBx := heap_alloc_new W (.cells #[.int .i64 (dO X x), .int .i64 (dS X x), .int .i64 (dT X x), .bool (dH X x)] 23)
      have hlt := blk_lt hM.bf
      clear hv henc
      gi_wp2
      exact hK _ _ ((KeepsOthers.alloc _ _).from _) ⟨Y, A, CC, hM.below bA, hP⟩ ⟨by omega, hBx⟩
    case body =>
      rintro l pre x Bx W hl ⟨Y, A, CC, hM, hP, hCC⟩ ⟨hBx, hB⟩ ⟨hpre, hfx, hx1, hwx⟩
      have hff : (max fr 0).toNat = fr.toNat := by omega
      rw [hff] at hP
      have hAx := hP.at_le hpre hfx
      have hCx : CC ≤ 1024 := by
        have h2 : pre.length ≤ x := by
          rw [hpre]
          exact Nat.le_trans (List.length_filter_le _ _) (by simp)
        omega
      have HZR : Hid (∀ k, A ≤ k → k < x → getE Y (k : Int) = 4) := Lib.hid (fun k g1 g2 => by
        rw [getE_at hP.g.w (by omega), if_pos (hP.zero hpre g1 g2 (by omega))])
      have HHR := Lib.hid (get_same (X := X) (Y := Y) (p := x) (hP.here hpre hx1))
      have HEX : Hid (getE X (x : Int) = 0) := Lib.hid (by rw [getE_at HGD.out.w hx1, if_neg hwx])
      have HOW := Lib.hid (dO_own HGD.out.w hx1 hwx)
      have HPS := Lib.hid (hP.step hpre hfx hx1)
      have HYG := Lib.hid hP.g
      have HFF := Lib.hid hff
      have HPL : Hid (CC ≤ pre.length) := Lib.hid hCC
      have hM0 := hM
      have hlw := blk_lt hM.bf
      rw [getV_d]
      obtain ⟨po, hpo⟩ : ∃ y, dO X x = y := ⟨_, rfl⟩
      obtain ⟨ps, hps⟩ : ∃ y, dS X x = y := ⟨_, rfl⟩
      obtain ⟨pt, hpt⟩ : ∃ y, dT X x = y := ⟨_, rfl⟩
      obtain ⟨ph, hph⟩ : ∃ y, dH X x = y := ⟨_, rfl⟩
      rw [hpo] at HOW
      have HPV : Hid (getV X (x : Int) = dsV po ps pt ph) := Lib.hid (by rw [getV_d, hpo, hps, hpt, hph])
      rw [hpo, hps, hpt, hph] at hB ⊢
      have HM0 := Lib.hid hM
      have HB0 := Lib.hid hB
      clear hM hM0 hP hB hpre hfx hwx hCC hpo hps hpt hph hff
      simp only [List.setIfInBounds_toArray, List.set_cons_zero, List.set_cons_succ]
      gi_wp2_with fail
      gi_loopw [] (fun wr => ∃ k : Nat, A ≤ k ∧ k ≤ x ∧ Hid (WkM w wr (w.heap.size + 1) z7 z X Y (.slice ra rn rc) fr k CC) ∧ Hid (BoxD wr Bx po ps pt ph) ∧ Hid (KeepsFrom w4.heap.size W wr)) (fun wr => (1024 - atW z wr).toNat)
      case atStart => exact ⟨A, Nat.le_refl _, hAx, HM0, HB0, Lib.hid ((KeepsOthers.refl _).from _)⟩
      case round =>
        obtain ⟨k, hk1, hk2, HM, HB, HK⟩ := hrel
        have k7 := HM.out.c7
        have ka := HM.out.ca
        have lk := blk_lt HM.out.bf
        by_cases hlt : k < x
        · have i1 : (k : Int) < (x : Int) := by omega
          have HGT := Lib.hid (get_ok HM.out.t HYG.out.a HYG.out.w (k : Int))
          rw [getV_d, HZR.out k hk1 hlt] at HGT
          gi_wp2_with fail
          refine ⟨trivial, (callsIn_wide.2 HGT.out).mono ?_⟩
          rintro e w5 ⟨rfl, b5⟩
          have HB5 := Lib.hid b5
          have HM5 := Lib.hid (HM.out.below b5)
          have ka5 := HM5.out.ca
          have kf5 := HM5.out.ff
          have lk5 := blk_lt HM5.out.ba
          clear b5 HGT k7 ka lk
          gi_wp2
          have HM6 := Lib.hid (HM5.out.seta (k + 1))
          have b7 := below_box0 (w5.setCell ⟨z + 1, 0, none⟩ (.int .i64 ((k + 1 : Nat) : Int))) (.cells #[.int .i64 (dO Y k), .int .i64 (dS Y k), .int .i64 (dT Y k), .bool (dH Y k)] 23)
          have HM7 := Lib.hid (HM6.out.below b7)
          go_roundw
          case rel =>
            refine ⟨k + 1, by omega, by omega, HM7, ?_, ?_⟩
            · exact Lib.hid (BoxD.below ((Below.heap_setCell _ _ _ _ (show Bx ≠ z + 1 by omega)).trans (HB.out.below HB5.out)) b7)
            · exact Lib.hid (HK.out.trans ((keeps_below HB5.out _).trans (((KeepsOthers.setCell _ _ _).trans (KeepsOthers.alloc _ _)).from _)))
          case measure =>
            have e1 := HM7.out.at_
            have e2 := HM.out.at_
            rw [e2]
            have e3 : (((k + 1 : Nat) : Int)) = (k : Int) + 1 := by omega
            rw [e3] at e1
            rw [e1]
            omega
        · obtain rfl : k = x := by omega
          have i1 : ¬ ((k : Int) < (k : Int)) := by omega
          have HGT := Lib.hid (get_ok HM.out.t HYG.out.a HYG.out.w (k : Int))
          rw [HHR.out.1, HHR.out.2, HEX.out, HPV.out] at HGT
          have hnq := neq_desc po ps pt ph
          have hd : decide ((k : Int) < (k : Int)) = false := decide_eq_false i1
          gi_wp2_with fail
          refine ⟨trivial, (callsIn_wide.2 HGT.out).mono ?_⟩
          rintro e w5 ⟨rfl, b5⟩
          have HB5 := Lib.hid b5
          have HM5 := Lib.hid (HM.out.below b5)
          have HX5 := Lib.hid (HB.out.below b5)
          have kf5 := HM5.out.ff
          have kf9 := HM5.out.f9
          have ka5 := HM5.out.ca
          have k95 := HM5.out.c9
          have k75 := HM5.out.c7
          have lk5 := blk_lt HM5.out.ba
          have lk9 := blk_lt HM5.out.b9
          have lk7 := blk_lt HM5.out.b7
          have lkx := blk_lt HX5.out
          have x0 := HX5.out.c0
          have x1 := HX5.out.c1
          have x2 := HX5.out.c2
          have x3 := HX5.out.c3
          have z7z := HM5.out.o2
          have HPA : Hid (paE (k : Int) ((k : Int) + 1) = 0) := Lib.hid (by unfold paE; rw [if_neg (by omega)])
          clear b5 HGT k7 ka lk
          by_cases h5 : po = 5
          · have d5 : (po == 5) = true := by simpa using h5
            have HO5 := Lib.hid h5
            clear h5
            gi_wp2_with fail
            have HM8 : Hid (WkM w ((((w5.setCell ⟨z + 1, 0, none⟩ (.int .i64 ((k : Int) + 1))).setCell ⟨z, 0, none⟩ (.int .i64 ((CC : Int) + 1))).alloc (.cells #[.int .i64 po, .int .i64 ps, .int .i64 pt, .bool ph] 23))) (w.heap.size + 1) z7 z X Y (.slice ra rn rc) fr (k + 1) (CC + 1)) :=
              Lib.hid (((HM5.out.seta (k + 1)).set9 (CC + 1)).below (below_box0 _ _))
            refine ⟨trivial, (callsIn_wide.2 (clear_ok HM8.out.t HYG.out.a HM8.out.k.size _ _)).mono ?_⟩
            rintro e w9 ⟨rfl, t9, f9⟩
            rw [HPA.out]
            have HM9 := Lib.hid (HM8.out.frm f9 t9)
            have HF9 := Lib.hid f9
            clear t9 f9
            gi_wp2
            refine ⟨HK.out.trans ((keeps_below HB5.out _).trans (KeepsFrom.trans (((((KeepsOthers.setCell _ _ _).trans (KeepsOthers.setCell _ _ _)).trans (KeepsOthers.alloc _ _))).from _) (KeepsFrom.of_fr HF9.out (by omega) (by omega)))), trivial, _, k + 1, CC + 1, HM9.out, ?_, ?_⟩
            · have h := HPS.out
              rw [← HOW.out, if_pos HO5.out] at h
              rw [HFF.out]
              exact h
            · have := HPL.out
              rw [List.length_append, List.length_singleton]; omega
          · have d5 : (po == 5) = false := by simpa using h5
            have HO5 := Lib.hid h5
            clear h5
            gi_wp2_with fail
            have HM8 : Hid (WkM w (((w5.setCell ⟨z + 1, 0, none⟩ (.int .i64 ((k : Int) + 1))).alloc (.cells #[.int .i64 po, .int .i64 ps, .int .i64 pt, .bool ph] 23))) (w.heap.size + 1) z7 z X Y (.slice ra rn rc) fr (k + 1) CC) :=
              Lib.hid ((HM5.out.seta (k + 1)).below (below_box0 _ _))
            refine ⟨trivial, (callsIn_wide.2 (clear_ok HM8.out.t HYG.out.a HM8.out.k.size _ _)).mono ?_⟩
            rintro e w9 ⟨rfl, t9, f9⟩
            rw [HPA.out]
            have HM9 := Lib.hid (HM8.out.frm f9 t9)
            have HF9 := Lib.hid f9
            clear t9 f9
            gi_wp2
            refine ⟨HK.out.trans ((keeps_below HB5.out _).trans (KeepsFrom.trans ((((KeepsOthers.setCell _ _ _).trans (KeepsOthers.alloc _ _))).from _) (KeepsFrom.of_fr HF9.out (by omega) (by omega)))), trivial, _, k + 1, CC, HM9.out, ?_, ?_⟩
            · have h := HPS.out
              rw [← HOW.out, if_neg HO5.out, Nat.add_zero] at h
              rw [HFF.out]
              exact h
            · have := HPL.out
              rw [List.length_append, List.length_singleton]; omega
    case done =>
      rintro D xs W hD hS2 ⟨Y, A, CC, hM, hP, _⟩ hK
      have hS3 : xs = wL X (max fr 0).toNat 1024 := by
        have h : xs = wL X fr.toNat 1024 := hS2
        rw [h, show (max fr 0).toNat = fr.toNat by omega]
      rw [hS3] at hP
      have hat : WkAt w W (w.heap.size + 1) z7 z X (.slice ra rn rc) fr A CC D := ⟨⟨Y, hM, hP⟩, hK, by have := hM.o0; have := hM.o1; have := hM.o2; omega⟩
      have HAT := Lib.hid hat
      clear hat hM hP hK hS2 hS3 hD
      (try simp only [Exit.inBlock, Exit.then])
      refine use_k7 (by assumption) ?_
      refine wpIn_wide.2 ?_
      try dsimp +zetaDelta only
      exact HG.out W D z7 z A CC ra rn rc HAT.out HRL.out.symm
end
end Go.Proofs.YtfmclbacoffdaaaDoor

namespace Go.Proofs.YtfmclbacoffdaaaDoor
open Go.RowKit Go.Sort Go.Joins Go.Shelf
attribute [local go_sem] cell_grow frozen_grow size_grow Oper.semAt_some
theorem wp_then_mono {P : Program} {x y : Code} {K : Act → World → Prop} {Q : Exit → Act → World → Prop} {a : Act} {w : World} (hK : ∀ a w, y.wp P Q a w → K a w) (h : x.wp P (Exit.then (y.wp P Q) Q) a w) : x.wp P (Exit.then K Q) a w :=
  wp_mono h fun e a w hq => by
    cases e with
    | normal => exact hK _ _ hq
    | exit i => exact hq
    | goto i => exact hq
    | ret => exact hq
    | panic c => exact hq
    | outgrown => exact hq
/-- what lies in memory behind the walk -/
structure WtM (w W : World) (D z g : Nat) (CC : Nat) (X : RM) (ra : Option Addr) (rn rc : Nat) (a5 : Option Addr) (l5 c5 : Nat) : Prop where
  t : TM W g (g + 1) g X.st X.m X.r
  b0 : W.heap[w.heap.size]? = some (.cells #[.bool false] 4 (0, 0))
  b9 : W.heap[z]? = some (.cells #[.int .i64 CC] 3 (0, 0))
  d : W.heap[D]? = some (.deferred (some []))
  ow : W.ownsRow w.heap.size 56 6 (.slice ra rn rc) rn (rcL X (rnsL X (wL X 0 1024)))
  o5 : W.ownsRow w.heap.size 3 1 (.slice a5 l5 c5) l5 (pgV (owL X 5 (wL X 0 1024)))
  dz : w.heap.size ≤ D
  k : Below w.heap.size w W
theorem WtM.below {w W W' : World} {D z g CC : Nat} {X : RM} {ra a5 : Option Addr} {rn rc l5 c5 : Nat} (h : WtM w W D z g CC X ra rn rc a5 l5 c5) (hb : Below W.heap.size W W') : WtM w W' D z g CC X ra rn rc a5 l5 c5 := by
  have N : ∀ {k : Nat} {o : Obj}, W.heap[k]? = some o → W'.heap[k]? = some o := fun ho => (hb.block _ (Array.getElem?_eq_some_iff.1 ho).1).trans ho
  exact ⟨h.t.below hb, N h.b0, N h.b9, N h.d, own_belowW h.ow hb, own_belowW h.o5 hb, h.dz, below_tr h.k hb⟩
section
variable {w : World} {a : Option Addr} {n cap : Nat} {C : Nat → Cl}
set_option maxRecDepth 100000 in
set_option maxHeartbeats 6400000 in
noncomputable def rwB (w : World) (a : Option Addr) (n cap N : Nat) (C : Nat → Cl) (fr : Int) (W : World) (D z7 z A CC : Nat) (ra : Option Addr) (rn rc : Nat) : { G : World → Nat → Option Addr → Nat → Nat → Nat → Value → Value → Value → Value → Value → Value → Value → Value → Value → Value → Value → Value → Prop //
    (∀ V g a5 l5 c5 at_ u17 u18 u90 u91 u92 u93 u94 u95 u96 u97 u98 u99, WtM w V D z g CC (mkM N C n) ra rn rc a5 l5 c5 → l5 = (owL (mkM N C n) 5 (wL (mkM N C n) 0 1024)).length → CC = (owL (mkM N C n) 5 (wL (mkM N C n) (max fr 0).toNat 1024)).length → G V g a5 l5 c5 at_ u17 u18 u90 u91 u92 u93 u94 u95 u96 u97 u98 u99) →
    WkAt w W (w.heap.size + 1) z7 z (mkM N C n) (.slice ra rn rc) fr A CC D → rn = (rnsL (mkM N C n) (wL (mkM N C n) 0 1024)).length → 1 ≤ N → N ≤ 145 → n ≤ 40 → SlC w a n C → Tab w → (rwA w a n cap N C fr).1 W D z7 z A CC ra rn rc } := by
  apply Subtype.mk
  case property =>
    intro hG hA hrn h1 h2 hn hC hT
    have HGR := Lib.hid (RGood.mkM h1 C n)
    obtain ⟨⟨Y, hM, hP⟩, hK, hDZ⟩ := hA
    have HDZ := Lib.hid hDZ
    have HRN := Lib.hid hrn
    have HMD := Lib.hid (fun W (b : Below w.heap.size w W) => mkd_ok (w := W) (cap := cap) N h1 h2 hn (hC.below b) (hT.below b))
    obtain ⟨X, hX⟩ : ∃ X, mkM N C n = X := ⟨_, rfl⟩
    rw [hX] at HGR hM hP HRN HMD hG
    have HG := Lib.hid hG
    have HZR : Hid (∀ k, A ≤ k → k < 1024 → getE Y (k : Int) = 4) := Lib.hid (fun k g1 g2 => by
      rw [getE_at hP.g.w g2, if_pos (hP.zero rfl g1 g2 g2)])
    have HYG := Lib.hid hP.g
    have HCC := Lib.hid hP.c
    have HM0 := Lib.hid hM
    have HK0 := Lib.hid hK
    clear hM hP hK hDZ hX hrn h1 h2 hn hC hT hG
    unfold rwA
    dsimp only
    go_wp2_with fail
    go_loopw [] (fun wr => ∃ k : Nat, A ≤ k ∧ Hid (WkM w wr (w.heap.size + 1) z7 z X Y (.slice ra rn rc) fr k CC) ∧ Hid (wr.heap[D]? = some (.deferred (some [])))) (fun wr => (1024 - atW z wr).toNat)
    case atStart => exact ⟨A, Nat.le_refl _, HM0, HK0⟩
    case round =>
      obtain ⟨k, hk1, HM, HD⟩ := hrel
      have k7 := HM.out.c7
      have ka := HM.out.ca
      have lk := blk_lt HM.out.bf
      by_cases hlt : k < 1024
      · have i1 : (k : Int) < 1024 := by omega
        have HGT := Lib.hid (get_ok HM.out.t HYG.out.a HYG.out.w (k : Int))
        rw [getV_d, HZR.out k hk1 hlt] at HGT
        go_wp2_with fail
        refine HGT.out.mono ?_
        rintro e w5 ⟨rfl, b5⟩
        have HB5 := Lib.hid b5
        have HM5 := Lib.hid (HM.out.below b5)
        have HD5 := Lib.hid ((b5.block _ (Array.getElem?_eq_some_iff.1 HD.out).1).trans HD.out)
        have ka5 := HM5.out.ca
        have kf5 := HM5.out.ff
        have lk5 := blk_lt HM5.out.ba
        clear b5 HGT k7 ka lk
        go_wp2
        have HM6 := Lib.hid (HM5.out.seta (k + 1))
        have b7 := below_box0 (w5.setCell ⟨z + 1, 0, none⟩ (.int .i64 ((k + 1 : Nat) : Int))) (.cells #[.int .i64 (dO Y k), .int .i64 (dS Y k), .int .i64 (dT Y k), .bool (dH Y k)] 23)
        have HM7 := Lib.hid (HM6.out.below b7)
        have hdz : D ≠ z + 1 := fun e => by have h1 := HD5.out; rw [e, HM5.out.ba] at h1; cases h1
        go_roundw
        case rel =>
          refine ⟨k + 1, by omega, HM7, ?_⟩
          exact Lib.hid ((b7.block _ (by rw [World.size_setCell]; exact (Array.getElem?_eq_some_iff.1 HD5.out).1)).trans ((Below.heap_setCell _ _ _ _ hdz).trans HD5.out))
        case measure =>
          have e1 := HM7.out.at_
          have e2 := HM.out.at_
          rw [e2]
          have e3 : (((k + 1 : Nat) : Int)) = (k : Int) + 1 := by omega
          rw [e3] at e1
          rw [e1]
          omega
      · have i1 : ¬ ((k : Int) < 1024) := by omega
        have HMK := Lib.hid (HMD.out wr HM.out.k)
        go_wp2_with fail
        refine HMK.out.mono ?_
        rintro e w5 ⟨rfl, m5, b5⟩
        have HM5 := Lib.hid (HM.out.below b5)
        have HD5 := Lib.hid ((b5.block _ (Array.getElem?_eq_some_iff.1 HD.out).1).trans HD.out)
        obtain ⟨g, hg⟩ : ∃ g, wr.heap.size = g := ⟨_, rfl⟩
        rw [hg] at m5 ⊢
        have HT5 := Lib.hid m5
        have HOW := Lib.hid (owned_in m5 HGR.out 5 (by omega) (by omega))
        clear m5 b5 hg HMK k7 ka lk
        go_wp2_with fail
        refine HOW.out.mono ?_
        rintro e w6 ⟨a5, c5, rfl, o5, b6⟩
        obtain ⟨l5, hl5⟩ : ∃ l, (owL X 5 (wL X 0 1024)).length = l := ⟨_, rfl⟩
        rw [hl5] at o5 ⊢
        have hWT : WtM w w6 D z g CC X ra rn rc a5 l5 c5 := by
          have h6 := HM5.out.below b6
          refine ⟨HT5.out.below b6, h6.b0, h6.b9, (b6.block _ (Array.getElem?_eq_some_iff.1 HD5.out).1).trans HD5.out, ?_, ownsRow_le o5 HM5.out.k.size, HDZ.out, h6.k⟩
          rw [HRN.out]
          have := h6.ow
          rw [HRN.out] at this
          exact ownsRow_le this (by have := h6.o0; have := h6.o1; omega)
        have HWT := Lib.hid hWT
        have HL5 := Lib.hid hl5
        clear hWT o5 b6 HOW hl5
        go_upto_region 30 with fail
        refine wp_then_mono (by assumption) ?_
        dsimp +zetaDelta only
        exact HG.out w6 g a5 l5 c5 k u17 u18 u90 u91 u92 u93 u94 u95 u96 u97 u98 u99 HWT.out HL5.out.symm HCC.out
end
end Go.Proofs.YtfmclbacoffdaaaDoor

namespace Go.Proofs.YtfmclbacoffdaaaDoor
open Go.RowKit Go.Sort Go.Joins Go.Shelf
attribute [local go_sem] cell_grow frozen_grow size_grow Oper.semAt_some
theorem below_six (W : World) (f t o s c : Int) (g : Bool) : (W.alloc (.cells #[.int .i64 f, .int .i64 t, .int .i64 o, .int .i64 s, .int .i64 c, .bool g] 56)).heap[W.heap.size]? = some (.cells #[.int .i64 f, .int .i64 t, .int .i64 o, .int .i64 s, .int .i64 c, .bool g] 56 (0, 0)) := heap_alloc_new W _
/-- a box that holds a run -/
abbrev BoxR (W : World) (b : Nat) (f t : Nat) (o s c : Int) (g : Bool) : Prop := W.heap[b]? = some (.cells #[.int .i64 f, .int .i64 t, .int .i64 o, .int .i64 s, .int .i64 c, .bool g] 56 (0, 0))
section
variable {W : World} {b f t : Nat} {o s c : Int} {g : Bool}
theorem BoxR.c0 (h : BoxR W b f t o s c g) : W.cell? ⟨b, 0, none⟩ = some (.int .i64 f) := by rw [cell_of_block h]; rfl
theorem BoxR.c1 (h : BoxR W b f t o s c g) : W.cell? ⟨b, 1, none⟩ = some (.int .i64 t) := by rw [cell_of_block h]; rfl
theorem BoxR.c2 (h : BoxR W b f t o s c g) : W.cell? ⟨b, 2, none⟩ = some (.int .i64 o) := by rw [cell_of_block h]; rfl
theorem BoxR.c3 (h : BoxR W b f t o s c g) : W.cell? ⟨b, 2 + 1, none⟩ = some (.int .i64 s) := by rw [cell_of_block h]; rfl
theorem BoxR.c4 (h : BoxR W b f t o s c g) : W.cell? ⟨b, 2 + 2, none⟩ = some (.int .i64 c) := by rw [cell_of_block h]; rfl
theorem BoxR.c5 (h : BoxR W b f t o s c g) : W.cell? ⟨b, 2 + 3, none⟩ = some (.bool g) := by rw [cell_of_block h]; rfl
theorem BoxR.below {W' : World} (h : BoxR W b f t o s c g) (hb : Below W.heap.size W W') : BoxR W' b f t o s c g := (hb.block _ (blk_lt h)).trans h
end
section
variable {w : World} {a : Option Addr} {n cap : Nat} {C : Nat → Cl}
set_option maxRecDepth 100000 in
set_option maxHeartbeats 6400000 in
theorem rwC (N : Nat) (fr : Int) (W V : World) (D z7 z A CC : Nat) (ra : Option Addr) (rn rc g : Nat) (a5 : Option Addr) (l5 c5 k0 : Nat) (u17 u18 u90 u91 u92 u93 u94 u95 u96 u97 u98 u99 : Value)
    (hA : WtM w V D z g CC (mkM N C n) ra rn rc a5 l5 c5) (h5 : l5 = (owL (mkM N C n) 5 (wL (mkM N C n) 0 1024)).length) (hcc : CC = (owL (mkM N C n) 5 (wL (mkM N C n) (max fr 0).toNat 1024)).length)
    (hrn : rn = (rnsL (mkM N C n) (wL (mkM N C n) 0 1024)).length) (h1 : 1 ≤ N) (hT : Tab w) : (rwB w a n cap N C fr W D z7 z A CC ra rn rc).1 V g a5 l5 c5 k0 u17 u18 u90 u91 u92 u93 u94 u95 u96 u97 u98 u99 := by
  have HGR := Lib.hid (RGood.mkM h1 C n)
  obtain ⟨X, hX⟩ : ∃ X, mkM N C n = X := ⟨_, rfl⟩
  rw [hX] at HGR hA h5 hcc hrn
  obtain ⟨L5, hL5⟩ : ∃ L, owL X 5 (wL X 0 1024) = L := ⟨_, rfl⟩
  have hA5 := hA.o5
  rw [hL5] at h5 hA5
  have hall : cntG fr L5 l5 = CC := by
    rw [hcc, ← own_from X 5 fr _ rfl, hL5, h5]
    exact cntG_all fr L5
  have hl5 : l5 ≤ 1024 := by
    rw [h5, ← hL5]
    exact Nat.le_trans (List.length_filter_le _ _) (Nat.le_trans (List.length_filter_le _ _) (by simp))
  have HRO := Lib.hid (rnsL_ok X 1024)
  have hrl : rn ≤ 1024 := by
    have h1 := rnsL_len X (wL X 0 1024)
    have h2 : (wL X 0 1024).length ≤ 1024 := Nat.le_trans (List.length_filter_le _ _) (by simp)
    omega
  obtain ⟨L, hL⟩ : ∃ L, rnsL X (wL X 0 1024) = L := ⟨_, rfl⟩
  rw [hL] at HRO hrn
  have HL := Lib.hid hL
  have HA := Lib.hid hA
  have HA5 := Lib.hid hA5
  have HL5 := Lib.hid h5
  have HALL := Lib.hid hall
  have HRL := Lib.hid hrn
  have HT := Lib.hid hT
  clear hA hA5 h5 hall hcc hrn hX hL hL5 h1 hT
  unfold rwB
  dsimp only
  go_wp2
  go_loop [22, 23] (fun m i => ∃ k : Nat, k ≤ l5 ∧ i = .int .i64 k ∧ m = .int .i64 ((cntG fr L5 k : Nat) : Int)) (fun _ i => l5 - (intOf i).toNat)
  case atStart => exact ⟨0, Nat.zero_le _, rfl, rfl⟩
  case round =>
    obtain ⟨k, hk, rfl, rfl⟩ := hrel
    have hcl := cntG_le fr L5 k
    rw [← HL5.out] at hcl
    by_cases hlt : k < l5
    · have i1 : (k : Int) < (l5 : Int) := by omega
      have i0 : (0 : Int) ≤ (k : Int) := by omega
      have HS := Lib.hid (cntG_succ fr L5 (k := k) (by rw [← HL5.out]; exact hlt))
      obtain ⟨g5, cap5, hv⟩ := ownsRow_form HA5.out (by omega)
      cases hv
      have c0 : V.cell? ⟨g5, k, none⟩ = some (.int .i64 ((L5.getD k 0 : Nat) : Int)) := by
        rw [HA5.out.cellAt k (by omega), pgV_get L5 (by rw [← HL5.out]; exact hlt)]
      obtain ⟨y, hy⟩ : ∃ y, L5.getD k 0 = y := ⟨_, rfl⟩
      rw [hy] at c0 HS
      have HY := Lib.hid hy
      obtain ⟨cn, hcn⟩ : ∃ c, cntG fr L5 k = c := ⟨_, rfl⟩
      rw [hcn] at HS hcl ⊢
      clear hy hcn
      by_cases hge : fr ≤ (y : Int)
      · have HG := Lib.hid hge
        go_wp2
        go_round
        case rel => exact ⟨k + 1, by omega, by go_num, by rw [HS.out, if_pos HG.out]; go_num⟩
        case measure => simp [intOf]; omega
      · have HG := Lib.hid hge
        go_wp2
        go_round
        case rel => exact ⟨k + 1, by omega, by go_num, by rw [HS.out, if_neg HG.out]; rfl⟩
        case measure => simp [intOf]; omega
    · obtain rfl : k = l5 := by omega
      have i1 : ¬ ((k : Int) < (k : Int)) := by omega
      rw [HALL.out] at hcl ⊢
      obtain ⟨l5, hl5'⟩ : ∃ l, k = l := ⟨_, rfl⟩
      subst hl5'
      clear hk hcl
      go_wp2
      go_loopw [24] (fun v wr => ∃ i : Nat, i ≤ rn ∧ v = .int .i64 i ∧ Hid (WtM w wr D z g CC X ra rn rc a5 k c5)) (fun v _ => rn - (intOf v).toNat)
      case atStart => exact ⟨0, Nat.zero_le _, rfl, HA⟩
      case round =>
        clear HA HA5 HL5 HALL
        obtain ⟨i, hi, rfl, HM⟩ := hrel
        by_cases hlt : i < rn
        · have hO := HM.out.ow
          rw [HL.out] at hO
          obtain ⟨gr, capr, hv⟩ := ownsRow_form hO (by omega)
          cases hv
          have hgl := (hO.lt gr rfl).2
          have HC : Hid (∀ j e, j < rn → e < 6 → wr.cell? ⟨gr, j * 6 + e, none⟩ = (rgC X (L.getD j rg0))[e]?) := Lib.hid (fun j e hj he => by
            rw [hO.cellAt (j * 6 + e) (by omega), rcL_get X L j e (by rw [← HRL.out]; exact hj) he])
          have hlt' : i < L.length := by rw [← HRL.out]; exact hlt
          have hft := HRO.out.lt i hlt'
          have ht := HRO.out.le i hlt'
          have HWD := Lib.hid (HRO.out.wd i hlt')
          have hways : i = 0 ∨ (∃ j f' t', i = j + 1 ∧ Hid (L.getD j rg0 = (f', t')) ∧ t' < (L.getD i rg0).1) ∨ (∃ j f' t', i = j + 1 ∧ Hid (L.getD j rg0 = (f', t')) ∧ t' = (L.getD i rg0).1 ∧ dsame X f' (L.getD i rg0).1 = false) := by
            by_cases c0 : i = 0
            · exact .inl c0
            · obtain ⟨j, rfl⟩ : ∃ j, i = j + 1 := ⟨i - 1, by omega⟩
              have h1 := HRO.out.up j hlt'
              have h2 := HRO.out.ne j hlt'
              obtain ⟨f', t', e⟩ : ∃ f' t', L.getD j rg0 = (f', t') := ⟨_, _, rfl⟩
              rw [e] at h1 h2
              by_cases c1 : t' = (L.getD (j + 1) rg0).1
              · exact .inr (.inr ⟨j, f', t', rfl, Lib.hid e, c1, h2 c1⟩)
              · exact .inr (.inl ⟨j, f', t', rfl, Lib.hid e, by dsimp only at h1; omega⟩)
          obtain ⟨f, t, hL⟩ : ∃ f t, L.getD i rg0 = (f, t) := ⟨_, _, rfl⟩
          have HLI := Lib.hid hL
          rw [hL] at hft ht HWD hways
          dsimp only at hft ht hways
          obtain ⟨fo, hfo⟩ : ∃ y, dO X f = y := ⟨_, rfl⟩
          obtain ⟨fs, hfs⟩ : ∃ y, dS X f = y := ⟨_, rfl⟩
          obtain ⟨ftt, hftt⟩ : ∃ y, dT X f = y := ⟨_, rfl⟩
          obtain ⟨fh, hfh⟩ : ∃ y, dH X f = y := ⟨_, rfl⟩
          have q0 : wr.cell? ⟨gr, i * 6, none⟩ = some (.int .i64 f) := by have := HC.out i 0 hlt (by omega); rw [hL] at this; exact this
          have q1 : wr.cell? ⟨gr, i * 6 + 1, none⟩ = some (.int .i64 t) := by have := HC.out i 1 hlt (by omega); rw [hL] at this; exact this
          have q2 : wr.cell? ⟨gr, i * 6 + 2, none⟩ = some (.int .i64 fo) := by have := HC.out i 2 hlt (by omega); rw [hL] at this; rw [← hfo]; exact this
          have q3 : wr.cell? ⟨gr, i * 6 + 3, none⟩ = some (.int .i64 fs) := by have := HC.out i 3 hlt (by omega); rw [hL] at this; rw [← hfs]; exact this
          have q4 : wr.cell? ⟨gr, i * 6 + 4, none⟩ = some (.int .i64 ftt) := by have := HC.out i 4 hlt (by omega); rw [hL] at this; rw [← hftt]; exact this
          have q5 : wr.cell? ⟨gr, i * 6 + 5, none⟩ = some (.bool fh) := by have := HC.out i 5 hlt (by omega); rw [hL] at this; rw [← hfh]; exact this
          have HFV : Hid (getV X (f : Int) = dsV fo fs ftt fh) := Lib.hid (by rw [getV_d, hfo, hfs, hftt, hfh])
          have HDS : Hid (∀ f', dsame X f' f = (dO X f' == fo && (dS X f' == fs && (dT X f' == ftt && dH X f' == fh)))) := Lib.hid (fun f' => by unfold dsame; rw [hfo, hfs, hftt, hfh])
          have i1 : (i : Int) < (rn : Int) := by omega
          have i0 : (0 : Int) ≤ (i : Int) := by omega
          have b1 := below_box0 wr (.cells #[.int .i64 f, .int .i64 t, .int .i64 fo, .int .i64 fs, .int .i64 ftt, .bool fh] 56)
          have HB1 := Lib.hid b1
          have HBX := Lib.hid (below_six wr f t fo fs ftt fh)
          have HM1 := Lib.hid (HM.out.below b1)
          have HGL := Lib.hid hgl
          clear hO hL hfo hfs hftt hfh b1 HM hlt'
          go_upto_region 40 with fail
          obtain ⟨V1, hV1⟩ : ∃ W, wr.alloc (.cells #[.int .i64 f, .int .i64 t, .int .i64 fo, .int .i64 fs, .int .i64 ftt, .bool fh] 56) = W := ⟨_, rfl⟩
          rw [hV1] at HB1 HBX HM1 ⊢
          have HC1 : Hid (∀ j e, j < rn → e < 6 → V1.cell? ⟨gr, j * 6 + e, none⟩ = (rgC X (L.getD j rg0))[e]?) := Lib.hid (fun j e hj he => (HB1.out.cell (p := ⟨gr, j * 6 + e, none⟩) HGL.out).trans (HC.out j e hj he))
          obtain ⟨g25, hg25⟩ : ∃ g, wr.heap.size = g := ⟨_, rfl⟩
          rw [hg25] at HBX ⊢
          have z0 := BoxR.c0 HBX.out
          have z1 := BoxR.c1 HBX.out
          have z2 := BoxR.c2 HBX.out
          have z3 := BoxR.c3 HBX.out
          have z4 := BoxR.c4 HBX.out
          have z5 := BoxR.c5 HBX.out
          have d1 : decide ((t : Int) ≤ (f : Int)) = false := by simp; omega
          have d1' : decide (t ≤ f) = false := by simp; omega
          clear q0 q1 q2 q3 q4 q5 HC hV1 hg25 hgl
          refine hways.elim ?wa (fun h => h.elim ?wb ?wc)
          case' wa =>
            intro hi0
            have d2 : decide ((0 : Int) < (i : Int)) = false := by simp; omega
            have d2' : decide (0 < i) = false := by simp; omega
            clear hways hi0
            go_quiet (fail)
          case' wb =>
            rintro ⟨j, f', t', hij, HJ, hlt2⟩
            have hy : IntKind.i64.wrap ((i : Int) - 1) = (j : Int) := by rw [IntWalk.i64_in _ (by omega)]; omega
            have d2 : decide ((0 : Int) < (i : Int)) = true := by simp; omega
            have d2' : decide (0 < i) = true := by simp; omega
            have r1 : V1.cell? ⟨gr, j * 6 + 1, none⟩ = some (.int .i64 t') := by have := HC1.out j 1 (by omega) (by omega); rw [HJ.out] at this; exact this
            have d3 : decide ((f : Int) < (t' : Int)) = false := by simp; omega
            have d3' : decide (f < t') = false := by simp; omega
            have d4 : ((t' : Int) == (f : Int)) = false := by simp; omega
            have j0 : (0 : Int) ≤ (j : Int) := by omega
            have j1 : (j : Int) < (rn : Int) := by omega
            clear hways hij hlt2
            go_quiet (fail)
          case' wc =>
            rintro ⟨j, f', t', hij, HJ, hlt2, hds⟩
            have hy : IntKind.i64.wrap ((i : Int) - 1) = (j : Int) := by rw [IntWalk.i64_in _ (by omega)]; omega
            have d2 : decide ((0 : Int) < (i : Int)) = true := by simp; omega
            have d2' : decide (0 < i) = true := by simp; omega
            have r1 : V1.cell? ⟨gr, j * 6 + 1, none⟩ = some (.int .i64 t') := by have := HC1.out j 1 (by omega) (by omega); rw [HJ.out] at this; exact this
            have r2 : V1.cell? ⟨gr, j * 6 + 2, none⟩ = some (.int .i64 (dO X f')) := by have := HC1.out j 2 (by omega) (by omega); rw [HJ.out] at this; exact this
            have r3 : V1.cell? ⟨gr, j * 6 + 2 + 1, none⟩ = some (.int .i64 (dS X f')) := by have := HC1.out j 3 (by omega) (by omega); rw [HJ.out] at this; exact this
            have r4 : V1.cell? ⟨gr, j * 6 + 2 + 2, none⟩ = some (.int .i64 (dT X f')) := by have := HC1.out j 4 (by omega) (by omega); rw [HJ.out] at this; exact this
            have r5 : V1.cell? ⟨gr, j * 6 + 2 + 3, none⟩ = some (.bool (dH X f')) := by have := HC1.out j 5 (by omega) (by omega); rw [HJ.out] at this; exact this
            have d3 : decide ((f : Int) < (t' : Int)) = false := by simp; omega
            have d3' : decide (f < t') = false := by simp; omega
            have d4 : ((t' : Int) == (f : Int)) = true := by simp; omega
            have heq : ∀ W : World, Sem.run Tryd.prog (binOp .eql 23 (dsV (dO X f') (dS X f') (dT X f') (dH X f')) (dsV fo fs ftt fh)) W = .ok (.bool false) W := fun W => by rw [eql_descB, ← HDS.out f', hds]
            have j0 : (0 : Int) ≤ (j : Int) := by omega
            have j1 : (j : Int) < (rn : Int) := by omega
            clear hways hij hlt2 hds
            go_quiet (fail)
          all_goals
            obtain ⟨V2, hV2⟩ : ∃ W, V1.drewN nq = W := ⟨_, rfl⟩
            have hb2 := below_draw V1 nq
            rw [hV2] at hb2 ⊢
            have HM2 := Lib.hid (HM1.out.below hb2)
            have HX2 := Lib.hid (BoxR.below HBX.out hb2)
            clear hV2 hb2 z0 z1 z2 z3 z4 z5
            try clear r1 d4
            try clear r2 r3 r4 r5 heq
            have z0 := BoxR.c0 HX2.out
            have z1 := BoxR.c1 HX2.out
            have hmx : max (f : Int) 0 = (f : Int) := by omega
            go_wp2
            go_loopw [26] (fun v wq => ∃ y : Nat, f ≤ y ∧ y ≤ t ∧ v = .int .i64 y ∧ Hid (WtM w wq D z g CC X (some ⟨gr, 0, none⟩) rn rc a5 k c5) ∧ Hid (BoxR wq g25 f t fo fs ftt fh)) (fun v _ => t - (intOf v).toNat)
            case atStart => exact ⟨f, Nat.le_refl _, by omega, rfl, HM2, HX2⟩
            case round =>
              clear HM1 HBX HB1 HC1 HM2 HX2 z0 z1 hmx
              obtain ⟨y, hy1, hy2, rfl, HMq, HXq⟩ := hrel
              have z1 := BoxR.c1 HXq.out
              by_cases hyt : y < t
              · have HGT := Lib.hid (get_ok HMq.out.t HGR.out.a HGR.out.w (y : Int))
                obtain ⟨w1, w2⟩ := HWD.out y hy1 hyt
                rw [← (dsame_iff X f y).1 w2, HFV.out, getE_at HGR.out.w (show y < 1024 by omega), if_neg w1] at HGT
                have hnq := neq_desc fo fs ftt fh
                have i1' : (y : Int) < (t : Int) := by omega
                have i2' : (y : Int) < 1024 := by omega
                clear w1 w2
                go_wp2_with fail
                refine HGT.out.mono ?_
                rintro e w5 ⟨rfl, b5⟩
                have HM5 := Lib.hid (HMq.out.below (below_tr b5 (below_box0 w5 (.cells #[.int .i64 fo, .int .i64 fs, .int .i64 ftt, .bool fh] 23))))
                have HX5 := Lib.hid (BoxR.below HXq.out b5)
                have HX6 := Lib.hid (BoxR.below HXq.out (below_tr b5 (below_box0 w5 (.cells #[.int .i64 fo, .int .i64 fs, .int .i64 ftt, .bool fh] 23))))
                have lk := blk_lt HX5.out
                have z2 := BoxR.c2 HX5.out
                have z3 := BoxR.c3 HX5.out
                have z4 := BoxR.c4 HX5.out
                have z5 := BoxR.c5 HX5.out
                clear b5 HGT z1
                go_wp2
                go_roundw
                case rel => exact ⟨y + 1, by omega, by omega, by go_num, HM5, HX6⟩
                case measure => simp [intOf]; omega
              · obtain rfl : y = t := by omega
                have i1' : ¬ ((y : Int) < (y : Int)) := by omega
                go_wp2
                go_roundw
                case rel => exact ⟨i + 1, by omega, by go_num, HMq⟩
                case measure => simp [intOf]; omega
        · obtain rfl : i = rn := by omega
          have i1 : ¬ ((i : Int) < (i : Int)) := by omega
          have k9 := box_cell7 HM.out.b9
          have hq : ((CC : Int) == (CC : Int)) = true := by simp
          have HTB := Lib.hid (HT.out.below HM.out.k)
          go_wp2_with fail
          refine (awake_ok _ HTB.out).mono ?_
          rintro e w5 ⟨rfl, b5⟩
          have HM5 := Lib.hid (HM.out.below b5)
          have c4c := box_cell7 HM5.out.b0
          have c4f := unfrozen_of_block HM5.out.b0 0
          clear b5 HM k9 hq HTB
          go_wp2
          have hb6 : (w5.setCell ⟨w.heap.size, 0, none⟩ (.bool true)).heap[w.heap.size]? = some (.cells #[.bool true] 4 (0, 0)) := (setCell_block HM5.out.b0 _).trans (by simp)
          have hK' := (KeepsOthers.setCell w5 ⟨w.heap.size, 0, none⟩ (.bool true)).same D _ HM5.out.d rfl
          refine ⟨by simp, .inl ⟨_, _, rfl, run_takeDeferred hK', ?_⟩⟩
          have hg := grownBy_putObj' (w5.setCell ⟨w.heap.size, 0, none⟩ (.bool true)) D (.deferred none)
          have hr : ∀ r, some D = some r → ∃ o : Obj, (w5.setCell ⟨w.heap.size, 0, none⟩ (.bool true)).heap[r]? = some o ∧ o.isCells = false := fun r e => by cases e; exact ⟨_, hK', rfl⟩
          have r4 := box_cell7 (blk_kept7 hb6 hg hr)
          have hdz := HM5.out.dz
          have hsz := HM5.out.k.size
          refine ⟨.bool true, ?_, rfl, (HM5.out.k.setCell (p := ⟨w.heap.size, 0, none⟩) (Nat.le_refl _) _).grown hg (by rw [World.size_setCell]; exact hsz) (fun r e => by cases e; omega)⟩
          simp [results, Tryd.f6, go_sem, r4]
/-- RadixWalks returns true -/
theorem law_rwalks (N fr : Int) (hC : SlC w a n C) (hT : Tab w) : Calls Tryd.prog 6 #[.int .i64 N, .slice a n cap, .int .i64 fr] w fun e w' => e = .returned (.bool true) ∧ Below w.heap.size w w' := by
  by_cases h : N < 1 ∨ 145 < N ∨ 40 < n
  · exact rwalks_nil N fr h hT
  · obtain ⟨N', rfl⟩ := Int.eq_ofNat_of_zero_le (show 0 ≤ N by omega)
    have h1 : 1 ≤ N' := by omega
    have h2 : N' ≤ 145 := by omega
    have h3 : n ≤ 40 := by omega
    exact (rwA w a n cap N' C fr).2 (fun W D z7 z A CC ra rn rc hA hrn => (rwB w a n cap N' C fr W D z7 z A CC ra rn rc).2 (fun V g a5 l5 c5 k0 u17 u18 u90 u91 u92 u93 u94 u95 u96 u97 u98 u99 hV h5 hcc =>
      rwC N' fr W V D z7 z A CC ra rn rc g a5 l5 c5 k0 u17 u18 u90 u91 u92 u93 u94 u95 u96 u97 u98 u99 hV h5 hcc hrn h1 hT) hA hrn h1 h2 h3 hC hT) h1 h2 h3 hC hT
end
end Go.Proofs.YtfmclbacoffdaaaDoor

namespace Go.Proofs.YtfmclbacoffdaaaDoor
open Go.ChangeShapes Go.WideShapes Go.ChangeAt Go.RowKit

theorem own : ownKnob Tryd.prog.godebug = none := by kernel_rfl
theorem gTab : Tryd.prog.globalNamed "math/bits.deBruijn64tab" = some 0 := by kernel_rfl
theorem gTabType : (Tryd.prog.globals[0]?).map (·.type) = some 129 := by kernel_rfl
theorem cellsTab : Tryd.prog.cellsOf 129 = 64 := by kernel_rfl
theorem cellsU8 : Tryd.prog.cellsOf 5 = 1 := by kernel_rfl

theorem tab_of {W : World} (h : laidMetH Tryd.prog [("math/bits.deBruijn64tab", Rows.laid_math_bits_deBruijn64tab)] W) : Tab W := by
  have ht : Lib.TabIs Tryd.prog W "math/bits.deBruijn64tab" .u8 (Lib.deBruijn64tab.map fun (x : Nat) => (x : Int)) :=
    Lib.tabIs_of_head (rest := []) gTab gTabType Tryd.underlying129 Tryd.underlying5 cellsU8 cellsTab h
  intro i hi
  have := ht.cell gTab i (by rw [List.length_map]; exact hi)
  rw [this]
  have e : (Lib.deBruijn64tab.map fun (x : Nat) => (x : Int)).getD i 0 = ((Lib.deBruijn64tab.getD i 0 : Nat) : Int) := by
    have h64 : Lib.deBruijn64tab.length = 64 := rfl
    simp [List.getD_eq_getElem?_getD, h64, hi]
  rw [e]

/-- A world for the witness: the settled one, the table holding what its initialiser lays. -/
noncomputable def laidWorld (os : Os) : World :=
  { World.holding Tryd.prog os ⟨#[], #[], []⟩ with heap := (World.holding Tryd.prog os ⟨#[], #[], []⟩).heap.modify 0 fun
      | .cells _ t frozen => .cells (Lib.deBruijn64tab.map fun (x : Nat) => Value.int .u8 (x : Int)).toArray t frozen
      | o => o }
theorem laidOut : laidOutB Tryd.prog = true := by kernel_rfl

theorem trodAll_below {H : Type} {enc : TypeId × Value → H} {W W' : World} (hb : Below W.heap.size W W') (ts : List TypeId) : ∀ (vs : List Value) (ds : List (DataW H)) (ps : List MemPlace),
    (ts.all fun t => Tryd.prog.readableRec t && decide (t < Tryd.prog.types.size)) = true → (∀ x ∈ ps, x.block < W.heap.size) → DataW.TrodAll enc Tryd.prog W 0 (fun _ => true) true ts vs ds ps →
    DataW.TrodAll enc Tryd.prog W' 0 (fun b => decide (b < W.heap.size)) true ts vs ds ps := by
  induction ts with
  | nil =>
    intro vs ds ps _ _ h
    obtain ⟨rfl, rfl, rfl⟩ := trodAll_nil h
    exact trodAll_mk0
  | cons t ts ih =>
    intro vs ds ps hr hlt h
    obtain ⟨v, vs', d, ds', p, q, rfl, rfl, rfl, h1, h2⟩ := trodAll_cons h
    rw [List.all_cons, Bool.and_eq_true, Bool.and_eq_true] at hr
    exact trodAll_cons_mk (Below.trod laidOut hr.1.1 (of_decide_eq_true hr.1.2) h1 hb (fun x hx => hlt x (List.mem_append_left _ hx))) (ih vs' ds' q hr.2 (fun x hx => hlt x (List.mem_append_right _ hx)) h2)

/-- WHAT A LAW's WALK GIVES THE ROW: true, the arguments read as they did. -/
theorem law_post {H : Type} {enc : TypeId × Value → H} {fn : Func} {s : ChangeSpec} {W W' : World} {args : Array Value} {ds gs : List (DataW H)} {before : List MemPlace}
    (hW : DataW.Whole enc Tryd.prog fn.params.toList s.vars false W args.toList ds gs before) (hv : s.vars = []) (hr : (fn.params.toList.all fun t => Tryd.prog.readableRec t && decide (t < Tryd.prog.types.size)) = true) (hrt : fn.resultTypes = #[4])
    (h1 : (s.fn H (ds ++ gs)).results = [.lit (.bool true)]) (h2 : (s.fn H (ds ++ gs)).args = ds) (h3 : (s.fn H (ds ++ gs)).vars = []) (hb : Below W.heap.size W W') :
    s.post enc Tryd.prog fn false true false false W args (.bool true) W' := by
  have hW' := hW
  have hlt := hW.lt
  obtain ⟨p, q, hA, hV, rfl, hfz, hnd⟩ := hW
  refine ⟨ds, gs, p ++ q, [], p, [], hW', ?_, ?_, ?_, hb.frame _, fun h => by cases h⟩
  · rw [h1, hrt]
    exact trodAll_cons_mk (shut_bool Tryd.underlying4 _) trodAll_mk0
  · rw [h2]
    exact trodAll_below hb _ _ _ _ hr (fun x hx => hlt x (List.mem_append_left _ hx)) hA
  · rw [h3, hv]; rfl
end Go.Proofs.YtfmclbacoffdaaaDoor

namespace Go.Proofs.YtfmclbacoffdaaaDoor
open Go.ChangeShapes Go.WideShapes Go.ChangeAt Go.RowKit Go.Joins
set_option maxRecDepth 100000 in
theorem open_desc {H : Type} {enc : TypeId × Value → H} {W : World} {base : Nat} {v : Value} {d : DataW H} {p : List MemPlace} (hv : Value.okWide Tryd.prog W .any base 23 v) (h : DataW.Trod enc Tryd.prog W 0 (fun _ => true) true 23 v d p) :
    ∃ (o s t : Int) (g : Bool), v = .agg #[.int .i64 o, .int .i64 s, .int .i64 t, .bool g] ∧ (-9223372036854775808 ≤ o ∧ o ≤ 9223372036854775807) ∧ (-9223372036854775808 ≤ s ∧ s ≤ 9223372036854775807) ∧ (-9223372036854775808 ≤ t ∧ t ≤ 9223372036854775807) := by
  obtain ⟨cs, rfl, hsz⟩ := okWide_struct Tryd.underlying23 hv
  have hC : Tryd.prog.cellsOf 23 = 4 := by kernel_rfl
  have hk : Tryd.prog.cellsOf 3 = 1 := by kernel_rfl
  have hk6 : Tryd.prog.cellsOf 2 = 1 := by kernel_rfl
  have hkb : Tryd.prog.cellsOf 4 = 1 := by kernel_rfl
  obtain ⟨fuel, hf⟩ := h
  have hl : cs.toList.length = 4 := by simpa using hsz.trans hC
  obtain ⟨ys, n', _, _, _, hyl, hg⟩ := DataW.trod_struct Tryd.underlying23 hf
  have h0 : DataW.trod enc Tryd.prog W 0 (fun _ => true) true n' 3 ((cs.toList.drop 0).take (Tryd.prog.cellsOf 3)) = ys[0]? := hg 0 _ rfl
  have h1 : DataW.trod enc Tryd.prog W 0 (fun _ => true) true n' 3 ((cs.toList.drop 1).take (Tryd.prog.cellsOf 3)) = ys[1]? := hg 1 _ rfl
  have h2 : DataW.trod enc Tryd.prog W 0 (fun _ => true) true n' 2 ((cs.toList.drop 2).take (Tryd.prog.cellsOf 2)) = ys[2]? := hg 2 _ rfl
  have h3 : DataW.trod enc Tryd.prog W 0 (fun _ => true) true n' 4 ((cs.toList.drop 3).take (Tryd.prog.cellsOf 4)) = ys[3]? := hg 3 _ rfl
  rw [hk] at h0 h1
  rw [hk6] at h2
  rw [hkb] at h3
  have e0 : ys[0]? = some (ys[0]'(by rw [hyl]; decide)) := List.getElem?_eq_getElem _
  have e1 : ys[1]? = some (ys[1]'(by rw [hyl]; decide)) := List.getElem?_eq_getElem _
  have e2 : ys[2]? = some (ys[2]'(by rw [hyl]; decide)) := List.getElem?_eq_getElem _
  have e3 : ys[3]? = some (ys[3]'(by rw [hyl]; decide)) := List.getElem?_eq_getElem _
  match hcs : cs.toList, hl with
  | [v0, v1, v2, v3], _ =>
    rw [hcs] at h0 h1 h2 h3
    obtain ⟨x0, f0, _, w0⟩ := DataW.trod_int Tryd.underlying3 (show DataW.trod enc Tryd.prog W 0 (fun _ => true) true n' 3 [v0] = some _ from h0.trans e0)
    obtain ⟨x1, f1, _, w1⟩ := DataW.trod_int Tryd.underlying3 (show DataW.trod enc Tryd.prog W 0 (fun _ => true) true n' 3 [v1] = some _ from h1.trans e1)
    obtain ⟨x2, f2, _, w2⟩ := DataW.trod_int Tryd.underlying2 (show DataW.trod enc Tryd.prog W 0 (fun _ => true) true n' 2 [v2] = some _ from h2.trans e2)
    obtain ⟨x3, f3, _⟩ := DataW.trod_bool Tryd.underlying4 (show DataW.trod enc Tryd.prog W 0 (fun _ => true) true n' 4 [v3] = some _ from h3.trans e3)
    cases f0; cases f1; cases f2; cases f3
    exact ⟨x0, x1, x2, x3, by cases cs; simp_all, bounds_i64 w0, bounds_i64 w1, bounds_i64 w2⟩
end Go.Proofs.YtfmclbacoffdaaaDoor

namespace Go.Proofs.YtfmclbacoffdaaaDoor
open Go.ChangeShapes Go.WideShapes Go.ChangeAt Go.RowKit Go.Joins Go.Deep
/-- the bounds of a call's numbers -/
structure ClOk (x : Cl) : Prop where
  w : x.wh ≤ 255
  f : -9223372036854775808 ≤ x.f ∧ x.f ≤ 9223372036854775807
  t : -9223372036854775808 ≤ x.t ∧ x.t ≤ 9223372036854775807
  o : -9223372036854775808 ≤ x.o ∧ x.o ≤ 9223372036854775807
  s : -9223372036854775808 ≤ x.s ∧ x.s ≤ 9223372036854775807
  c : -9223372036854775808 ≤ x.c ∧ x.c ≤ 9223372036854775807
section
variable {H : Type} {enc : TypeId × Value → H} {W : World} {base : Nat}
set_option maxRecDepth 100000 in
/-- the cells of a call -/
theorem cells_call {fuel : Nat} {cs : List Value} {x : DataW H × List MemPlace} (hl : cs.length = 7) (hf : DataW.trod enc Tryd.prog W base (fun _ => true) true fuel 73 cs = some x) :
    ∃ x : Cl, cs = [.int .u8 (x.wh : Int), .int .i64 x.f, .int .i64 x.t, .int .i64 x.o, .int .i64 x.s, .int .i64 x.c, .bool x.g] ∧ ClOk x := by
  have hk5 : Tryd.prog.cellsOf 5 = 1 := by kernel_rfl
  have hk : Tryd.prog.cellsOf 3 = 1 := by kernel_rfl
  have hk6 : Tryd.prog.cellsOf 2 = 1 := by kernel_rfl
  have hkb : Tryd.prog.cellsOf 4 = 1 := by kernel_rfl
  have hkd : Tryd.prog.cellsOf 23 = 4 := by kernel_rfl
  obtain ⟨ys, n', _, _, _, hyl, hg⟩ := DataW.trod_struct Tryd.underlying73 hf
  have h0 : DataW.trod enc Tryd.prog W base (fun _ => true) true n' 5 ((cs.drop 0).take (Tryd.prog.cellsOf 5)) = ys[0]? := hg 0 _ rfl
  have h1 : DataW.trod enc Tryd.prog W base (fun _ => true) true n' 3 ((cs.drop 1).take (Tryd.prog.cellsOf 3)) = ys[1]? := hg 1 _ rfl
  have h2 : DataW.trod enc Tryd.prog W base (fun _ => true) true n' 3 ((cs.drop 2).take (Tryd.prog.cellsOf 3)) = ys[2]? := hg 2 _ rfl
  have h3 : DataW.trod enc Tryd.prog W base (fun _ => true) true n' 23 ((cs.drop 3).take (Tryd.prog.cellsOf 23)) = ys[3]? := hg 3 _ rfl
  rw [hk5] at h0
  rw [hk] at h1 h2
  rw [hkd] at h3
  have e0 : ys[0]? = some (ys[0]'(by rw [hyl]; decide)) := List.getElem?_eq_getElem _
  have e1 : ys[1]? = some (ys[1]'(by rw [hyl]; decide)) := List.getElem?_eq_getElem _
  have e2 : ys[2]? = some (ys[2]'(by rw [hyl]; decide)) := List.getElem?_eq_getElem _
  have e3 : ys[3]? = some (ys[3]'(by rw [hyl]; decide)) := List.getElem?_eq_getElem _
  match cs, hl with
  | [v0, v1, v2, v3, v4, v5, v6], _ =>
    obtain ⟨x0, f0, _, w0⟩ := DataW.trod_int Tryd.underlying5 (show DataW.trod enc Tryd.prog W base (fun _ => true) true n' 5 [v0] = some _ from h0.trans e0)
    obtain ⟨x1, f1, _, w1⟩ := DataW.trod_int Tryd.underlying3 (show DataW.trod enc Tryd.prog W base (fun _ => true) true n' 3 [v1] = some _ from h1.trans e1)
    obtain ⟨x2, f2, _, w2⟩ := DataW.trod_int Tryd.underlying3 (show DataW.trod enc Tryd.prog W base (fun _ => true) true n' 3 [v2] = some _ from h2.trans e2)
    obtain ⟨zs, n2, _, _, _, hzl, hz⟩ := DataW.trod_struct Tryd.underlying23 (show DataW.trod enc Tryd.prog W base (fun _ => true) true n' 23 [v3, v4, v5, v6] = some _ from h3.trans e3)
    have g0 : DataW.trod enc Tryd.prog W base (fun _ => true) true n2 3 (([v3, v4, v5, v6].drop 0).take (Tryd.prog.cellsOf 3)) = zs[0]? := hz 0 _ rfl
    have g1 : DataW.trod enc Tryd.prog W base (fun _ => true) true n2 3 (([v3, v4, v5, v6].drop 1).take (Tryd.prog.cellsOf 3)) = zs[1]? := hz 1 _ rfl
    have g2 : DataW.trod enc Tryd.prog W base (fun _ => true) true n2 2 (([v3, v4, v5, v6].drop 2).take (Tryd.prog.cellsOf 2)) = zs[2]? := hz 2 _ rfl
    have g3 : DataW.trod enc Tryd.prog W base (fun _ => true) true n2 4 (([v3, v4, v5, v6].drop 3).take (Tryd.prog.cellsOf 4)) = zs[3]? := hz 3 _ rfl
    rw [hk] at g0 g1
    rw [hk6] at g2
    rw [hkb] at g3
    have q0 : zs[0]? = some (zs[0]'(by rw [hzl]; decide)) := List.getElem?_eq_getElem _
    have q1 : zs[1]? = some (zs[1]'(by rw [hzl]; decide)) := List.getElem?_eq_getElem _
    have q2 : zs[2]? = some (zs[2]'(by rw [hzl]; decide)) := List.getElem?_eq_getElem _
    have q3 : zs[3]? = some (zs[3]'(by rw [hzl]; decide)) := List.getElem?_eq_getElem _
    obtain ⟨x3, f3, _, w3⟩ := DataW.trod_int Tryd.underlying3 (show DataW.trod enc Tryd.prog W base (fun _ => true) true n2 3 [v3] = some _ from g0.trans q0)
    obtain ⟨x4, f4, _, w4⟩ := DataW.trod_int Tryd.underlying3 (show DataW.trod enc Tryd.prog W base (fun _ => true) true n2 3 [v4] = some _ from g1.trans q1)
    obtain ⟨x5, f5, _, w5⟩ := DataW.trod_int Tryd.underlying2 (show DataW.trod enc Tryd.prog W base (fun _ => true) true n2 2 [v5] = some _ from g2.trans q2)
    obtain ⟨x6, f6, _⟩ := DataW.trod_bool Tryd.underlying4 (show DataW.trod enc Tryd.prog W base (fun _ => true) true n2 4 [v6] = some _ from g3.trans q3)
    cases f0; cases f1; cases f2; cases f3; cases f4; cases f5; cases f6
    have b0 := bounds_u8 w0
    obtain ⟨z0, rfl⟩ := Int.eq_ofNat_of_zero_le b0.1
    exact ⟨⟨z0, x1, x2, x3, x4, x5, x6⟩, rfl, ⟨by dsimp only; omega, bounds_i64 w1, bounds_i64 w2, bounds_i64 w3, bounds_i64 w4, bounds_i64 w5⟩⟩
set_option maxRecDepth 100000 in
theorem open_call {v : Value} {d : DataW H} {p : List MemPlace} (hv : Value.okWide Tryd.prog W .any base 73 v) (h : DataW.Trod enc Tryd.prog W 0 (fun _ => true) true 73 v d p) :
    ∃ x : Cl, v = .agg #[.int .u8 (x.wh : Int), .int .i64 x.f, .int .i64 x.t, .int .i64 x.o, .int .i64 x.s, .int .i64 x.c, .bool x.g] ∧ ClOk x := by
  obtain ⟨cs, rfl, hsz⟩ := okWide_struct Tryd.underlying73 hv
  have hC : Tryd.prog.cellsOf 73 = 7 := by kernel_rfl
  obtain ⟨fuel, hf⟩ := h
  have hl : cs.toList.length = 7 := by simpa using hsz.trans hC
  obtain ⟨x, hx, hb⟩ := cells_call hl hf
  exact ⟨x, by cases cs; simp_all, hb⟩
set_option maxRecDepth 100000 in
theorem open_calls7 {v : Value} {d : DataW H} {p : List MemPlace} (hv : Value.okWide Tryd.prog W .any base 32 v) (h : DataW.Trod enc Tryd.prog W 0 (fun _ => true) true 32 v d p) :
    ∃ (a : Option Addr) (n cap : Nat) (C : Nat → Cl), v = .slice a n cap ∧ SlC W a n C ∧ n ≤ 9223372036854775807 ∧ ∀ j, j < n → ClOk (C j) := by
  obtain ⟨a, l, c, rfl⟩ := okWide_slice Tryd.underlying32 hv
  have hC : Tryd.prog.cellsOf 73 = 7 := by kernel_rfl
  obtain ⟨fuel, hf⟩ := h
  rcases open_slice Tryd.underlying32 hf with ⟨h, _⟩ | ⟨A, len, cap, mm, n, D, Pl, h, _, hl, hm, hmm, _, hi⟩
  · cases h
    exact ⟨none, 0, 0, fun _ => default, rfl, .inl rfl, by decide, fun j hj => by omega⟩
  · cases h
    have hml : maxLen ≤ 9223372036854775807 := by decide
    simp only [↓reduceIte] at hmm
    have key : ∀ i, i < c → ∃ x : Cl, (∀ k, k < 7 → W.cell? (A.add (i * 7 + k)) = [Value.int .u8 (x.wh : Int), .int .i64 x.f, .int .i64 x.t, .int .i64 x.o, .int .i64 x.s, .int .i64 x.c, .bool x.g][k]?) ∧ ClOk x := by
      intro i hic
      obtain ⟨cs', hc, ht'⟩ := hi i (by omega)
      rw [hC] at hc
      obtain ⟨_, hcl, hat⟩ := World.cells?_some hc
      obtain ⟨x, hx, hb⟩ := cells_call hcl ht'
      refine ⟨x, fun k hk => ?_, hb⟩
      have := hat k hk
      rw [Go.Deep.add_add] at this
      rw [this, hx]
    have key2 : ∃ C : Nat → Cl, ∀ i, i < c → (∀ k, k < 7 → W.cell? (A.add (i * 7 + k)) = [Value.int .u8 ((C i).wh : Int), .int .i64 (C i).f, .int .i64 (C i).t, .int .i64 (C i).o, .int .i64 (C i).s, .int .i64 (C i).c, .bool (C i).g][k]?) ∧ ClOk (C i) := by
      classical
      refine ⟨fun i => if hi : i < c then Classical.choose (key i hi) else default, fun i hi => ?_⟩
      dsimp only
      rw [dif_pos hi]
      exact Classical.choose_spec (key i hi)
    obtain ⟨C, hC'⟩ := key2
    refine ⟨some A, l, c, C, rfl, ?_, by omega, fun j hj => (hC' j (by omega)).2⟩
    by_cases h0 : l = 0
    · exact .inl h0
    · have hp := (hC' 0 (by omega)).1 0 (by decide)
      obtain ⟨b, o, spot⟩ := A
      have hs : spot = none := World.cell?_spot (hp.trans rfl)
      subst hs
      have hlt : b < W.heap.size := World.block_lt_of_cell? _ _ (hp.trans rfl)
      refine .inr ⟨b, o, rfl, hlt, fun j hj => ?_⟩
      have hk := (hC' j (by omega)).1
      simp only [Go.WideShapes.add_plain] at hk
      exact ⟨hk 0 (by decide), hk 1 (by decide), hk 2 (by decide), hk 3 (by decide), hk 4 (by decide), hk 5 (by decide), hk 6 (by decide)⟩
end
end Go.Proofs.YtfmclbacoffdaaaDoor

namespace Go.Proofs.YtfmclbacoffdaaaDoor.radixWalks
open Go.ChangeShapes Go.WideShapes Go.ChangeAt Go.RowKit

set_option maxRecDepth 100000 in
theorem contract (H : Type) (enc : TypeId × Value → H) (W : World) (base : Nat) (args : Array Value) (ds gs : List (DataW H)) (before : List MemPlace)
    (hval : ∀ (j : Nat) t v, Tryd.f6.params[j]? = some t → args[j]? = some v → Value.okWide Tryd.prog W .any base t v)
    (hW : DataW.Whole enc Tryd.prog Tryd.f6.params.toList Rows.radixWalksSpec.vars false W args.toList ds gs before) (hL : laidMetH Tryd.prog Rows.radixWalksRow.laid W) :
    Calls Tryd.prog 6 args W fun e W' => ∃ v, e = .returned v ∧ Rows.radixWalksSpec.post enc Tryd.prog Tryd.f6 false true false false W args v W' := by
  have hW' := hW
  obtain ⟨p, q, hA0, hV, rfl, hfz, hnd⟩ := hW
  have hA : DataW.TrodAll enc Tryd.prog W 0 (fun _ => true) true Tryd.f6.params.toList args.toList ds p := hA0
  rw [Tryd.params6] at hA hval
  obtain ⟨v0, vs0, d0, ds0, p0, q0, hargs, rfl, rfl, h0, r0⟩ := trodAll_cons hA
  obtain ⟨v1, vs1, d1, ds1, p1, q1, rfl, rfl, rfl, h1, r1⟩ := trodAll_cons r0
  obtain ⟨v2, vs2, d2, ds2, p2, q2, rfl, rfl, rfl, h2, r2⟩ := trodAll_cons r1
  obtain ⟨rfl, rfl, rfl⟩ := trodAll_nil r2
  obtain rfl : args = #[v0, v1, v2] := by cases args; simp_all
  obtain ⟨rfl, rfl⟩ := trodVars_none hV
  obtain ⟨x0, rfl, rfl, rfl, w0⟩ := open_int Tryd.underlying3 (hval 0 3 v0 rfl rfl) h0
  have b0 := bounds_i64 w0
  obtain ⟨a1, l1, c1, C1, rfl, hC1, ll1, cb1⟩ := open_calls7 (hval 1 32 v1 rfl rfl) h1
  obtain ⟨x2, rfl, rfl, rfl, w2⟩ := open_int Tryd.underlying3 (hval 2 3 v2 rfl rfl) h2
  have b2 := bounds_i64 w2
  refine (law_rwalks x0 x2 hC1 (tab_of hL)).mono fun e W' ⟨he, hb⟩ => ?_
  exact ⟨_, he, law_post hW' rfl (by rw [Tryd.params6]; kernel_rfl) rfl rfl rfl rfl hb⟩

theorem laid_met (os : Os) : laidMet Tryd.prog Rows.radixWalksRow.laid ((laidWorld os).forCall (fun _ _ => 0) ⟨#[], #[.int .i64 0, .slice none 0 0, .int .i64 0], []⟩).memory :=
  laidMet_of_run' 8 (by kernel_rfl) (by kernel_rfl)
theorem reads (os : Os) {H : Type} (enc : TypeId × Value → H) : ∃ places, DataW.whole enc Tryd.prog ((laidWorld os).forCall (fun _ _ => 0) ⟨#[], #[.int .i64 0, .slice none 0 0, .int .i64 0], []⟩).memory Tryd.f6.params.toList Rows.radixWalksSpec.vars false #[Value.int .i64 0, Value.slice none 0 0, Value.int .i64 0].toList 8 = some ([.lit (.int .i64 0), .nil, .lit (.int .i64 0)], [], places) :=
  ⟨[], by kernel_rfl⟩

set_option maxRecDepth 100000 in
theorem lifted (os : Os) (started : os.Started) (H : Type) (enc : TypeId × Value → H) (F : Stop.Interp) :
    ReturnsInHanded {} Tryd.checked os 6 .any ((OpenSpec.ofChange Rows.radixWalksSpec).preRow enc Tryd.prog Tryd.f6 Rows.radixWalksRow.domain false Rows.radixWalksRow.laid) (((OpenSpec.ofChange Rows.radixWalksSpec).at F).post enc Tryd.prog Tryd.f6 false true false false) := by
  obtain ⟨places, hx⟩ := reads os enc
  refine returnsInHanded_of_row (C := Tryd.checked) (s := OpenSpec.ofChange Rows.radixWalksSpec) own started (by kernel_rfl) Tryd.func6
    (witness_row_at (enc := enc) (C := Tryd.checked) false (laidWorld os) #[.int .i64 0, .slice none 0 0, .int .i64 0] rfl (by kernel_rfl) (by kernel_rfl) (by kernel_rfl)
      (OpenSpec.preRow_of_cond 8 hx (by kernel_rfl) (fun k hk => by cases hk) (by kernel_rfl) (laid_met os))) ?_
  intro W base args ds gs before hval hW _ _ _ hL _ _
  exact contract H enc W base args ds gs before hval hW hL

theorem said : Rows.RadixWalksSaid :=
  OpenClaim.holds_of_cond 6 Tryd.f6 rfl rfl rfl rfl rfl rfl rfl ⟨rfl, rfl, rfl, rfl, rfl⟩ rfl rfl rfl rfl rfl (by kernel_rfl) Tryd.func6 (by kernel_rfl)
    (of_decide_eq_true (by kernel_rfl)) (by unfold Func.isWrapper; first | (rw [if_pos (by decide +kernel)]; kernel_rfl) | (rw [if_neg (by decide +kernel)]; exact ⟨rfl, rfl⟩))
    (fun os started H enc _ F => by rw [OpenClaim.pre_eq_preRow]; exact lifted os started H enc F)

theorem plain (f : FuncId) (fn : Func) (hf : Tryd.pinned.checked.prog.funcNamed "polder/polderlaw07.RadixWalks" = some f) (hfn : Tryd.pinned.checked.prog.funcs[f]? = some fn) :
    false = Tryd.pinned.checked.prog.looks [] ∧ ∀ (j : Nat) t, fn.params[j]? = some t → Tryd.pinned.checked.prog.wantsStandIn t = false := by
  obtain rfl : f = 6 := Option.some.inj ((show Tryd.prog.funcNamed "polder/polderlaw07.RadixWalks" = some 6 by kernel_rfl).symm.trans hf) |>.symm
  obtain rfl : fn = Tryd.f6 := (Option.some.inj (Tryd.func6.symm.trans hfn)).symm
  refine ⟨by kernel_rfl, fun j t ht => ?_⟩
  rw [Tryd.params6] at ht
  have hm : t ∈ [3, 32, 3] := by simpa using Array.mem_of_getElem? ht
  have hall : ([3, 32, 3].all fun u => !Tryd.prog.wantsStandIn u) = true := by kernel_rfl
  exact (show Tryd.prog.wantsStandIn t = false by simpa using List.all_eq_true.1 hall t hm)

/-- THE CARD. -/
theorem card : Rows.RadixWalksCardSaid :=
  Claim7.holds_tied_plain_at .later [] _ _ _ _ said (fun _ h => by cases h) (by kernel_rfl) (fun _ h => by cases h) radixWalks_row_tie rfl ⟨rfl, rfl⟩ (by kernel_rfl) rfl plain (by kernel_rfl)
#print axioms card
end Go.Proofs.YtfmclbacoffdaaaDoor.radixWalks
