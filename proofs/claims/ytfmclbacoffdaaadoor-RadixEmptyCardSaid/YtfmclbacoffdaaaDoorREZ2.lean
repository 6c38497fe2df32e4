/- The radix map: Same of the reference. | The radix map: sizes, slices.Clone of numbers. | The radix map: Save. | The radix map: RadixEmpty returns true. | The frame of a statement of this seat: the table of math/bits as the row lists it. -/
import Derived.Test.YtfmclbacoffdaaaDoorREZ1
import Derived.Deep.RegionHeld3
import Derived.Deep.DrawnRows
import Derived.Deep.RegionLaw
import Derived.Lib.SmallJoins
import Derived.Deep.MidRow
import Derived.Test.YtfmclbacoffdaaaDoorCards
import Derived.Test.YtfmclbacoffdaaaDoorTie
import Derived.Test.YtfmclbacoffdaaaDoorRZ2
import Derived.ProofKit
import Derived.OpenShut
import Derived.Deep.DeepHandedRow
import Derived.Lib.LaidTab
namespace Go.Proofs.YtfmclbacoffdaaaDoor
open Go.RowKit Go.Sort Go.Joins
attribute [local go_sem] cell_grow frozen_grow size_grow
attribute [local go_sem ↓] Go.wp_at_zero Go.wp_at_succ
deriving instance DecidableEq for Rn
/-- are two states equal? -/
def smS (m1 m2 : Int) (S1 S2 : List Rn) : Bool := decide (m1 = m2 ∧ S1 = S2)
theorem list_ext0 {α : Type} {d : α} {l1 l2 : List α} (hl : l1.length = l2.length) (h : ∀ j, j < l1.length → l1.getD j d = l2.getD j d) : l1 = l2 := by
  refine List.ext_getElem hl fun i h1 h2 => ?_
  have := h i h1
  simpa [List.getD, h1, h2] using this
theorem smS_yes {m1 m2 : Int} {S1 S2 : List Rn} (hm : m1 = m2) (hl : S1.length = S2.length) (h : ∀ j, j < S1.length → S1.getD j rn0 = S2.getD j rn0) : smS m1 m2 S1 S2 = true := by
  unfold smS
  exact decide_eq_true ⟨hm, list_ext0 hl h⟩
theorem smS_no {m1 m2 : Int} {S1 S2 : List Rn} (h : ¬ (m1 = m2 ∧ S1 = S2)) : smS m1 m2 S1 S2 = false := decide_eq_false h
/-- two boxes of nodes -/
structure Bx2 (w : World) (b : Nat) (x : Rn) (ka : Option Addr) (kc : Nat) (ua : Option Addr) (uc : Nat) : Prop where
  h : w.heap[b]? = some (.cells #[.int .i64 x.lv, .slice ka x.ks.length kc, .slice ua x.ws.length uc] 60 (0, 0))
  k : SlN w ka x.ks.length (kdV x)
  w : SlN w ua x.ws.length (wdV x)
theorem Bx2.below {w w' : World} {b : Nat} {x : Rn} {ka : Option Addr} {kc : Nat} {ua : Option Addr} {uc : Nat} (h : Bx2 w b x ka kc ua uc) (hb : Below w.heap.size w w') : Bx2 w' b x ka kc ua uc :=
  ⟨(hb.block _ (blk_lt h.h)).trans h.h, h.k.below hb, h.w.below hb⟩
theorem Bx2.c0 {w : World} {b : Nat} {x : Rn} {ka : Option Addr} {kc : Nat} {ua : Option Addr} {uc : Nat} (h : Bx2 w b x ka kc ua uc) : w.cell? ⟨b, 0, none⟩ = some (.int .i64 x.lv) := by rw [cell_of_block h.h]; rfl
theorem Bx2.c1 {w : World} {b : Nat} {x : Rn} {ka : Option Addr} {kc : Nat} {ua : Option Addr} {uc : Nat} (h : Bx2 w b x ka kc ua uc) : w.cell? ⟨b, 1, none⟩ = some (.slice ka x.ks.length kc) := by rw [cell_of_block h.h]; rfl
theorem Bx2.c2 {w : World} {b : Nat} {x : Rn} {ka : Option Addr} {kc : Nat} {ua : Option Addr} {uc : Nat} (h : Bx2 w b x ka kc ua uc) : w.cell? ⟨b, 2, none⟩ = some (.slice ua x.ws.length uc) := by rw [cell_of_block h.h]; rfl
theorem alloc2_l (w : World) (A B : Array Value) (t u : TypeId) : ((w.alloc (.cells A t)).alloc (.cells B u)).heap[w.heap.size]? = some (.cells A t (0, 0)) := by
  rw [Below.heap_alloc _ _ _ (by simp)]
  exact heap_alloc_new w _
theorem alloc2_r (w : World) (A B : Array Value) (t u : TypeId) : ((w.alloc (.cells A t)).alloc (.cells B u)).heap[w.heap.size + 1]? = some (.cells B u (0, 0)) := by
  have := heap_alloc_new (w.alloc (.cells A t)) (.cells B u)
  rw [World.size_alloc] at this
  exact this
theorem alloc2_ld (w : World) (A B : Array Value) (t u : TypeId) : ((w.alloc (.cells A t)).alloc (.cells B u)).drew.heap[w.heap.size]? = some (.cells A t (0, 0)) := by
  show ((w.alloc (.cells A t)).alloc (.cells B u)).heap[w.heap.size]? = _
  exact alloc2_l w A B t u
theorem alloc2_rd (w : World) (A B : Array Value) (t u : TypeId) : ((w.alloc (.cells A t)).alloc (.cells B u)).drew.heap[w.heap.size + 1]? = some (.cells B u (0, 0)) := by
  show ((w.alloc (.cells A t)).alloc (.cells B u)).heap[w.heap.size + 1]? = _
  exact alloc2_r w A B t u
theorem below2 (w : World) (A B : Obj) : Below w.heap.size w ((w.alloc A).alloc B) := below_tr (below_box0 w A) (below_box0 _ B)
theorem below2d (w : World) (A B : Obj) : Below w.heap.size w ((w.alloc A).alloc B).drew := below_tr (below_box0 w A) (below_tr (below_box0 _ B) (Below.refl _ _).drew)
set_option maxRecDepth 100000 in
set_option maxHeartbeats 6400000 in
theorem same_ok {w : World} {a1 a2 : Option Addr} {c1 c2 : Nat} {m1 m2 : Int} {S1 S2 : List Rn} (h1 : StR w a1 S1) (h2 : StR w a2 S2) (l1 : S1.length ≤ 10000) (k1 : ∀ j, (S1.getD j rn0).ks.length ≤ 10000) (u1 : ∀ j, (S1.getD j rn0).ws.length ≤ 10000) :
    Calls Tryd.prog 23 #[.agg #[.int .i64 m1, .slice a1 S1.length c1], .agg #[.int .i64 m2, .slice a2 S2.length c2]] w fun e w' => e = .returned (.bool (smS m1 m2 S1 S2)) ∧ Below w.heap.size w w' := by
  have H1 := Lib.hid h1
  have H2 := Lib.hid h2
  have K1 := Lib.hid k1
  have U1 := Lib.hid u1
  obtain ⟨n1, hn1⟩ : ∃ n, S1.length = n := ⟨_, rfl⟩
  obtain ⟨n2, hn2⟩ : ∃ n, S2.length = n := ⟨_, rfl⟩
  have HN1 := Lib.hid hn1
  have HN2 := Lib.hid hn2
  obtain ⟨R, hR⟩ : ∃ R, smS m1 m2 S1 S2 = R := ⟨_, rfl⟩
  have HR := Lib.hid hR
  rw [hn1] at l1
  rw [hn1, hn2, hR]
  have BW := Lib.hid (below_tr (below_box0 w (.cells #[.int .i64 m1, .slice a1 n1 c1] 45)) (below_box0 _ (.cells #[.int .i64 m2, .slice a2 n2 c2] 45)))
  clear h1 h2 k1 u1 hn1 hn2 hR
  by_cases hm : m1 = m2
  case neg =>
    have dm : (m1 != m2) = true := by simpa using hm
    obtain rfl : false = R := by rw [← HR.out]; exact (smS_no (fun h => hm h.1)).symm
    clear hm HR
    go_enter Tryd.func23, Tryd.ntmps23
    go_wp2
    go_ret
    exact ⟨rfl, BW.out⟩
  case pos =>
  have dm : (m1 != m2) = false := by simpa using hm
  by_cases hl : n1 = n2
  case neg =>
    have dl : ((n1 : Int) != (n2 : Int)) = true := by simp; omega
    obtain rfl : false = R := by
      rw [← HR.out]
      exact (smS_no (fun h => hl (by rw [← HN1.out, ← HN2.out, h.2]))).symm
    clear hm hl HR
    go_enter Tryd.func23, Tryd.ntmps23
    go_wp2
    go_ret
    exact ⟨rfl, BW.out⟩
  case pos =>
  subst hl
  have HM := Lib.hid hm
  have dl : ((n1 : Int) != (n1 : Int)) = false := by simp
  clear hm
  go_enter Tryd.func23, Tryd.ntmps23
  go_wp2
  go_loopw [5] (fun x wr => ∃ i : Nat, i ≤ n1 ∧ x = .int .i64 i ∧ Hid (Below w.heap.size w wr) ∧ Hid (wr.heap[w.heap.size]? = some (.cells #[.int .i64 m1, .slice a1 n1 c1] 45 (0, 0))) ∧ Hid (wr.heap[w.heap.size + 1]? = some (.cells #[.int .i64 m2, .slice a2 n1 c2] 45 (0, 0))) ∧ Hid (∀ j, j < i → S1.getD j rn0 = S2.getD j rn0)) (fun x _ => n1 - (intOf x).toNat)
  case atStart => exact ⟨0, Nat.zero_le _, rfl, BW, Lib.hid (alloc2_l _ _ _ _ _), Lib.hid (alloc2_r _ _ _ _ _), Lib.hid (fun j hj => absurd hj (Nat.not_lt_zero _))⟩
  case round =>
    obtain ⟨i, hi, rfl, HB, X1, X2, HE⟩ := hrel
    clear dm dl
    have p1 : wr.cell? ⟨w.heap.size, 1, none⟩ = some (.slice a1 n1 c1) := by rw [cell_of_block X1.out]; rfl
    have p2 : wr.cell? ⟨w.heap.size + 1, 1, none⟩ = some (.slice a2 n1 c2) := by rw [cell_of_block X2.out]; rfl
    by_cases hlt : i < n1
    · obtain ⟨b1, o1, rfl, hb1, hc1⟩ : ∃ b o, a1 = some ⟨b, o, none⟩ ∧ b < w.heap.size ∧ ∀ j, j < S1.length → NdR w b (o + j * 3) (S1.getD j rn0) := H1.out.resolve_left (by rw [HN1.out]; omega)
      obtain ⟨b2, o2, rfl, hb2, hc2⟩ : ∃ b o, a2 = some ⟨b, o, none⟩ ∧ b < w.heap.size ∧ ∀ j, j < S2.length → NdR w b (o + j * 3) (S2.getD j rn0) := H2.out.resolve_left (by rw [HN2.out]; omega)
      have d1 := (hc1 i (by rw [HN1.out]; exact hlt)).below HB.out
      have d2 := (hc2 i (by rw [HN2.out]; exact hlt)).below HB.out
      have k1 := K1.out i
      have u1 := U1.out i
      obtain ⟨x, hx⟩ : ∃ x, S1.getD i rn0 = x := ⟨_, rfl⟩
      obtain ⟨y, hy⟩ : ∃ y, S2.getD i rn0 = y := ⟨_, rfl⟩
      rw [hx] at d1 k1 u1
      rw [hy] at d2
      have HX := Lib.hid hx
      have HY := Lib.hid hy
      have e1 := d1.lv
      obtain ⟨ka, kc, e2, r2⟩ := d1.ks
      obtain ⟨ua, uc, e3, r3⟩ := d1.ws
      have g1 := d2.lv
      obtain ⟨kb, kd, g2, s2⟩ := d2.ks
      obtain ⟨ub, ud, g3, s3⟩ := d2.ws
      have hli : (i : Int) < (n1 : Int) := by omega
      have hi0 : (0 : Int) ≤ (i : Int) := by omega
      have R2 := Lib.hid r2
      have R3 := Lib.hid r3
      have T2 := Lib.hid s2
      have T3 := Lib.hid s3
      have hwi : IntKind.i64.wrap ((i : Int) + 1) = (i : Int) + 1 := IntWalk.i64_in _ (by omega)
      have hz1 := HB.out.size
      have q1 : b1 < wr.heap.size := by omega
      have q2 : b2 < wr.heap.size := by omega
      have q3 : w.heap.size < wr.heap.size := by have := blk_lt X1.out; omega
      have q4 : w.heap.size + 1 < wr.heap.size := blk_lt X2.out
      clear hx hy d1 d2 hc1 hc2 r2 r3 s2 s3
      have HKP : Hid (∀ w', Below wr.heap.size wr w' → (Below wr.heap.size wr w' ∧ w'.cell? ⟨w.heap.size, 1, none⟩ = some (.slice (some ⟨b1, o1, none⟩) n1 c1) ∧ w'.cell? ⟨w.heap.size + 1, 1, none⟩ = some (.slice (some ⟨b2, o2, none⟩) n1 c2) ∧
          w'.cell? ⟨b1, o1 + i * 3, none⟩ = some (.int .i64 x.lv) ∧ w'.cell? ⟨b1, o1 + i * 3 + 1, none⟩ = some (.slice ka x.ks.length kc) ∧ w'.cell? ⟨b1, o1 + i * 3 + 2, none⟩ = some (.slice ua x.ws.length uc) ∧
          w'.cell? ⟨b2, o2 + i * 3, none⟩ = some (.int .i64 y.lv) ∧ w'.cell? ⟨b2, o2 + i * 3 + 1, none⟩ = some (.slice kb y.ks.length kd) ∧ w'.cell? ⟨b2, o2 + i * 3 + 2, none⟩ = some (.slice ub y.ws.length ud))) := Lib.hid (fun w' hb => ⟨hb, cell_later hb p1, cell_later hb p2, cell_later hb e1, cell_later hb e2, cell_later hb e3, cell_later hb g1, cell_later hb g2, cell_later hb g3⟩)
      go_upto_region 6 with fail
      go_region_held3 (fun w' => Below wr.heap.size wr w' ∧ w'.cell? ⟨w.heap.size, 1, none⟩ = some (.slice (some ⟨b1, o1, none⟩) n1 c1) ∧ w'.cell? ⟨w.heap.size + 1, 1, none⟩ = some (.slice (some ⟨b2, o2, none⟩) n1 c2) ∧
          w'.cell? ⟨b1, o1 + i * 3, none⟩ = some (.int .i64 x.lv) ∧ w'.cell? ⟨b1, o1 + i * 3 + 1, none⟩ = some (.slice ka x.ks.length kc) ∧ w'.cell? ⟨b1, o1 + i * 3 + 2, none⟩ = some (.slice ua x.ws.length uc) ∧
          w'.cell? ⟨b2, o2 + i * 3, none⟩ = some (.int .i64 y.lv) ∧ w'.cell? ⟨b2, o2 + i * 3 + 1, none⟩ = some (.slice kb y.ks.length kd) ∧ w'.cell? ⟨b2, o2 + i * 3 + 2, none⟩ = some (.slice ub y.ws.length ud))
        ((refine HKP.out _ ?_; first | exact (Below.refl _ _).drew | exact (below_box0 _ _).drew | exact below2d _ _ _ | exact (below2 _ _ _)))
        (first | fail)
      all_goals
        first
          | (obtain ⟨W2, hW2⟩ : ∃ W, ((wr.alloc (.cells #[.int .i64 x.lv, .slice ka x.ks.length kc, .slice ua x.ws.length uc] 60)).alloc (.cells #[.int .i64 y.lv, .slice kb y.ks.length kd, .slice ub y.ws.length ud] 60)).drew = W := ⟨_, rfl⟩
             rw [hW2]
             have b2 : Below wr.heap.size wr W2 := by rw [← hW2]; exact below2d _ _ _
             have Y1 : Hid (Bx2 W2 wr.heap.size x ka kc ua uc) := Lib.hid ⟨by rw [← hW2]; exact alloc2_ld _ _ _ _ _, R2.out.below b2, R3.out.below b2⟩
             have Y2 : Hid (Bx2 W2 (wr.heap.size + 1) y kb kd ub ud) := Lib.hid ⟨by rw [← hW2]; exact alloc2_rd _ _ _ _ _, T2.out.below b2, T3.out.below b2⟩
             clear hW2
             obtain ⟨gx, hgx⟩ : ∃ g, wr.heap.size = g := ⟨_, rfl⟩
             obtain ⟨gy, hgy⟩ : ∃ g, wr.heap.size + 1 = g := ⟨_, rfl⟩
             rw [hgx] at Y1
             rw [hgy] at Y2
             rw [hgy, hgx])
          | (obtain ⟨W2, hW2⟩ : ∃ W, ((wr.alloc (.cells #[.int .i64 y.lv, .slice kb y.ks.length kd, .slice ub y.ws.length ud] 60)).alloc (.cells #[.int .i64 x.lv, .slice ka x.ks.length kc, .slice ua x.ws.length uc] 60)).drew = W := ⟨_, rfl⟩
             rw [hW2]
             have b2 : Below wr.heap.size wr W2 := by rw [← hW2]; exact below2d _ _ _
             have Y1 : Hid (Bx2 W2 (wr.heap.size + 1) x ka kc ua uc) := Lib.hid ⟨by rw [← hW2]; exact alloc2_rd _ _ _ _ _, R2.out.below b2, R3.out.below b2⟩
             have Y2 : Hid (Bx2 W2 wr.heap.size y kb kd ub ud) := Lib.hid ⟨by rw [← hW2]; exact alloc2_ld _ _ _ _ _, T2.out.below b2, T3.out.below b2⟩
             clear hW2
             obtain ⟨gx, hgx⟩ : ∃ g, wr.heap.size + 1 = g := ⟨_, rfl⟩
             obtain ⟨gy, hgy⟩ : ∃ g, wr.heap.size = g := ⟨_, rfl⟩
             rw [hgx] at Y1
             rw [hgy] at Y2
             rw [hgx, hgy])
        have B2 := Lib.hid b2
        have X1' := Lib.hid ((b2.block _ q3).trans X1.out)
        have X2' := Lib.hid ((b2.block _ q4).trans X2.out)
        have BB := Lib.hid (HB.out.trans (b2.mono hz1))
        clear b2 R2 R3 T2 T3 e1 e2 e3 g1 g2 g3 q1 q2 q3 q4 hgx hgy p1 p2 hb1 hb2 X1 X2
        have x0 := Y1.out.c0
        have x1 := Y1.out.c1
        have x2 := Y1.out.c2
        have y0 := Y2.out.c0
        have y1 := Y2.out.c1
        have y2 := Y2.out.c2
        by_cases hlv : x.lv = y.lv
        case neg =>
          have t1 : (x.lv != y.lv) = true := by simpa using hlv
          obtain rfl : false = R := by rw [← HR.out]; exact (smS_no (fun h => hlv (by rw [← HX.out, ← HY.out, h.2]))).symm
          clear hlv HR
          go_wp2
          go_ret
          exact ⟨rfl, BB.out⟩
        case pos =>
        by_cases hkl : x.ks.length = y.ks.length
        case neg =>
          have t1 : (x.lv != y.lv) = false := by simpa using hlv
          have t2 : ((x.ks.length : Int) != (y.ks.length : Int)) = true := by simp; omega
          obtain rfl : false = R := by rw [← HR.out]; exact (smS_no (fun h => hkl (by rw [← HX.out, ← HY.out, h.2]))).symm
          clear hlv hkl HR
          go_wp2
          go_ret
          exact ⟨rfl, BB.out⟩
        case pos =>
        by_cases hul : x.ws.length = y.ws.length
        case neg =>
          have t1 : (x.lv != y.lv) = false := by simpa using hlv
          have t2 : ((x.ks.length : Int) != (y.ks.length : Int)) = false := by simp; omega
          have t3 : ((x.ws.length : Int) != (y.ws.length : Int)) = true := by simp; omega
          obtain rfl : false = R := by rw [← HR.out]; exact (smS_no (fun h => hul (by rw [← HX.out, ← HY.out, h.2]))).symm
          clear hlv hul hkl HR
          go_wp2
          go_ret
          exact ⟨rfl, BB.out⟩
        case pos =>
        have t1 : (x.lv != y.lv) = false := by simpa using hlv
        have t2 : ((x.ks.length : Int) != (y.ks.length : Int)) = false := by simp; omega
        have t3 : ((x.ws.length : Int) != (y.ws.length : Int)) = false := by simp; omega
        have HLV := Lib.hid hlv
        have HKL := Lib.hid hkl
        have HUL := Lib.hid hul
        have SKX := Lib.hid Y1.out.k
        have SKY := Lib.hid Y2.out.k
        have SWX := Lib.hid Y1.out.w
        have SWY := Lib.hid Y2.out.w
        clear hlv hkl hul
        obtain ⟨nk, hnk⟩ : ∃ n, x.ks.length = n := ⟨_, rfl⟩
        obtain ⟨nu, hnu⟩ : ∃ n, x.ws.length = n := ⟨_, rfl⟩
        rw [hnk] at k1 x1 t2 SKX
        rw [hnu] at u1 x2 t3 SWX
        have HNK := Lib.hid hnk
        have HNU := Lib.hid hnu
        clear hnk hnu
        go_wp2
        clear t1 t2 t3
        go_loopw [8] (fun v wk => ∃ k : Nat, k ≤ nk ∧ v = .int .i64 k ∧ Hid (Below W2.heap.size W2 wk) ∧ Hid (∀ j, j < k → x.ks.getD j 0 = y.ks.getD j 0)) (fun v _ => nk - (intOf v).toNat)
        case atStart => exact ⟨0, Nat.zero_le _, rfl, Lib.hid (Below.refl _ _), Lib.hid (fun j hj => absurd hj (Nat.not_lt_zero _))⟩
        case round =>
          obtain ⟨k, hk, rfl, HBk, HEk⟩ := hrel
          have x1 := cell_later HBk.out x1
          have y1 := cell_later HBk.out y1
          have x2 := cell_later HBk.out x2
          have y2 := cell_later HBk.out y2
          by_cases hltk : k < nk
          · obtain ⟨pk, ok, rfl, hpk, hck⟩ := SKX.out.resolve_left (by omega)
            obtain ⟨pl, ol, rfl, hpl, hcl⟩ := SKY.out.resolve_left (by rw [← HKL.out, HNK.out]; omega)
            have v1 := cell_later HBk.out (hck k hltk)
            have v2 := cell_later HBk.out (hcl k (by rw [← HKL.out, HNK.out]; omega))
            obtain ⟨xv, hxv⟩ : ∃ v, x.ks.getD k 0 = v := ⟨_, rfl⟩
            obtain ⟨yv, hyv⟩ : ∃ v, y.ks.getD k 0 = v := ⟨_, rfl⟩
            simp only [kdV] at v1 v2
            rw [hxv] at v1
            rw [hyv] at v2
            have HXV := Lib.hid hxv
            have HYV := Lib.hid hyv
            have i0 : (0 : Int) ≤ (k : Int) := by omega
            have i1 : (k : Int) < (nk : Int) := by omega
            have i2 : (k : Int) < (y.ks.length : Int) := by rw [← HKL.out, HNK.out]; exact i1
            have hwk : IntKind.i64.wrap ((k : Int) + 1) = (k : Int) + 1 := IntWalk.i64_in _ (by omega)
            clear hck hcl hxv hyv
            by_cases hv : xv = yv
            · have t1 : (xv != yv) = false := by simpa using hv
              have HV := Lib.hid hv
              clear hv
              go_wp2_with fail
              go_quiet (fail)
              go_wp2
              go_roundw
              case rel => exact ⟨k + 1, by omega, by go_num, Lib.hid (HBk.out.trans ((below_draw _ _).mono HBk.out.size)), Lib.hid (fun j hj => by
                by_cases ej : j = k
                · rw [ej, HXV.out, HYV.out]; exact HV.out
                · exact HEk.out j (by omega))⟩
              case measure => simp [intOf]; omega
            · have t1 : (xv != yv) = true := by simpa using hv
              obtain rfl : false = R := by
                rw [← HR.out]
                exact (smS_no (fun h => hv (by rw [← HXV.out, ← HYV.out, ← HX.out, ← HY.out, h.2]))).symm
              clear hv HR
              go_wp2_with fail
              go_quiet (fail)
              go_wp2
              go_ret
              exact ⟨rfl, BB.out.trans ((HBk.out.trans ((below_draw _ _).mono HBk.out.size)).mono BB.out.size)⟩
          · obtain rfl : k = nk := by omega
            have i1 : ¬ ((k : Int) < (k : Int)) := by omega
            obtain ⟨Wm, hWm⟩ : ∃ W, W = wr := ⟨_, rfl⟩
            subst hWm
            go_wp2
            go_loopw [9] (fun v wu => ∃ u : Nat, u ≤ nu ∧ v = .int .i64 u ∧ Hid (Below Wm.heap.size Wm wu) ∧ Hid (∀ j, j < u → x.ws.getD j 0 = y.ws.getD j 0)) (fun v _ => nu - (intOf v).toNat)
            case atStart => exact ⟨0, Nat.zero_le _, rfl, Lib.hid (Below.refl _ _), Lib.hid (fun j hj => absurd hj (Nat.not_lt_zero _))⟩
            case round =>
              obtain ⟨u, hu, rfl, HBu, HEu⟩ := hrel
              have x2 := cell_later HBu.out x2
              have y2 := cell_later HBu.out y2
              by_cases hltu : u < nu
              · obtain ⟨pk, ok, rfl, hpk, hck⟩ := SWX.out.resolve_left (by omega)
                obtain ⟨pl, ol, rfl, hpl, hcl⟩ := SWY.out.resolve_left (by rw [← HUL.out, HNU.out]; omega)
                have v1 := cell_later HBu.out (cell_later HBk.out (hck u hltu))
                have v2 := cell_later HBu.out (cell_later HBk.out (hcl u (by rw [← HUL.out, HNU.out]; omega)))
                obtain ⟨xv, hxv⟩ : ∃ v, x.ws.getD u 0 = v := ⟨_, rfl⟩
                obtain ⟨yv, hyv⟩ : ∃ v, y.ws.getD u 0 = v := ⟨_, rfl⟩
                simp only [wdV] at v1 v2
                rw [hxv] at v1
                rw [hyv] at v2
                have HXV := Lib.hid hxv
                have HYV := Lib.hid hyv
                have i0 : (0 : Int) ≤ (u : Int) := by omega
                have i1 : (u : Int) < (nu : Int) := by omega
                have i2 : (u : Int) < (y.ws.length : Int) := by rw [← HUL.out, HNU.out]; exact i1
                have hwk : IntKind.i64.wrap ((u : Int) + 1) = (u : Int) + 1 := IntWalk.i64_in _ (by omega)
                clear hck hcl hxv hyv
                by_cases hv : xv = yv
                · have t1 : ((xv : Int) != (yv : Int)) = false := by simp; omega
                  have HV := Lib.hid hv
                  clear hv
                  go_wp2_with fail
                  go_quiet (fail)
                  go_wp2
                  go_roundw
                  case rel => exact ⟨u + 1, by omega, by go_num, Lib.hid (HBu.out.trans ((below_draw _ _).mono HBu.out.size)), Lib.hid (fun j hj => by
                    by_cases ej : j = u
                    · rw [ej, HXV.out, HYV.out]; exact HV.out
                    · exact HEu.out j (by omega))⟩
                  case measure => simp [intOf]; omega
                · have t1 : ((xv : Int) != (yv : Int)) = true := by simp; omega
                  obtain rfl : false = R := by
                    rw [← HR.out]
                    exact (smS_no (fun h => hv (by rw [← HXV.out, ← HYV.out, ← HX.out, ← HY.out, h.2]))).symm
                  clear hv HR
                  go_wp2_with fail
                  go_quiet (fail)
                  go_wp2
                  go_ret
                  exact ⟨rfl, BB.out.trans ((HBk.out.trans ((HBu.out.trans ((below_draw _ _).mono HBu.out.size)).mono HBk.out.size)).mono BB.out.size)⟩
              · obtain rfl : u = nu := by omega
                have i1 : ¬ ((u : Int) < (u : Int)) := by omega
                have bk := HBk.out.trans (HBu.out.mono HBk.out.size)
                have BE := Lib.hid (BB.out.trans (bk.mono BB.out.size))
                have Z1 := Lib.hid ((bk.block _ (blk_lt X1'.out)).trans X1'.out)
                have Z2 := Lib.hid ((bk.block _ (blk_lt X2'.out)).trans X2'.out)
                have HXY : Hid (x = y) := Lib.hid (by
                  have e1 := list_ext0 (d := 0) HKL.out (by rw [HNK.out]; exact HEk.out)
                  have e2 := list_ext0 (d := 0) HUL.out (by rw [HNU.out]; exact HEu.out)
                  have e0 := HLV.out
                  obtain ⟨xa, xb, xc⟩ := x
                  obtain ⟨ya, yb, yc⟩ := y
                  simp only at e0 e1 e2
                  rw [e0, e1, e2])
                clear bk
                go_wp2
                go_roundw
                case rel => exact ⟨i + 1, by omega, by go_num, BE, Z1, Z2, Lib.hid (fun j hj => by
                  by_cases ej : j = i
                  · rw [ej, HX.out, HY.out]; exact HXY.out
                  · exact HE.out j (by omega))⟩
                case measure => simp [intOf]; omega
    · obtain rfl : i = n1 := by omega
      obtain rfl : true = R := by rw [← HR.out]; exact (smS_yes HM.out (by rw [HN1.out, HN2.out]) (by rw [HN1.out]; exact HE.out)).symm
      have hli : ¬ ((i : Int) < (i : Int)) := by omega
      go_wp2
      go_ret
      exact ⟨rfl, HB.out⟩
end Go.Proofs.YtfmclbacoffdaaaDoor

namespace Go.Proofs.YtfmclbacoffdaaaDoor
open Go.RowKit Go.Sort Go.Joins
attribute [local go_sem] cell_grow frozen_grow size_grow Oper.semAt_some
theorem info_int7 : (Tryd.prog.info? 3).map (fun i => (i.zero, i.size, i.bytes)) = some (some (.int .i64 0), 1, 8) := by kernel_rfl
theorem info_u647 : (Tryd.prog.info? 24).map (fun i => (i.zero, i.size, i.bytes)) = some (some (.int .u64 0), 1, 8) := by kernel_rfl
theorem sizes_ok (l : Int) (w : World) : Calls Tryd.prog 47 #[.int .i64 l] w fun e w' => e = .returned (.tuple #[.int .i64 (kN l), .int .i64 (wN l)]) ∧ w = w' := by
  by_cases h0 : l = 0
  · subst h0
    go_enter Tryd.func47, Tryd.ntmps47
    go_wp2
    go_ret2
    exact ⟨rfl, rfl⟩
  · by_cases h1 : l = 1
    · subst h1
      go_enter Tryd.func47, Tryd.ntmps47
      go_wp2
      go_ret2
      exact ⟨rfl, rfl⟩
    · by_cases h2 : l = 2
      · subst h2
        go_enter Tryd.func47, Tryd.ntmps47
        go_wp2
        go_ret2
        exact ⟨rfl, rfl⟩
      · have e : kN l = 0 ∧ wN l = 0 := ⟨by unfold kN; rw [if_neg h0, if_neg h1], by unfold wN; rw [if_neg h2]⟩
        rw [e.1, e.2]
        have d0 : (l == 0) = false := by simpa using h0
        have d1 : (l == 1) = false := by simpa using h1
        have d2 : (l == 2) = false := by simpa using h2
        clear h0 h1 h2 e
        go_enter Tryd.func47, Tryd.ntmps47
        go_wp2
        go_ret2
        exact ⟨rfl, rfl⟩
set_option maxRecDepth 100000 in
theorem cloneI_ok {w : World} {ad : Addr} {n c : Nat} {xs : List Value} (hS : Reads w w.heap.size 1 (some ad) n xs) (h1 : ∀ u ∈ xs, u.oneCell' = true) (hn : n ≤ 10000) :
    Calls Tryd.prog 48 #[.slice (some ad) n c] w fun e w' => ∃ v, e = .returned v ∧ w'.ownsRow w.heap.size 3 1 v n xs ∧ Below w.heap.size w w' := by
  obtain ⟨i0, hi0, hz0, hz1, hz2'⟩ := info_parts info_int7
  have hq := fun (w : World) => Lib.run_eql_slice_nil (P := Tryd.prog) w 52 3 (some ad) n c 0 0 Tryd.underlying52
  have HO8 : Hid ((w.alloc (.cells #[] 3)).ownsRow w.heap.size 3 1 (.slice (some ⟨w.heap.size, 0, none⟩) 0 0) 0 []) := Lib.hid (World.ownsRow_lit w #[] 0 (Nat.le_refl _) (by decide) rfl)
  have HRD8 := Lib.hid (hS.alloc (Nat.le_refl _) (.cells #[] 3))
  have HB8 := Lib.hid (below_box0 w (.cells #[] 3))
  clear hS
  go_enter Tryd.func48, Tryd.ntmps48
  go_wp2_with (at_builtin
               refine wpList_append_any _ (by simp [Region.wanted]) (.tmp 5) (.tmp 6) 52 rfl w.heap.size 3 i0 _ 1 8 Tryd.underlying52 hi0 hz0 hz1 hz2' rfl (by decide) (.slice (some ⟨w.heap.size, 0, none⟩) 0 0) 0 [] rfl
                 HO8.out w.heap.size (some ad) n c xs rfl HRD8.out h1 (by unfold maxLen; omega) (by omega) HB8.out.size ?_
               intro v1 w9 hown1 hg1 _
               have HB9 := Lib.hid (HB8.out.grown hg1 HB8.out.size (by simp [Value.ownBlock]))
               have HO9 : Hid (w9.ownsRow w.heap.size 3 1 v1 n xs) := Lib.hid (by
                 have e1 : 0 + n = n := by omega
                 rw [e1, List.nil_append] at hown1
                 exact hown1)
               clear hown1 hg1)
  go_ret
  exact ⟨v1, rfl, HO9.out, HB9.out⟩
set_option maxRecDepth 100000 in
theorem cloneU_ok {w : World} {ad : Addr} {n c : Nat} {xs : List Value} (hS : Reads w w.heap.size 1 (some ad) n xs) (h1 : ∀ u ∈ xs, u.oneCell' = true) (hn : n ≤ 10000) :
    Calls Tryd.prog 49 #[.slice (some ad) n c] w fun e w' => ∃ v, e = .returned v ∧ w'.ownsRow w.heap.size 24 1 v n xs ∧ Below w.heap.size w w' := by
  obtain ⟨i0, hi0, hz0, hz1, hz2'⟩ := info_parts info_u647
  have hq := fun (w : World) => Lib.run_eql_slice_nil (P := Tryd.prog) w 58 24 (some ad) n c 0 0 Tryd.underlying58
  have HO8 : Hid ((w.alloc (.cells #[] 24)).ownsRow w.heap.size 24 1 (.slice (some ⟨w.heap.size, 0, none⟩) 0 0) 0 []) := Lib.hid (World.ownsRow_lit w #[] 0 (Nat.le_refl _) (by decide) rfl)
  have HRD8 := Lib.hid (hS.alloc (Nat.le_refl _) (.cells #[] 24))
  have HB8 := Lib.hid (below_box0 w (.cells #[] 24))
  clear hS
  go_enter Tryd.func49, Tryd.ntmps49
  go_wp2_with (at_builtin
               refine wpList_append_any _ (by simp [Region.wanted]) (.tmp 5) (.tmp 6) 58 rfl w.heap.size 24 i0 _ 1 8 Tryd.underlying58 hi0 hz0 hz1 hz2' rfl (by decide) (.slice (some ⟨w.heap.size, 0, none⟩) 0 0) 0 [] rfl
                 HO8.out w.heap.size (some ad) n c xs rfl HRD8.out h1 (by unfold maxLen; omega) (by omega) HB8.out.size ?_
               intro v1 w9 hown1 hg1 _
               have HB9 := Lib.hid (HB8.out.grown hg1 HB8.out.size (by simp [Value.ownBlock]))
               have HO9 : Hid (w9.ownsRow w.heap.size 24 1 v1 n xs) := Lib.hid (by
                 have e1 : 0 + n = n := by omega
                 rw [e1, List.nil_append] at hown1
                 exact hown1)
               clear hown1 hg1)
  go_ret
  exact ⟨v1, rfl, HO9.out, HB9.out⟩
end Go.Proofs.YtfmclbacoffdaaaDoor

namespace Go.Proofs.YtfmclbacoffdaaaDoor
open Go.RowKit Go.Sort Go.Joins
attribute [local go_sem] cell_grow frozen_grow size_grow Oper.semAt_some
theorem info_rmnode : (Tryd.prog.info? 60).map (fun i => (i.zero, i.size, i.bytes)) = some (some (.agg #[.int .i64 0, .slice none 0 0, .slice none 0 0]), 3, 56) := by kernel_rfl
/-- the kids and words of a node in a box, as slices -/
theorem box_kids {w : World} {b k : Nat} {x : Nd} (h : w.heap[b]? = some (.cells (ndc x).toArray 90 (0, 0))) (hk : k ≤ 16) : Reads w w.heap.size 1 (some ⟨b, 2, none⟩) k (intsV ((List.range k).map fun j => (x.kd j : Int))) := by
  refine ⟨by rw [intsV_length]; simp, fun _ => ⟨_, rfl, blk_lt h, fun j u hu => ?_⟩⟩
  have hj : j < k := by
    have := (List.getElem?_eq_some_iff.1 hu).1
    rw [intsV_length] at this
    simpa using this
  rw [Go.WideShapes.add_plain, cell_of_block h, List.getElem?_toArray, ndc_kd x (by omega), ← hu]
  unfold intsV
  simp [hj]
theorem box_words {w : World} {b k : Nat} {x : Nd} (h : w.heap[b]? = some (.cells (ndc x).toArray 90 (0, 0))) (hk : k ≤ 8) : Reads w w.heap.size 1 (some ⟨b, 18, none⟩) k (u64s ((List.range k).map x.wd)) := by
  refine ⟨by simp [u64s], fun _ => ⟨_, rfl, blk_lt h, fun j u hu => ?_⟩⟩
  have hj : j < k := by
    have := (List.getElem?_eq_some_iff.1 hu).1
    simpa [u64s] using this
  rw [Go.WideShapes.add_plain, cell_of_block h, List.getElem?_toArray, ndc_wd x (by omega), ← hu]
  unfold u64s
  simp [hj]
/-- what Save holds after i nodes -/
structure SvL (w wr : World) (n i : Nat) (v : Value) (K L : Nat → Value) (S : List Rn) : Prop where
  bx : wr.heap[w.heap.size + 1]? = some (.cells #[.int .i64 (n : Int), v] 45 (0, 0))
  out : wr.heap[w.heap.size]? = some (.cells #[.int .i64 0, .slice none 0 0] 45 (0, 0))
  st : OSt wr (w.heap.size + 2) v K L (S.take i)
  k : Below w.heap.size w wr
theorem there_new26 (w : World) (cs : Array Value) (t : TypeId) (x : Nd) (h : cs.size = 26) : (w.alloc (.cells cs t)).there w.heap.size 0 (ndc x).toArray.size := by
  have hs : (ndc x).toArray.size = 26 := by rw [List.size_toArray, ndc_length]
  have hb := heap_alloc_new w (.cells cs t)
  intro j hj
  rw [hs] at hj
  refine ⟨?_, unfrozen_of_block hb _⟩
  rw [cell_of_block hb, Array.getElem?_eq_getElem (by omega)]
  rfl
/-- a new box is filled -/
theorem box_new26 (w : World) (cs : Array Value) (t : TypeId) (x : Nd) (h : cs.size = 26) : ((w.alloc (.cells cs t)).setCells w.heap.size 0 (ndc x)).heap[w.heap.size]? = some (.cells (ndc x).toArray t (0, 0)) := by
  have hb := heap_alloc_new w (.cells cs t)
  have e : cs = cs.toList.toArray := by simp
  rw [e] at hb
  rw [e, setCells_list (ndc x) 0 cs.toList _ hb (by rw [ndc_length]; simp; omega)]
  rw [ndc_length]
  simp [List.drop_eq_nil_of_le, h]
theorem below_box26 (w : World) (o : Obj) (vs : List Value) : Below w.heap.size w ((w.alloc o).setCells w.heap.size 0 vs) := by
  have hb := below_box0 w o
  have : ∀ (vs : List Value) (k : Nat) (W : World), Below w.heap.size w W → Below w.heap.size w (W.setCells w.heap.size k vs) := by
    intro vs
    induction vs with
    | nil => exact fun k W h => h
    | cons v r ih => exact fun k W h => ih (k + 1) _ (h.setCell (p := ⟨w.heap.size, k, none⟩) (Nat.le_refl _) v)
  exact this vs 0 _ hb
/-- one node more -/
theorem SvL.next {w wr Wc w9 : World} {n i : Nat} {v v' kv uv : Value} {K L : Nat → Value} {S : List Rn} {x : Rn} (h : SvL w wr n i v K L S) (hb : Below wr.heap.size wr Wc)
    (hk : Wc.ownsRow (wr.heap.size + 1) 3 1 kv x.ks.length (intsV x.ks)) (hl : Wc.ownsRow (wr.heap.size + 1) 24 1 uv x.ws.length (u64s x.ws))
    (hr : w9.ownsRow (w.heap.size + 2) 60 3 v' (i + 1) (rnC K L (S.take i) ++ [.int .i64 x.lv, kv, uv])) (hg : Wc.grownBy w9 v.ownBlock) (hi : i < S.length) (hx : S.take (i + 1) = S.take i ++ [x]) :
    SvL w (w9.setCell ⟨w.heap.size + 1, 1, none⟩ v') n (i + 1) v' (updV K i kv) (updV L i uv) S := by
  have hlen : (S.take i).length = i := by rw [List.length_take]; omega
  have hst := h.st.below hb
  have hlt := blk_lt h.bx
  have hws := hb.size
  have hs2 : w.heap.size + 2 ≤ wr.heap.size := by omega
  have hne : ∀ k, k < w.heap.size + 2 → v.ownBlock ≠ some k := fun k hk e => by have := (h.st.row.lt k e).1; omega
  have hbx : w9.heap[w.heap.size + 1]? = some (.cells #[.int .i64 (n : Int), v] 45 (0, 0)) := by
    rw [hg.block _ (by omega) (fun e => hne _ (by omega) e.symm), hb.block _ hlt]; exact h.bx
  have hout : w9.heap[w.heap.size]? = some (.cells #[.int .i64 0, .slice none 0 0] 45 (0, 0)) := by
    rw [hg.block _ (by omega) (fun e => hne _ (by omega) e.symm), hb.block _ (by omega)]; exact h.out
  have hnew := OSt.snoc (w' := w9) (v' := v') (k := kv) (l := uv) (x := x) hst (own_leW hk (by omega)) (own_leW hl (by omega))
    (fun j hj g e e2 => by have a := (h.st.kid j hj).lt g e; have b := (hk.lt g e2).1; omega)
    (fun j hj g e e2 => by have a := (h.st.wrd j hj).lt g e; have b := (hl.lt g e2).1; omega)
    (by rw [hlen]; exact hr) hg
  rw [hlen, ← hx] at hnew
  refine ⟨?_, ?_, hnew.setBelow (a := ⟨w.heap.size + 1, 1, none⟩) (by dsimp only; omega) _, ?_⟩
  · rw [setCell_block hbx]; simp
  · rw [Below.heap_setCell _ _ _ _ (by dsimp only; omega)]; exact hout
  · have h1 : Below w.heap.size w Wc := h.k.trans (hb.mono h.k.size)
    exact (h1.grown hg (by omega) (fun k hk => by have := (h.st.row.lt k hk).1; omega)).setCell (p := ⟨w.heap.size + 1, 1, none⟩) (by dsimp only; omega) _
theorem reads_new3 (w : World) (a b c : Value) (t : TypeId) : Reads (w.alloc (.cells #[a, b, c] t)) (w.heap.size + 1) 3 (some ⟨w.heap.size, 0, none⟩) 1 [a, b, c] := by
  refine ⟨rfl, fun _ => ⟨_, rfl, Nat.lt_succ_self _, fun j x hj => ?_⟩⟩
  have hblk := heap_alloc_new w (.cells #[a, b, c] t)
  rw [Addr.add_lit, cell_of_block hblk]
  match j with
  | 0 => exact hj
  | 1 => exact hj
  | 2 => exact hj
  | j + 3 => simp at hj
theorem one3 (l : Int) (a : Option Addr) (n c : Nat) (b : Option Addr) (m d : Nat) : ∀ u ∈ [Value.int .i64 l, .slice a n c, .slice b m d], u.oneCell' = true := fun u hu => by
  simp at hu
  rcases hu with rfl | rfl | rfl <;> rfl
theorem keepA {W : World} {p : Addr} {u : Value} (o : Obj) (h : W.cell? p = some u) : (W.alloc o).cell? p = some u := by
  rw [World.cell?_alloc_lt _ _ _ (World.block_lt_of_cell? W _ h)]; exact h
theorem keepS {W : World} {p a : Addr} {u : Value} (v : Value) (hne : p.block ≠ a.block) (h : W.cell? p = some u) : (W.setCell a v).cell? p = some u := by
  rw [World.cell?_setCell_other _ _ _ _ (fun e => hne (by rw [e]))]; exact h
section
variable {w : World} {B p q : Nat}
set_option maxRecDepth 100000 in
set_option maxHeartbeats 6400000 in
theorem save_ok {X : RM} (h : TM w B p q X.st X.m X.r) :
    Calls Tryd.prog 24 #[.pointer (some ⟨p, 0, none⟩)] w fun e w' => ∃ a c, e = .returned (.agg #[.int .i64 X.st.length, .slice a X.st.length c]) ∧ (∃ K L, OSt w' w.heap.size (.slice a X.st.length c) K L (stS X)) ∧ Below w.heap.size w w' := by
  obtain ⟨i0, hi0, hz0, hz1, hz2'⟩ := info_parts info_rmnode
  have b1 := below_box0 w (.cells #[.int .i64 0, .slice none 0 0] 45)
  have h1 := h.below b1
  have H0 := Lib.hid h
  have HB1 := Lib.hid b1
  have H1 := Lib.hid h1
  have HM := Lib.hid (made_ok h1)
  have c0 := h.c0
  have lp := h.lp
  have n2 := h1.n2
  have HQ := Lib.hid h1.lq
  clear b1 h1 h
  go_enter Tryd.func24, Tryd.ntmps24
  go_wp2_with fail
  refine HM.out.mono ?_
  rintro e w1 ⟨rfl, rfl⟩
  go_wp2
  have b2 := below_box0 (w.alloc (.cells #[.int .i64 0, .slice none 0 0] 45)) (.cells #[.int .i64 X.st.length, .slice none 0 0] 45)
  obtain ⟨W0, hW0⟩ : ∃ W, (w.alloc (.cells #[.int .i64 0, .slice none 0 0] 45)).alloc (.cells #[.int .i64 X.st.length, .slice none 0 0] 45) = W := ⟨_, rfl⟩
  have hS0 : SvL w W0 X.st.length 0 (.slice none 0 0) (fun _ => undef) (fun _ => undef) (stS X) := by
    refine ⟨?_, ?_, OSt.nil _ _ _ _, ?_⟩
    · rw [← hW0]
      have := heap_alloc_new (w.alloc (.cells #[.int .i64 0, .slice none 0 0] 45)) (.cells #[.int .i64 X.st.length, .slice none 0 0] 45)
      rwa [World.size_alloc] at this
    · rw [← hW0]
      exact (Below.heap_alloc _ _ _ (by simp)).trans (heap_alloc_new w _)
    · rw [← hW0]; exact below_tr HB1.out b2
  rw [hW0]
  have HS0 := Lib.hid hS0
  clear hW0 hS0 b2 c0 lp HM H1
  obtain ⟨n, hn⟩ : ∃ n, X.st.length = n := ⟨_, rfl⟩
  have HN := Lib.hid hn
  rw [hn] at HS0 n2 ⊢
  clear hn
  go_loopw [23] (fun x wr => ∃ (i : Nat) (v : Value) (K L : Nat → Value), i ≤ n ∧ x = .int .i64 i ∧ Hid (SvL w wr n i v K L (stS X))) (fun x _ => n - (intOf x).toNat)
  case atStart => exact ⟨0, _, _, _, Nat.zero_le _, rfl, HS0⟩
  case round =>
    obtain ⟨i, v, K, L, hi, rfl, HSv⟩ := hrel
    have HT := Lib.hid (H0.out.below HSv.out.k)
    by_cases hlt : i < n
    · have hli : (i : Int) < (n : Int) := by omega
      have hl0 : (0 : Int) ≤ (i : Int) := by omega
      have hin : i < X.st.length := by rw [HN.out]; exact hlt
      obtain ⟨x, hx⟩ : ∃ x, X.N i = x := ⟨_, rfl⟩
      have hr : wr.rangeAt q (i * 26) (ndc x) := fun j u hu => by
        have hj : j < 26 := by
          have := (List.getElem?_eq_some_iff.1 hu).1
          rwa [ndc_length] at this
        rw [HT.out.at_ hin hj, ← hu, ← hx]
      have HR := Lib.hid hr
      have HI : Hid ((Tryd.prog.info? 90).map (·.size) = some (ndc x).length) := Lib.hid (by rw [ndc_length]; kernel_rfl)
      have HI2 : Hid ((Tryd.prog.info? 90).map (·.size) = some (ndc x).toArray.size) := Lib.hid (by rw [List.size_toArray, ndc_length]; kernel_rfl)
      have HO1 := Lib.hid (all_oneCell_toArray (ndc_one x))
      have HX := Lib.hid hx
      have HIN := Lib.hid hin
      clear hr hx hin
      go_upto_region 7 with (first | (refine wpList_load_mid rfl 90 (.tmp 25) rfl q (i * 26) rfl (ndc x) _ HR.out Tryd.underlying90 rfl HI.out ?_) | (refine wpList_store_mid rfl 90 (.tmp 5) (.tmp 26) rfl wr.heap.size 0 (ndc x).toArray rfl rfl (there_new26 wr _ _ x (by decide)) HI2.out HO1.out ?_) | fail)
      generalize hW6 : World.setCells _ _ _ _ = W6
      have B6 : Hid (Below wr.heap.size wr W6) := Lib.hid (by rw [← hW6]; exact below_box26 _ _ _)
      have X6 : Hid (W6.heap[wr.heap.size]? = some (.cells (ndc x).toArray 90 (0, 0))) := Lib.hid (by rw [← hW6]; exact box_new26 _ _ _ _ (by decide))
      clear hW6 HR HI HI2 HO1
      have hlv : W6.cell? ⟨wr.heap.size, 0, none⟩ = some (.int .i64 x.lv) := by rw [cell_of_block X6.out]; rfl
      have hk16 : kN x.lv ≤ 16 := by unfold kN; split; · omega
                                     · split <;> omega
      have hw8 : wN x.lv ≤ 8 := by unfold wN; split <;> omega
      have hws := HSv.out.k.size
      have hs2 : w.heap.size + 2 ≤ wr.heap.size := by have := blk_lt HSv.out.bx; omega
      have hs6 := B6.out.size
      have q6 : W6.cell? ⟨w.heap.size + 1, 1, none⟩ = some v := by
        have hb := (B6.out.block _ (blk_lt HSv.out.bx)).trans HSv.out.bx
        rw [cell_of_block hb]; rfl
      have HSZ := Lib.hid (sizes_ok x.lv)
      -- the two clones
      have CI : Hid (∀ W', Below W6.heap.size W6 W' → Calls Tryd.prog 48 #[.slice (some ⟨wr.heap.size, 2, none⟩) (kN x.lv) 16] W' fun e w' => ∃ a c, e = .returned (.slice a (rnOf x).ks.length c) ∧ w'.ownsRow (wr.heap.size + 1) 3 1 (.slice a (rnOf x).ks.length c) (rnOf x).ks.length (intsV (rnOf x).ks) ∧ Below W'.heap.size W' w') := Lib.hid (fun W' hb => by
        have hx := (hb.block _ (blk_lt X6.out)).trans X6.out
        have hl : (rnOf x).ks.length = kN x.lv := by simp [rnOf]
        have := cloneI_ok (c := 16) (box_kids hx hk16) (fun u hu => by unfold intsV at hu; simp at hu; obtain ⟨_, _, rfl⟩ := hu; rfl) (by omega)
        refine this.mono fun e w' ⟨v, he, ho, hbl⟩ => ?_
        obtain ⟨a, c, rfl⟩ := own_slice' ho
        rw [hl]
        exact ⟨a, c, he, own_leW ho (blk_lt hx), hbl⟩)
      have CU : Hid (∀ W', Below W6.heap.size W6 W' → Calls Tryd.prog 49 #[.slice (some ⟨wr.heap.size, 18, none⟩) (wN x.lv) 8] W' fun e w' => ∃ a c, e = .returned (.slice a (rnOf x).ws.length c) ∧ w'.ownsRow (wr.heap.size + 1) 24 1 (.slice a (rnOf x).ws.length c) (rnOf x).ws.length (u64s (rnOf x).ws) ∧ Below W'.heap.size W' w') := Lib.hid (fun W' hb => by
        have hx := (hb.block _ (blk_lt X6.out)).trans X6.out
        have hl : (rnOf x).ws.length = wN x.lv := by simp [rnOf]
        have := cloneU_ok (c := 8) (box_words hx hw8) (fun u hu => by unfold u64s at hu; simp at hu; obtain ⟨_, _, rfl⟩ := hu; rfl) (by omega)
        refine this.mono fun e w' ⟨v, he, ho, hbl⟩ => ?_
        obtain ⟨a, c, rfl⟩ := own_slice' ho
        rw [hl]
        exact ⟨a, c, he, own_leW ho (blk_lt hx), hbl⟩)
      have HROW : Hid (∀ W', Below W6.heap.size W6 W' → W'.ownsRow (w.heap.size + 2) 60 3 v i (rnC K L ((stS X).take i))) := Lib.hid (fun W' hb => by
        have hlen : ((stS X).take i).length = i := by rw [List.length_take, stS_len, HN.out]; omega
        have := own_belowW (own_belowW HSv.out.st.row B6.out) hb
        rw [hlen] at this
        exact this)
      have HTK : Hid ((stS X).take (i + 1) = (stS X).take i ++ [rnOf x]) := Lib.hid (by rw [stS_take X HIN.out, HX.out])
      have HLT : Hid (i < (stS X).length) := Lib.hid (by rw [stS_len, HN.out]; exact hlt)
      have HNB : Hid (∀ W', Below W6.heap.size W6 W' → ∀ w9, W'.grownBy w9 v.ownBlock → w9.cell? ⟨wr.heap.size, 0, none⟩ = some (.int .i64 x.lv) ∧ w9.cell? ⟨w.heap.size + 1, 1, none⟩ = some v ∧ w9.frozen? ⟨w.heap.size + 1, 1, none⟩ = false) := Lib.hid (fun W' hb w9 hg => by
        have hn : ∀ k, k < w.heap.size + 2 → v.ownBlock ≠ some k := fun k hk e => by have := (HSv.out.st.row.lt k e).1; omega
        have hn2 : v.ownBlock ≠ some wr.heap.size := fun e => by have := (HSv.out.st.row.lt _ e).2; omega
        have hbs := hb.size
        have hl6 := blk_lt X6.out
        refine ⟨?_, ?_⟩
        · rw [World.cell?_of_block (a := ⟨wr.heap.size, 0, none⟩) (hg.block _ (by dsimp only; omega) (fun e => hn2 e.symm))]
          exact cell_later hb hlv
        · have hb9 : w9.heap[w.heap.size + 1]? = some (.cells #[.int .i64 (n : Int), v] 45 (0, 0)) := by
            rw [hg.block _ (by omega) (fun e => hn _ (by omega) e.symm), hb.block _ (by omega), B6.out.block _ (blk_lt HSv.out.bx)]
            exact HSv.out.bx
          exact ⟨by rw [cell_of_block hb9]; rfl, unfrozen_of_block hb9 1⟩)
      have k0 : (0 : Int) ≤ (kN x.lv : Int) := by omega
      have k1 : (kN x.lv : Int) ≤ 16 := by omega
      have u0 : (0 : Int) ≤ (wN x.lv : Int) := by omega
      have u1 : (wN x.lv : Int) ≤ 8 := by omega
      go_wp2_with fail
      refine (HSZ.out _).mono ?_
      rintro e w7 ⟨rfl, rfl⟩
      go_upto_region 8 with fail
      have HSX : Hid (∀ W', Below W6.heap.size W6 W' → w.heap.size + 2 ≤ W'.heap.size) := Lib.hid (fun W' hb => by have := hb.size; omega)
      go_region_law (first
          | (refine step_append_any _ rfl (.tmp 34) (.tmp 46) 43 rfl (w.heap.size + 2) 60 i0 _ 3 56 Tryd.underlying43 hi0 hz0 hz1 hz2' rfl (by decide) v i (rnC K L ((stS X).take i)) (by simp [Act.eval]) (HROW.out _ (below_tr gU.out (below_box0 _ _))) (w8.heap.size + 1) (some ⟨w8.heap.size, 0, none⟩) 1 1 [.int .i64 x.lv, .slice ka (rnOf x).ks.length kc, .slice ua (rnOf x).ws.length uc] (by simp [Act.eval]) (reads_new3 w8 _ _ _ _) (one3 _ _ _ _ _ _ _) (by unfold maxLen; omega) (by omega) (HSX.out _ (below_tr gU.out (below_box0 _ _))) ?_; intro v' w9 hown hg hat; obtain ⟨na, nc, rfl⟩ := own_slice' hown; have NX := Lib.hid (SvL.next HSv.out (below_tr B6.out (below_tr gU.out (below_box0 _ _))) (own_belowW OK2.out (below_box0 _ _)) (own_belowW OU.out (below_box0 _ _)) hown hg HLT.out HTK.out); have n9 := HNB.out _ (below_tr gU.out (below_box0 _ _)) _ hg; have s9 := n9.1; have c9 := n9.2.1; have f9 := n9.2.2)
          | (refine step_append_any _ rfl (.tmp 34) (.tmp 46) 43 rfl (w.heap.size + 2) 60 i0 _ 3 56 Tryd.underlying43 hi0 hz0 hz1 hz2' rfl (by decide) v i (rnC K L ((stS X).take i)) (by simp [Act.eval, Act.put]) (HROW.out _ (below_tr gI.out (below_box0 _ _))) (w7.heap.size + 1) (some ⟨w7.heap.size, 0, none⟩) 1 1 [.int .i64 x.lv, .slice ka (rnOf x).ks.length kc, .slice ua (rnOf x).ws.length uc] (by simp [Act.eval, Act.put]) (reads_new3 w7 _ _ _ _) (one3 _ _ _ _ _ _ _) (by unfold maxLen; omega) (by omega) (HSX.out _ (below_tr gI.out (below_box0 _ _))) ?_; intro v' w9 hown hg hat; obtain ⟨na, nc, rfl⟩ := own_slice' hown; have NX := Lib.hid (SvL.next HSv.out (below_tr B6.out (below_tr gI.out (below_box0 _ _))) (own_belowW OK.out (below_box0 _ _)) (own_belowW OU2.out (below_box0 _ _)) hown hg HLT.out HTK.out); have n9 := HNB.out _ (below_tr gI.out (below_box0 _ _)) _ hg; have s9 := n9.1; have c9 := n9.2.1; have f9 := n9.2.2)
          | (go_simp; go_at_call 48; refine (CI.out _ gU.out).mono ?_; rintro e w7 ⟨ka, kc, rfl, ok, bk⟩; have gI := Lib.hid (below_tr gU.out bk); have OK := Lib.hid ok; have OU2 := Lib.hid (own_belowW OU.out bk); have qI := cell_later gI.out q6; have sI := cell_later gI.out hlv; have lI : w.heap.size + 1 < w7.heap.size := World.block_lt_of_cell? _ _ qI)
          | (go_simp; go_at_call 48; refine (CI.out _ (Below.refl _ _).drew).mono ?_; rintro e w7 ⟨ka, kc, rfl, ok, bk⟩; have gI := Lib.hid (below_tr (Below.refl _ W6).drew bk); have OK := Lib.hid ok; have qI := cell_later gI.out q6; have sI := cell_later gI.out hlv; have lI : w.heap.size + 1 < w7.heap.size := World.block_lt_of_cell? _ _ qI)
          | (go_simp; go_at_call 49; refine (CU.out _ gI.out).mono ?_; rintro e w8 ⟨ua, uc, rfl, ou, bu⟩; have gU := Lib.hid (below_tr gI.out bu); have OU := Lib.hid ou; have OK2 := Lib.hid (own_belowW OK.out bu); have qU := cell_later gU.out q6; have sU := cell_later gU.out hlv; have lU : w.heap.size + 1 < w8.heap.size := World.block_lt_of_cell? _ _ qU)
          | (go_simp; go_at_call 49; refine (CU.out _ (Below.refl _ _).drew).mono ?_; rintro e w8 ⟨ua, uc, rfl, ou, bu⟩; have gU := Lib.hid (below_tr (Below.refl _ W6).drew bu); have OU := Lib.hid ou; have qU := cell_later gU.out q6; have sU := cell_later gU.out hlv; have lU : w.heap.size + 1 < w8.heap.size := World.block_lt_of_cell? _ _ qU))
      all_goals
        clear n9 s9 c9 f9 hown hg hat CI CU HROW HNB HSX HTK HLT
        go_wp2
        go_roundw
        case rel => exact ⟨i + 1, _, _, _, by omega, by go_num, NX⟩
        case measure => simp [intOf]; omega
    · obtain rfl : i = n := by omega
      have hli : ¬ ((i : Int) < (i : Int)) := by omega
      have b0 := HSv.out.bx
      have b1 := HSv.out.out
      obtain ⟨va, vc, rfl⟩ := own_slice' HSv.out.st.row
      have hlen : ((stS X).take i).length = i := by rw [List.length_take, stS_len, HN.out]; omega
      rw [hlen] at b0
      have q0 : wr.cell? ⟨w.heap.size + 1, 0, none⟩ = some (.int .i64 (i : Int)) := by rw [cell_of_block b0]; rfl
      have q1 : wr.cell? ⟨w.heap.size + 1, 1, none⟩ = some (.slice va i vc) := by rw [cell_of_block b0]; rfl
      have p0 : wr.cell? ⟨w.heap.size, 0, none⟩ = some (.int .i64 0) := by rw [cell_of_block b1]; rfl
      have p1 : wr.cell? ⟨w.heap.size, 1, none⟩ = some (.slice none 0 0) := by rw [cell_of_block b1]; rfl
      have fz : ∀ j, wr.frozen? ⟨w.heap.size, j, none⟩ = false := fun j => unfrozen_of_block b1 j
      have hst : OSt ((wr.setCell ⟨w.heap.size, 0, none⟩ (.int .i64 (i : Int))).setCell ⟨w.heap.size, 1, none⟩ (.slice va i vc)) w.heap.size (.slice va i vc) K L (stS X) := by
        have h1 := HSv.out.st
        rw [hlen, List.take_of_length_le (by rw [stS_len, HN.out]; exact Nat.le_refl _)] at h1
        exact ((h1.setBelow (a := ⟨w.heap.size, 0, none⟩) (by dsimp only; omega) _).setBelow (a := ⟨w.heap.size, 1, none⟩) (by dsimp only; omega) _).le (by omega)
      have HST := Lib.hid hst
      have HK := Lib.hid ((HSv.out.k.setCell (p := ⟨w.heap.size, 0, none⟩) (Nat.le_refl _) (.int .i64 (i : Int))).setCell (p := ⟨w.heap.size, 1, none⟩) (Nat.le_refl _) (.slice va i vc))
      clear b0 b1 hst hlen
      go_wp2
      exact bodyPost_ret (v := .agg #[.int .i64 (i : Int), .slice va i vc]) (by simp [results, Tryd.results24, go_sem, p0, p1]) rfl ⟨va, vc, by rw [HN.out], ⟨K, L, by rw [HN.out]; exact HST.out⟩, HK.out⟩
end
end Go.Proofs.YtfmclbacoffdaaaDoor

namespace Go.Proofs.YtfmclbacoffdaaaDoor
open Go.RowKit Go.Sort Go.Joins
attribute [local go_sem] cell_grow frozen_grow size_grow
theorem stS_bd (X : RM) (j : Nat) : ((stS X).getD j rn0).ks.length ≤ 10000 ∧ ((stS X).getD j rn0).ws.length ≤ 10000 := by
  by_cases hj : j < X.st.length
  · rw [stS_get X hj]
    unfold rnOf kN wN
    simp only [List.length_map, List.length_range]
    constructor
    · split
      · decide
      · split <;> decide
    · split <;> decide
  · have e : (stS X).getD j rn0 = rn0 := by
      rw [List.getD_eq_getElem?_getD, List.getElem?_eq_none (by rw [stS_len]; omega)]; rfl
    rw [e]; decide
/-- Same of two saved states -/
theorem same_st {w : World} {a1 a2 : Option Addr} {c1 c2 n1 n2 : Nat} {X Y : RM} (h1 : StR w a1 (stS X)) (h2 : StR w a2 (stS Y)) (l1 : X.st.length = n1) (l2 : Y.st.length = n2) (hn : n1 ≤ 145) (m1 m2 : Int) :
    Calls Tryd.prog 23 #[.agg #[.int .i64 m1, .slice a1 n1 c1], .agg #[.int .i64 m2, .slice a2 n2 c2]] w fun e w' => e = .returned (.bool (smS m1 m2 (stS X) (stS Y))) ∧ Below w.heap.size w w' := by
  have h := same_ok (c1 := c1) (c2 := c2) (m1 := m1) (m2 := m2) h1 h2 (by rw [stS_len]; omega) (fun j => (stS_bd X j).1) (fun j => (stS_bd X j).2)
  rwa [stS_len, stS_len, l1, l2] at h
section
variable {w : World} {a : Option Addr} {n cap : Nat} {C : Nat → Cl}
set_option maxRecDepth 100000 in
set_option maxHeartbeats 1600000 in
theorem empty_nil (N : Int) (h : N < 1 ∨ 145 < N ∨ 40 < n) (hT : Tab w) : Calls Tryd.prog 5 #[.int .i64 N, .slice a n cap] w fun e w' => e = .returned (.bool true) ∧ Below w.heap.size w w' := by
  have HM := Lib.hid (mkd_nil (w := w) (a := a) (cap := cap) N h)
  have HT := Lib.hid hT
  clear h hT
  go_enter Tryd.func5, Tryd.ntmps5
  go_wp2_with fail
  refine HM.out.mono ?_
  rintro e w1 ⟨rfl, b1⟩
  have B1 := Lib.hid b1
  clear b1
  go_wp2_with fail
  refine (awake_ok _ (HT.out.below B1.out)).mono ?_
  rintro e w2 ⟨rfl, b2⟩
  have B2 := Lib.hid (below_tr B1.out b2)
  clear b2
  go_wp2
  go_ret
  exact ⟨rfl, B2.out⟩
set_option maxRecDepth 100000 in
set_option maxHeartbeats 6400000 in
theorem empty_in (N : Nat) (h1 : 1 ≤ N) (h2 : N ≤ 145) (hn : n ≤ 40) (hC : SlC w a n C) (hT : Tab w) : Calls Tryd.prog 5 #[.int .i64 N, .slice a n cap] w fun e w' => e = .returned (.bool true) ∧ Below w.heap.size w w' := by
  have HM := Lib.hid (mkd_ok (cap := cap) N h1 h2 hn hC hT)
  have hG := RGood.mkM h1 C n
  have hl := (mkM_all h1 C n).2.2
  have hv := LvS.mkM N C n
  obtain ⟨X, hX⟩ : ∃ X, mkM N C n = X := ⟨_, rfl⟩
  rw [hX] at HM hG hl hv
  obtain ⟨hE1, hE2, hE3, hE4⟩ := clr_all hG.a hv
  have HG := Lib.hid hG
  have HL := Lib.hid hl
  obtain ⟨Y, hY⟩ : ∃ Y, clrX X 0 1024 = Y := ⟨_, rfl⟩
  rw [hY] at hE1 hE2 hE3 hE4
  have HY := Lib.hid hY
  have HYL : Hid (Y.st.length = N) := Lib.hid (hE3.trans hl)
  have HNL : Hid ((newM N).st.length = N) := Lib.hid (newM_len N)
  have HSM : Hid (smS (N : Int) (N : Int) (stS Y) (stS (newM N)) = true) := Lib.hid (decide_eq_true ⟨rfl, by rw [hE4, hl]⟩)
  have HYM := Lib.hid hE2
  have HT := Lib.hid hT
  have HN := Lib.hid (fun w => newm_ok N w h1 h2)
  have HN145 := Lib.hid h2
  clear hG hl hv hX hE1 hE2 hE3 hE4 hY hC hT
  go_enter Tryd.func5, Tryd.ntmps5
  go_wp2_with fail
  refine HM.out.mono ?_
  rintro e w1 ⟨rfl, m1, b1⟩
  have M1 := Lib.hid m1
  have B1 := Lib.hid b1
  clear m1 b1 HM
  go_wp2_with fail
  refine (HN.out _).mono ?_
  rintro e w2 ⟨rfl, m2, b2⟩
  have M2 := Lib.hid (M1.out.below b2)
  have N2 := Lib.hid m2
  have B2 := Lib.hid (below_tr B1.out b2)
  clear m2 b2 HN
  have hs1 := B1.out.size
  have hlp := M1.out.lp
  have HCL := Lib.hid (clear_ok M2.out HG.out.a B2.out.size 0 1024)
  rw [HY.out, show paE 0 1024 = 0 by decide] at HCL
  go_wp2_with fail
  refine HCL.out.mono ?_
  rintro e w3 ⟨rfl, m3, f3⟩
  have M3 := Lib.hid m3
  have N3 := Lib.hid (TM.other N2.out M2.out f3 (by omega) (by omega))
  have B3 := Lib.hid (Fr.below B2.out f3 (Nat.le_succ _) (Nat.le_refl _) B2.out.size)
  clear m3 f3 HCL
  have HND := Lib.hid (nodes_ok M3.out)
  rw [HYM.out] at HND
  go_wp2_with fail
  refine HND.out.mono ?_
  rintro e w4 ⟨rfl, rfl⟩
  have HSV := Lib.hid (save_ok M3.out)
  have HSV2 := Lib.hid (fun w' hb => save_ok (N3.out.below (w' := w') hb))
  rw [HYL.out] at HSV
  rw [HNL.out] at HSV2
  go_wp2_with fail
  refine HSV.out.mono ?_
  rintro e w5 ⟨a5, c5, rfl, ⟨K5, L5, o5⟩, b5⟩
  have S5 := Lib.hid o5.str
  have B5 := Lib.hid b5
  clear o5 b5 HSV
  go_wp2_with fail
  refine (HSV2.out _ B5.out).mono ?_
  rintro e w6 ⟨a6, c6, rfl, ⟨K6, L6, o6⟩, b6⟩
  have S6 := Lib.hid o6.str
  have S5' := Lib.hid (S5.out.below b6)
  have B6 := Lib.hid (below_tr B3.out (below_tr B5.out b6))
  clear o6 b6 HSV2
  have HSA := Lib.hid (same_st (c1 := c5) (c2 := c6) S5'.out S6.out HYL.out HNL.out HN145.out (N : Int) (N : Int))
  rw [HSM.out] at HSA
  go_wp2_with fail
  refine HSA.out.mono ?_
  rintro e w7 ⟨rfl, b7⟩
  have B7 := Lib.hid (below_tr B6.out b7)
  clear b7
  go_wp2_with fail
  refine (awake_ok _ (HT.out.below B7.out)).mono ?_
  rintro e w8 ⟨rfl, b8⟩
  have B8 := Lib.hid (below_tr B7.out b8)
  clear b8
  go_wp2
  go_ret
  exact ⟨rfl, B8.out⟩
/-- RadixEmpty returns true -/
theorem law_empty (N : Int) (hC : SlC w a n C) (hT : Tab w) : Calls Tryd.prog 5 #[.int .i64 N, .slice a n cap] w fun e w' => e = .returned (.bool true) ∧ Below w.heap.size w w' := by
  by_cases h : N < 1 ∨ 145 < N ∨ 40 < n
  · exact empty_nil N h hT
  · obtain ⟨N', rfl⟩ := Int.eq_ofNat_of_zero_le (show 0 ≤ N by omega)
    exact empty_in N' (by omega) (by omega) (by omega) hC hT
end
end Go.Proofs.YtfmclbacoffdaaaDoor

namespace Go.Proofs.YtfmclbacoffdaaaDoor
open Go.ChangeShapes Go.WideShapes Go.ChangeAt Go.RowKit

theorem own : ownKnob Tryd.prog.godebug = none := by kernel_rfl
theorem gTab : Tryd.prog.globalNamed "math/bits.deBruijn64tab" = some 0 := by kernel_rfl
theorem gTabType : (Tryd.prog.globals[0]?).map (·.type) = some 129 := by kernel_rfl
theorem cellsTab : Tryd.prog.cellsOf 129 = 64 := by kernel_rfl
theorem cellsU8 : Tryd.prog.cellsOf 5 = 1 := by kernel_rfl

theorem tab_of {W : World} (h : laidMetH Tryd.prog [("math/bits.deBruijn64tab", Rows.laid_math_bits_deBruijn64tab)] W) : Tab W := by
  have ht : Lib.TabIs Tryd.prog W "math/bits.deBruijn64tab" .u8 (Lib.deBruijn64tab.map fun (x : Nat) => (x : Int)) :=
    Lib.tabIs_of_head (rest := []) gTab gTabType Tryd.underlying129 Tryd.underlying5 cellsU8 cellsTab h
  intro i hi
  have := ht.cell gTab i (by rw [List.length_map]; exact hi)
  rw [this]
  have e : (Lib.deBruijn64tab.map fun (x : Nat) => (x : Int)).getD i 0 = ((Lib.deBruijn64tab.getD i 0 : Nat) : Int) := by
    have h64 : Lib.deBruijn64tab.length = 64 := rfl
    simp [List.getD_eq_getElem?_getD, h64, hi]
  rw [e]

/-- A world for the witness: the settled one, the table holding what its initialiser lays. -/
noncomputable def laidWorld (os : Os) : World :=
  { World.holding Tryd.prog os ⟨#[], #[], []⟩ with heap := (World.holding Tryd.prog os ⟨#[], #[], []⟩).heap.modify 0 fun
      | .cells _ t frozen => .cells (Lib.deBruijn64tab.map fun (x : Nat) => Value.int .u8 (x : Int)).toArray t frozen
      | o => o }
theorem laidOut : laidOutB Tryd.prog = true := by kernel_rfl

theorem trodAll_below {H : Type} {enc : TypeId × Value → H} {W W' : World} (hb : Below W.heap.size W W') (ts : List TypeId) : ∀ (vs : List Value) (ds : List (DataW H)) (ps : List MemPlace),
    (ts.all fun t => Tryd.prog.readableRec t && decide (t < Tryd.prog.types.size)) = true → (∀ x ∈ ps, x.block < W.heap.size) → DataW.TrodAll enc Tryd.prog W 0 (fun _ => true) true ts vs ds ps →
    DataW.TrodAll enc Tryd.prog W' 0 (fun b => decide (b < W.heap.size)) true ts vs ds ps := by
  induction ts with
  | nil =>
    intro vs ds ps _ _ h
    obtain ⟨rfl, rfl, rfl⟩ := trodAll_nil h
    exact trodAll_mk0
  | cons t ts ih =>
    intro vs ds ps hr hlt h
    obtain ⟨v, vs', d, ds', p, q, rfl, rfl, rfl, h1, h2⟩ := trodAll_cons h
    rw [List.all_cons, Bool.and_eq_true, Bool.and_eq_true] at hr
    exact trodAll_cons_mk (Below.trod laidOut hr.1.1 (of_decide_eq_true hr.1.2) h1 hb (fun x hx => hlt x (List.mem_append_left _ hx))) (ih vs' ds' q hr.2 (fun x hx => hlt x (List.mem_append_right _ hx)) h2)

/-- WHAT A LAW's WALK GIVES THE ROW: true, the arguments read as they did. -/
theorem law_post {H : Type} {enc : TypeId × Value → H} {fn : Func} {s : ChangeSpec} {W W' : World} {args : Array Value} {ds gs : List (DataW H)} {before : List MemPlace}
    (hW : DataW.Whole enc Tryd.prog fn.params.toList s.vars false W args.toList ds gs before) (hv : s.vars = []) (hr : (fn.params.toList.all fun t => Tryd.prog.readableRec t && decide (t < Tryd.prog.types.size)) = true) (hrt : fn.resultTypes = #[4])
    (h1 : (s.fn H (ds ++ gs)).results = [.lit (.bool true)]) (h2 : (s.fn H (ds ++ gs)).args = ds) (h3 : (s.fn H (ds ++ gs)).vars = []) (hb : Below W.heap.size W W') :
    s.post enc Tryd.prog fn false true false false W args (.bool true) W' := by
  have hW' := hW
  have hlt := hW.lt
  obtain ⟨p, q, hA, hV, rfl, hfz, hnd⟩ := hW
  refine ⟨ds, gs, p ++ q, [], p, [], hW', ?_, ?_, ?_, hb.frame _, fun h => by cases h⟩
  · rw [h1, hrt]
    exact trodAll_cons_mk (shut_bool Tryd.underlying4 _) trodAll_mk0
  · rw [h2]
    exact trodAll_below hb _ _ _ _ hr (fun x hx => hlt x (List.mem_append_left _ hx)) hA
  · rw [h3, hv]; rfl
end Go.Proofs.YtfmclbacoffdaaaDoor
