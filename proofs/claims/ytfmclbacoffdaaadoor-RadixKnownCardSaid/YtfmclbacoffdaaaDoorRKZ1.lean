/- The radix map: same, sameRuns of the law: of equal lists. | The radix map: RadixKnown returns true: the examples. | The frame of a statement of this seat: the table of math/bits as the row lists it. | RadixKnown returns true for every input, on every schedule; its arguments read afterwards as they read before. No condition beyond the row's own. -/
import Derived.Test.YtfmclbacoffdaaaDoorRWZ2
import Derived.Deep.QuietTactic
import Derived.BigQuiet
import Derived.Test.YtfmclbacoffdaaaDoorRZ10
import Derived.Test.YtfmclbacoffdaaaDoorRZ9
import Derived.Test.YtfmclbacoffdaaaDoorRSZ5
import Derived.Test.YtfmclbacoffdaaaDoorRSZ1
import Derived.Test.YtfmclbacoffdaaaDoorRWZ1
import Derived.Test.YtfmclbacoffdaaaDoorCards
import Derived.Test.YtfmclbacoffdaaaDoorTie
import Derived.Test.YtfmclbacoffdaaaDoorRZ2
import Derived.ProofKit
import Derived.OpenShut
import Derived.Deep.DeepHandedRow
import Derived.Lib.LaidTab
namespace Go.Proofs.YtfmclbacoffdaaaDoor
open Go.RowKit Go.Sort Go.Joins
attribute [local go_sem] cell_grow frozen_grow size_grow
/-- a slice of elements of one cell reads as a list -/
def RdV (W : World) (a : Option Addr) (n : Nat) (F : Nat → Int) : Prop := n = 0 ∨ ∃ b o, a = some ⟨b, o, none⟩ ∧ b < W.heap.size ∧ ∀ j, j < n → W.cell? ⟨b, o + j, none⟩ = some (.int .i64 (F j))
theorem RdV.below {W W' : World} {a : Option Addr} {n : Nat} {F : Nat → Int} (h : RdV W a n F) (hb : Below W.heap.size W W') : RdV W' a n F := by
  rcases h with h | ⟨b, o, ha, hl, hc⟩
  · exact .inl h
  · exact .inr ⟨b, o, ha, Nat.lt_of_lt_of_le hl hb.size, fun j hj => (hb.cell (p := ⟨b, o + j, none⟩) hl).trans (hc j hj)⟩
theorem RdV.at_ {W : World} {a : Option Addr} {n : Nat} {F : Nat → Int} (h : RdV W a n F) {k : Nat} (hk : k < n) : ∃ b o, a = some ⟨b, o, none⟩ ∧ b < W.heap.size ∧ W.cell? ⟨b, o + k, none⟩ = some (.int .i64 (F k)) := by
  rcases h with h | ⟨b, o, ha, hl, hc⟩
  · omega
  · exact ⟨b, o, ha, hl, hc k hk⟩
theorem RdV.of_own {W : World} {B n c : Nat} {a : Option Addr} {L : List Nat} (h : W.ownsRow B 3 1 (.slice a n c) n (pgV L)) (hn : n = L.length) : RdV W a n (fun j => ((L.getD j 0 : Nat) : Int)) := by
  by_cases h0 : n = 0
  · exact .inl h0
  · obtain ⟨g, cap, hv⟩ := ownsRow_form h (by omega)
    cases hv
    refine .inr ⟨g, 0, rfl, (h.lt g rfl).2, fun j hj => ?_⟩
    rw [Nat.zero_add, h.cellAt j (by omega)]
    unfold pgV
    simp [List.getD, show j < L.length by omega]
set_option maxRecDepth 100000 in
set_option maxHeartbeats 1600000 in
theorem same_ok7 {w : World} {a b : Option Addr} {n c d : Nat} {F : Nat → Int} (hA : RdV w a n F) (hB : RdV w b n F) (hn : n ≤ 9223372036854775807) :
    Calls Tryd.prog 39 #[.slice a n c, .slice b n d] w fun e w' => e = .returned (.bool true) ∧ Below w.heap.size w w' := by
  have HA := Lib.hid hA
  have HB := Lib.hid hB
  have d0 : ((n : Int) != (n : Int)) = false := by simp
  clear hA hB
  go_enter Tryd.func39, Tryd.ntmps39
  go_wp2
  go_loopw [5] (fun i wr => ∃ k : Nat, k ≤ n ∧ i = .int .i64 k ∧ Hid (Below w.heap.size w wr)) (fun i _ => n - (intOf i).toNat)
  case atStart => exact ⟨0, Nat.zero_le _, rfl, Lib.hid (Below.refl _ _)⟩
  case round =>
    obtain ⟨k, hk, rfl, BR⟩ := hrel
    by_cases hlt : k < n
    · obtain ⟨b1, o1, rfl, l1, c1⟩ := (HA.out.below BR.out).at_ hlt
      obtain ⟨b2, o2, rfl, l2, c2⟩ := (HB.out.below BR.out).at_ hlt
      have i1 : (k : Int) < (n : Int) := by omega
      have i0 : (0 : Int) ≤ (k : Int) := by omega
      have dn : (F k != F k) = false := by simp
      have hwk : IntKind.i64.wrap ((k : Int) + 1) = (k : Int) + 1 := IntWalk.i64_in _ (by omega)
      go_wp2_with fail
      go_quiet (fail)
      have BD := Lib.hid (below_tr BR.out (below_draw wr nq))
      go_wp2
      go_roundw
      case rel => exact ⟨k + 1, by omega, by go_num, BD⟩
      case measure => simp [intOf]; omega
    · obtain rfl : k = n := by omega
      have i1 : ¬ ((k : Int) < (k : Int)) := by omega
      go_wp2
      go_ret
      exact ⟨rfl, BR.out⟩
theorem neq_run7 (f t o s c : Int) (g : Bool) (w : World) : Sem.run Tryd.prog (binOp .neq 56 (.agg #[.int .i64 f, .int .i64 t, .int .i64 o, .int .i64 s, .int .i64 c, .bool g]) (.agg #[.int .i64 f, .int .i64 t, .int .i64 o, .int .i64 s, .int .i64 c, .bool g])) w = .ok (.bool false) w := by
  have u3 := Tryd.underlying3
  have u2 := Tryd.underlying2
  have u4 := Tryd.underlying4
  have hS : Tryd.prog.underlying 56 = some (.struct (Tryd.prog.fieldsOf 56)) := by kernel_rfl
  have hp : Tryd.prog.stoodInHeld 56 = false := by kernel_rfl
  rw [run_neq_struct, show (10000 : Nat) = 9999 + 1 from rfl, run_equalIn_agg w 9999 56 _ _ hS hp]
  simp only [Program.fieldsOf, Tryd.underlying56]
  go_simp
/-- a run, as cells -/
structure Ru where
  f : Int
  t : Int
  o : Int
  s : Int
  c : Int
  g : Bool
structure RuAt (W : World) (b o : Nat) (x : Ru) : Prop where
  c0 : W.cell? ⟨b, o, none⟩ = some (.int .i64 x.f)
  c1 : W.cell? ⟨b, o + 1, none⟩ = some (.int .i64 x.t)
  c2 : W.cell? ⟨b, o + 2, none⟩ = some (.int .i64 x.o)
  c3 : W.cell? ⟨b, o + 3, none⟩ = some (.int .i64 x.s)
  c4 : W.cell? ⟨b, o + 4, none⟩ = some (.int .i64 x.c)
  c5 : W.cell? ⟨b, o + 5, none⟩ = some (.bool x.g)
theorem RuAt.below {W W' : World} {b o : Nat} {x : Ru} (h : RuAt W b o x) (hl : b < W.heap.size) (hb : Below W.heap.size W W') : RuAt W' b o x :=
  ⟨(hb.cell (p := ⟨b, o, none⟩) hl).trans h.c0, (hb.cell (p := ⟨b, o + 1, none⟩) hl).trans h.c1, (hb.cell (p := ⟨b, o + 2, none⟩) hl).trans h.c2, (hb.cell (p := ⟨b, o + 3, none⟩) hl).trans h.c3, (hb.cell (p := ⟨b, o + 4, none⟩) hl).trans h.c4, (hb.cell (p := ⟨b, o + 5, none⟩) hl).trans h.c5⟩
def RdU (W : World) (a : Option Addr) (n : Nat) (F : Nat → Ru) : Prop := n = 0 ∨ ∃ b o, a = some ⟨b, o, none⟩ ∧ b < W.heap.size ∧ ∀ j, j < n → RuAt W b (o + j * 6) (F j)
theorem RdU.below {W W' : World} {a : Option Addr} {n : Nat} {F : Nat → Ru} (h : RdU W a n F) (hb : Below W.heap.size W W') : RdU W' a n F := by
  rcases h with h | ⟨b, o, ha, hl, hc⟩
  · exact .inl h
  · exact .inr ⟨b, o, ha, Nat.lt_of_lt_of_le hl hb.size, fun j hj => (hc j hj).below hl hb⟩
theorem RdU.at_ {W : World} {a : Option Addr} {n : Nat} {F : Nat → Ru} (h : RdU W a n F) {k : Nat} (hk : k < n) : ∃ b o, a = some ⟨b, o, none⟩ ∧ b < W.heap.size ∧ RuAt W b (o + k * 6) (F k) := by
  rcases h with h | ⟨b, o, ha, hl, hc⟩
  · omega
  · exact ⟨b, o, ha, hl, hc k hk⟩
/-- the run j of a list -/
def ruOf (X : RM) (r : Rg) : Ru := ⟨r.1, r.2, dO X r.1, dS X r.1, dT X r.1, dH X r.1⟩
theorem RdU.of_own {W : World} {B n c : Nat} {a : Option Addr} {X : RM} {L : List Rg} (h : W.ownsRow B 56 6 (.slice a n c) n (rcL X L)) (hn : n = L.length) : RdU W a n (fun j => ruOf X (L.getD j rg0)) := by
  by_cases h0 : n = 0
  · exact .inl h0
  · obtain ⟨g, cap, hv⟩ := ownsRow_form h (by omega)
    cases hv
    refine .inr ⟨g, 0, rfl, (h.lt g rfl).2, fun j hj => ?_⟩
    have H : ∀ i, i < 6 → W.cell? ⟨g, j * 6 + i, none⟩ = (rgC X (L.getD j rg0))[i]? := fun i hi => by rw [h.cellAt _ (by omega), rcL_get X L j i (by omega) hi]
    rw [Nat.zero_add]
    exact ⟨H 0 (by omega), H 1 (by omega), H 2 (by omega), H 3 (by omega), H 4 (by omega), H 5 (by omega)⟩
set_option maxRecDepth 100000 in
set_option maxHeartbeats 1600000 in
theorem sameRuns_ok7 {w : World} {a b : Option Addr} {n c d : Nat} {F : Nat → Ru} (hA : RdU w a n F) (hB : RdU w b n F) (hn : n ≤ 9223372036854775807) :
    Calls Tryd.prog 37 #[.slice a n c, .slice b n d] w fun e w' => e = .returned (.bool true) ∧ Below w.heap.size w w' := by
  have HA := Lib.hid hA
  have HB := Lib.hid hB
  have d0 : ((n : Int) != (n : Int)) = false := by simp
  clear hA hB
  go_enter Tryd.func37, Tryd.ntmps37
  go_wp2
  go_loopw [5] (fun i wr => ∃ k : Nat, k ≤ n ∧ i = .int .i64 k ∧ Hid (Below w.heap.size w wr)) (fun i _ => n - (intOf i).toNat)
  case atStart => exact ⟨0, Nat.zero_le _, rfl, Lib.hid (Below.refl _ _)⟩
  case round =>
    obtain ⟨k, hk, rfl, BR⟩ := hrel
    by_cases hlt : k < n
    · obtain ⟨b1, o1, rfl, l1, c1⟩ := (HA.out.below BR.out).at_ hlt
      obtain ⟨b2, o2, rfl, l2, c2⟩ := (HB.out.below BR.out).at_ hlt
      have i1 : (k : Int) < (n : Int) := by omega
      have i0 : (0 : Int) ≤ (k : Int) := by omega
      obtain ⟨f, t, o, s, c', g⟩ := F k
      obtain ⟨p0, p1, p2, p3, p4, p5⟩ := c1
      obtain ⟨q0, q1, q2, q3, q4, q5⟩ := c2
      have hnq := neq_run7 f t o s c' g
      have hwk : IntKind.i64.wrap ((k : Int) + 1) = (k : Int) + 1 := IntWalk.i64_in _ (by omega)
      go_wp2_with fail
      go_quiet (fail)
      have BD := Lib.hid (below_tr BR.out (below_draw wr nq))
      go_wp2
      go_roundw
      case rel => exact ⟨k + 1, by omega, by go_num, BD⟩
      case measure => simp [intOf]; omega
    · obtain rfl : k = n := by omega
      have i1 : ¬ ((k : Int) < (k : Int)) := by omega
      go_wp2
      go_ret
      exact ⟨rfl, BR.out⟩
end Go.Proofs.YtfmclbacoffdaaaDoor

namespace Go.Proofs.YtfmclbacoffdaaaDoor
open Go.RowKit Go.Sort Go.Joins
attribute [local go_sem] cell_grow frozen_grow size_grow
/-! the maps of the examples -/
def k1M : RM := setX (newM 4) 7 9 5 1 3 false
def k2M : RM := clrX k1M 7 8
def k3M : RM := setX k2M 8 16 5 1 3 false
def k4M : RM := clrX k3M 0 1024
theorem kn1 : setE (newM 4) 7 9 5 1 3 = 0 ∧ setE k1M 64 65 5 1 3 = 5 ∧ wL k1M 0 1024 = [7, 8] ∧ k1M.m = 4 := by decide +kernel
theorem kn2 : owL k1M 5 [7, 8] = [7, 8] ∧ rnsL k1M [7, 8] = [(7, 9)] ∧ dO k1M 7 = 5 ∧ dS k1M 7 = 1 ∧ dT k1M 7 = 3 ∧ dH k1M 7 = false := by decide +kernel
theorem kn3 : paE 7 8 = 0 ∧ k2M.m = 3 ∧ setE k2M 8 16 5 1 3 = 0 ∧ k3M.m = 3 ∧ paE 0 1024 = 0 ∧ setE k4M 5 4 5 1 3 = 7 := by decide +kernel
theorem kn4 : k3M.st.length = 4 ∧ ((stS k3M).getD 0 rn0).ks.length = 16 ∧ ((stS k3M).getD 1 rn0).ks.length = 8 ∧ ((stS k3M).getD 0 rn0).ks.getD 0 0 = 1 ∧ ((stS k3M).getD 1 rn0).ks.getD 0 0 = 0 ∧ ((stS k3M).getD 1 rn0).ks.getD 1 0 = 3 ∧ ((stS k3M).getD 2 rn0).lv = -1 ∧ ((stS k3M).getD 3 rn0).lv = 2 := by decide +kernel
theorem kG1 : RGood k1M := (RGood.newM (by decide)).setX _ _ _ _ _ _
theorem kG2 : RGood k2M := kG1.clrX _ _
theorem kG3 : RGood k3M := kG2.setX _ _ _ _ _ _
theorem kG4 : RGood k4M := kG3.clrX _ _
theorem kn5 : k4M.m = 1 := (kG4.a.empty (fun q hq => by
  have := clr_words kG3 kn3.2.2.2.2.1 hq
  rw [if_pos ⟨by omega, by omega⟩] at this
  exact this)).1
theorem kn6 : setX k1M 64 65 5 1 3 false = k1M := by unfold setX; rw [if_neg (by rw [kn1.2.1]; decide)]
theorem kn7 : setX k4M 5 4 5 1 3 false = k4M := by unfold setX; rw [if_neg (by rw [kn3.2.2.2.2.2]; decide)]
/-- the map of the examples in memory -/
structure KnM (w W : World) (X : RM) : Prop where
  t : TM W w.heap.size (w.heap.size + 1) w.heap.size X.st X.m X.r
  k : Below w.heap.size w W
theorem KnM.below {w W W' : World} {X : RM} (h : KnM w W X) (hb : Below W.heap.size W W') : KnM w W' X := ⟨h.t.below hb, below_tr h.k hb⟩
theorem KnM.fr {w W W' : World} {X Z : RM} (h : KnM w W X) (f : Fr (w.heap.size + 1) w.heap.size W W') (t : TM W' w.heap.size (w.heap.size + 1) w.heap.size Z.st Z.m Z.r) : KnM w W' Z :=
  ⟨t, Fr.below h.k f (by omega) (Nat.le_refl _) h.k.size⟩
section
variable {w W : World} {X : RM}
theorem KnM.set (h : KnM w W X) (hG : RGood X) (hT : Tab w) (f t : Int) : Calls Tryd.prog 32 #[.pointer (some ⟨w.heap.size + 1, 0, none⟩), .int .i64 f, .int .i64 t, dsV 5 1 3 false] W fun e w' => e = .returned (.int .i64 (setE X f t 5 1 3)) ∧ KnM w w' (setX X f t 5 1 3 false) := by
  have hlt := hT.lt
  exact (set_ok (by omega) (by omega) (hT.below h.k) h.t hG.a h.k.size f t 5 1 3 false).mono fun e w' ⟨h1, h2, h3⟩ => ⟨h1, h.fr h3 h2⟩
theorem KnM.clr (h : KnM w W X) (hG : RGood X) (f t : Int) : Calls Tryd.prog 22 #[.pointer (some ⟨w.heap.size + 1, 0, none⟩), .int .i64 f, .int .i64 t] W fun e w' => e = .returned (.int .i64 (paE f t)) ∧ KnM w w' (clrX X f t) :=
  (clear_ok h.t hG.a h.k.size f t).mono fun e w' ⟨h1, h2, h3⟩ => ⟨h1, h.fr h3 h2⟩
theorem KnM.nodes {m : Nat} (h : KnM w W X) (hm : X.m = m) : Calls Tryd.prog 20 #[.pointer (some ⟨w.heap.size + 1, 0, none⟩)] W fun e w' => e = .returned (.int .i64 m) ∧ W = w' := by
  have := nodes_ok h.t
  rw [hm] at this
  exact this
theorem two_ints (W : World) (x y : Nat) : RdV (W.alloc (.cells #[.int .i64 x, .int .i64 y] 3)) (some ⟨W.heap.size, 0, none⟩) 2 (fun j => (([x, y].getD j 0 : Nat) : Int)) := by
  have hb := heap_alloc_new W (.cells #[.int .i64 x, .int .i64 y] 3)
  refine .inr ⟨W.heap.size, 0, rfl, by simp, fun j hj => ?_⟩
  match j, hj with
  | 0, _ => rw [cell_of_block hb]; rfl
  | 1, _ => rw [cell_of_block hb]; rfl
theorem one_run (W : World) (f t o s c : Int) (g : Bool) (F : Nat → Ru) (hF : F 0 = ⟨f, t, o, s, c, g⟩) : RdU (W.alloc (.cells #[.int .i64 f, .int .i64 t, .int .i64 o, .int .i64 s, .int .i64 c, .bool g] 56)) (some ⟨W.heap.size, 0, none⟩) 1 F := by
  have hb := heap_alloc_new W (.cells #[.int .i64 f, .int .i64 t, .int .i64 o, .int .i64 s, .int .i64 c, .bool g] 56)
  refine .inr ⟨W.heap.size, 0, rfl, by simp, fun j hj => ?_⟩
  obtain rfl : j = 0 := by omega
  rw [hF]
  exact ⟨by rw [cell_of_block hb]; rfl, by rw [cell_of_block hb]; rfl, by rw [cell_of_block hb]; rfl, by rw [cell_of_block hb]; rfl, by rw [cell_of_block hb]; rfl, by rw [cell_of_block hb]; rfl⟩
end
set_option maxRecDepth 100000 in
set_option maxHeartbeats 6400000 in
theorem law_rknown (w : World) (hT : Tab w) : Calls Tryd.prog 9 #[] w fun e w' => e = .returned (.bool true) ∧ Below w.heap.size w w' := by
  have HN := Lib.hid (newm_ok 4 w (by decide) (by decide))
  have HT := Lib.hid hT
  clear hT
  go_enter Tryd.func9, Tryd.ntmps9
  go_wp2_with fail
  refine HN.out.mono ?_
  rintro e w1 ⟨rfl, h1, b1⟩
  have M1 : Hid (KnM w w1 (newM 4)) := Lib.hid ⟨h1, b1⟩
  clear h1 b1 HN
  go_wp2_with fail
  refine (five_ok w1).mono ?_
  rintro e w2 ⟨rfl, b2⟩
  have M2 := Lib.hid (M1.out.below b2)
  clear b2 M1
  have HS := Lib.hid (M2.out.set (RGood.newM (by decide)) HT.out 7 9)
  rw [kn1.1] at HS
  go_wp2_with fail
  refine HS.out.mono ?_
  rintro e w3 ⟨rfl, m3⟩
  have M3 : Hid (KnM w w3 k1M) := Lib.hid m3
  clear m3 HS M2
  go_wp2_with fail
  refine (five_ok w3).mono ?_
  rintro e w4 ⟨rfl, b4⟩
  have M4 := Lib.hid (M3.out.below b4)
  clear b4 M3
  have HS := Lib.hid (M4.out.set kG1 HT.out 64 65)
  rw [kn1.2.1, kn6] at HS
  go_wp2_with fail
  refine HS.out.mono ?_
  rintro e w5 ⟨rfl, m5⟩
  have M5 := Lib.hid m5
  clear m5 HS M4
  have HU := Lib.hid (unpack_ok 2 (by decide) (by decide) w5)
  rw [show unV 2 = dsV 0 0 0 false from if_neg (by decide +kernel), show unE 2 = 6 by decide +kernel] at HU
  go_wp2_with fail
  refine HU.out.mono ?_
  rintro e w6 ⟨rfl, b6⟩
  have M6 := Lib.hid (M5.out.below b6)
  clear b6 M5 HU
  have HO := Lib.hid (owned_in M6.out.t kG1 5 (by decide) (by decide))
  rw [kn1.2.2.1, kn2.1] at HO
  go_wp2_with fail
  refine HO.out.mono ?_
  rintro e w7 ⟨a7, c7, rfl, o7, b7⟩
  have M7 := Lib.hid (M6.out.below b7)
  have R7 := Lib.hid (RdV.of_own o7 rfl)
  clear b7 o7 M6 HO
  have b8 := below_box0 w7 (.cells #[.int .i64 7, .int .i64 8] 3)
  have M8 := Lib.hid (M7.out.below b8)
  have HQ := Lib.hid (same_ok7 (c := c7) (d := 2) (R7.out.below b8) (two_ints w7 7 8) (by decide))
  clear b8 R7 M7
  go_wp2_with fail
  refine HQ.out.mono ?_
  rintro e w9 ⟨rfl, b9⟩
  have M9 := Lib.hid (M8.out.below b9)
  clear b9 M8 HQ
  have HR := Lib.hid (runs_ok7 M9.out.t kG1)
  rw [kn1.2.2.1, kn2.2.1] at HR
  go_wp2_with fail
  refine HR.out.mono ?_
  rintro e w10 ⟨a10, c10, rfl, o10, b10⟩
  have M10 := Lib.hid (M9.out.below b10)
  have R10 := Lib.hid (RdU.of_own o10 rfl)
  clear b10 o10 M9 HR
  go_wp2_with fail
  refine (five_ok w10).mono ?_
  rintro e w11 ⟨rfl, b11⟩
  have M11 := Lib.hid (M10.out.below b11)
  have R11 := Lib.hid (R10.out.below b11)
  clear b11 M10 R10
  have b12 := below_box0 w11 (.cells #[.int .i64 7, .int .i64 9, .int .i64 5, .int .i64 1, .int .i64 3, .bool false] 56)
  have M12 := Lib.hid (M11.out.below b12)
  have HQ := Lib.hid (sameRuns_ok7 (c := c10) (d := 1) (R11.out.below b12) (one_run w11 7 9 5 1 3 false _ (by
    show ruOf k1M (7, 9) = _
    unfold ruOf
    rw [kn2.2.2.1, kn2.2.2.2.1, kn2.2.2.2.2.1, kn2.2.2.2.2.2]; rfl)) (by decide))
  clear b12 R11 M11
  go_wp2_with fail
  refine HQ.out.mono ?_
  rintro e w13 ⟨rfl, b13⟩
  have M13 := Lib.hid (M12.out.below b13)
  clear b13 M12 HQ
  have HC := Lib.hid (M13.out.clr kG1 7 8)
  rw [kn3.1] at HC
  go_wp2_with fail
  refine HC.out.mono ?_
  rintro e w14 ⟨rfl, m14⟩
  have M14 : Hid (KnM w w14 k2M) := Lib.hid m14
  clear m14 HC M13
  go_wp2_with fail
  refine (M14.out.nodes (m := 3) kn3.2.1).mono ?_
  rintro e w15 ⟨rfl, rfl⟩
  go_wp2_with fail
  refine (five_ok w14).mono ?_
  rintro e w16 ⟨rfl, b16⟩
  have M16 := Lib.hid (M14.out.below b16)
  clear b16 M14
  have HS := Lib.hid (M16.out.set kG2 HT.out 8 16)
  rw [kn3.2.2.1] at HS
  go_wp2_with fail
  refine HS.out.mono ?_
  rintro e w17 ⟨rfl, m17⟩
  have M17 : Hid (KnM w w17 k3M) := Lib.hid m17
  clear m17 HS M16
  go_wp2_with fail
  refine (M17.out.nodes (m := 3) kn3.2.2.2.1).mono ?_
  rintro e w18 ⟨rfl, rfl⟩
  have HV := Lib.hid (save_ok M17.out.t)
  rw [kn4.1] at HV
  go_wp2_with fail
  refine HV.out.mono ?_
  rintro e w19 ⟨a19, c19, rfl, ⟨K19, L19, o19⟩, b19⟩
  have hst := o19.str
  have hb20 := below_box0 w19 (.cells #[.int .i64 4, .slice a19 4 c19] 45)
  have M20 := Lib.hid (M17.out.below (below_tr b19 hb20))
  have hrd : ∃ b o, a19 = some ⟨b, o, none⟩ ∧ b < w19.heap.size ∧ ∀ j, j < 4 → NdR w19 b (o + j * 3) ((stS k3M).getD j rn0) := by
    rcases hst with h | ⟨b, o, h1, h2, h3⟩
    · rw [stS_len, kn4.1] at h; omega
    · exact ⟨b, o, h1, h2, fun j hj => h3 j (by rw [stS_len, kn4.1]; exact hj)⟩
  obtain ⟨g, o, rfl, hgl, hnd⟩ := hrd
  obtain ⟨k0a, k0c, k0, r0⟩ := (hnd 0 (by omega)).ks
  obtain ⟨k1a, k1c, k1, r1⟩ := (hnd 1 (by omega)).ks
  have l2 := (hnd 2 (by omega)).lv
  have l3 := (hnd 3 (by omega)).lv
  rw [kn4.2.1] at k0 r0
  rw [kn4.2.2.1] at k1 r1
  rw [kn4.2.2.2.2.2.2.1] at l2
  rw [kn4.2.2.2.2.2.2.2] at l3
  have e0 : ∃ b o, k0a = some ⟨b, o, none⟩ ∧ b < w19.heap.size ∧ w19.cell? ⟨b, o, none⟩ = some (.int .i64 1) := by
    rcases r0 with h | ⟨b, o, h1, h2, h3⟩
    · omega
    · refine ⟨b, o, h1, h2, ?_⟩
      have := h3 0 (by omega)
      rw [kdV, kn4.2.2.2.1] at this
      exact this
  have e1 : ∃ b o, k1a = some ⟨b, o, none⟩ ∧ b < w19.heap.size ∧ w19.cell? ⟨b, o, none⟩ = some (.int .i64 0) ∧ w19.cell? ⟨b, o + 1, none⟩ = some (.int .i64 3) := by
    rcases r1 with h | ⟨b, o, h1, h2, h3⟩
    · omega
    · refine ⟨b, o, h1, h2, ?_, ?_⟩
      · have := h3 0 (by omega)
        rw [kdV, kn4.2.2.2.2.1] at this
        exact this
      · have := h3 1 (by omega)
        rw [kdV, kn4.2.2.2.2.2.1] at this
        exact this
  obtain ⟨g0, o0, rfl, hg0, v0⟩ := e0
  obtain ⟨g1, o1, rfl, hg1, v1, v2⟩ := e1
  clear hst hnd o19 b19 hb20 r0 r1 HV M17
  rw [Nat.zero_mul, Nat.add_zero] at k0
  rw [Nat.one_mul] at k1
  go_wp2_with fail
  have HC := Lib.hid (M20.out.clr kG3 0 1024)
  rw [kn3.2.2.2.2.1] at HC
  refine HC.out.mono ?_
  rintro e w21 ⟨rfl, m21⟩
  have M21 : Hid (KnM w w21 k4M) := Lib.hid m21
  clear m21 HC M20 l2 l3 k0 k1 v0 v1 v2 hg0 hg1 hgl
  go_wp2_with fail
  refine (M21.out.nodes (m := 1) kn5).mono ?_
  rintro e w22 ⟨rfl, rfl⟩
  go_wp2_with fail
  refine (five_ok w21).mono ?_
  rintro e w23 ⟨rfl, b23⟩
  have M23 := Lib.hid (M21.out.below b23)
  clear b23 M21
  have HS := Lib.hid (M23.out.set kG4 HT.out 5 4)
  rw [kn3.2.2.2.2.2, kn7] at HS
  go_wp2_with fail
  refine HS.out.mono ?_
  rintro e w24 ⟨rfl, m24⟩
  have M24 := Lib.hid m24
  clear m24 HS M23
  go_wp2_with fail
  refine (awake_ok _ (HT.out.below M24.out.k)).mono ?_
  rintro e w25 ⟨rfl, b25⟩
  have B25 := Lib.hid (below_tr M24.out.k b25)
  clear b25 M24
  go_wp2
  go_ret
  exact ⟨rfl, B25.out⟩
end Go.Proofs.YtfmclbacoffdaaaDoor

namespace Go.Proofs.YtfmclbacoffdaaaDoor
open Go.ChangeShapes Go.WideShapes Go.ChangeAt Go.RowKit

theorem own : ownKnob Tryd.prog.godebug = none := by kernel_rfl
theorem gTab : Tryd.prog.globalNamed "math/bits.deBruijn64tab" = some 0 := by kernel_rfl
theorem gTabType : (Tryd.prog.globals[0]?).map (·.type) = some 129 := by kernel_rfl
theorem cellsTab : Tryd.prog.cellsOf 129 = 64 := by kernel_rfl
theorem cellsU8 : Tryd.prog.cellsOf 5 = 1 := by kernel_rfl

theorem tab_of {W : World} (h : laidMetH Tryd.prog [("math/bits.deBruijn64tab", Rows.laid_math_bits_deBruijn64tab)] W) : Tab W := by
  have ht : Lib.TabIs Tryd.prog W "math/bits.deBruijn64tab" .u8 (Lib.deBruijn64tab.map fun (x : Nat) => (x : Int)) :=
    Lib.tabIs_of_head (rest := []) gTab gTabType Tryd.underlying129 Tryd.underlying5 cellsU8 cellsTab h
  intro i hi
  have := ht.cell gTab i (by rw [List.length_map]; exact hi)
  rw [this]
  have e : (Lib.deBruijn64tab.map fun (x : Nat) => (x : Int)).getD i 0 = ((Lib.deBruijn64tab.getD i 0 : Nat) : Int) := by
    have h64 : Lib.deBruijn64tab.length = 64 := rfl
    simp [List.getD_eq_getElem?_getD, h64, hi]
  rw [e]

/-- A world for the witness: the settled one, the table holding what its initialiser lays. -/
noncomputable def laidWorld (os : Os) : World :=
  { World.holding Tryd.prog os ⟨#[], #[], []⟩ with heap := (World.holding Tryd.prog os ⟨#[], #[], []⟩).heap.modify 0 fun
      | .cells _ t frozen => .cells (Lib.deBruijn64tab.map fun (x : Nat) => Value.int .u8 (x : Int)).toArray t frozen
      | o => o }
theorem laidOut : laidOutB Tryd.prog = true := by kernel_rfl

theorem trodAll_below {H : Type} {enc : TypeId × Value → H} {W W' : World} (hb : Below W.heap.size W W') (ts : List TypeId) : ∀ (vs : List Value) (ds : List (DataW H)) (ps : List MemPlace),
    (ts.all fun t => Tryd.prog.readableRec t && decide (t < Tryd.prog.types.size)) = true → (∀ x ∈ ps, x.block < W.heap.size) → DataW.TrodAll enc Tryd.prog W 0 (fun _ => true) true ts vs ds ps →
    DataW.TrodAll enc Tryd.prog W' 0 (fun b => decide (b < W.heap.size)) true ts vs ds ps := by
  induction ts with
  | nil =>
    intro vs ds ps _ _ h
    obtain ⟨rfl, rfl, rfl⟩ := trodAll_nil h
    exact trodAll_mk0
  | cons t ts ih =>
    intro vs ds ps hr hlt h
    obtain ⟨v, vs', d, ds', p, q, rfl, rfl, rfl, h1, h2⟩ := trodAll_cons h
    rw [List.all_cons, Bool.and_eq_true, Bool.and_eq_true] at hr
    exact trodAll_cons_mk (Below.trod laidOut hr.1.1 (of_decide_eq_true hr.1.2) h1 hb (fun x hx => hlt x (List.mem_append_left _ hx))) (ih vs' ds' q hr.2 (fun x hx => hlt x (List.mem_append_right _ hx)) h2)

/-- WHAT A LAW's WALK GIVES THE ROW: true, the arguments read as they did. -/
theorem law_post {H : Type} {enc : TypeId × Value → H} {fn : Func} {s : ChangeSpec} {W W' : World} {args : Array Value} {ds gs : List (DataW H)} {before : List MemPlace}
    (hW : DataW.Whole enc Tryd.prog fn.params.toList s.vars false W args.toList ds gs before) (hv : s.vars = []) (hr : (fn.params.toList.all fun t => Tryd.prog.readableRec t && decide (t < Tryd.prog.types.size)) = true) (hrt : fn.resultTypes = #[4])
    (h1 : (s.fn H (ds ++ gs)).results = [.lit (.bool true)]) (h2 : (s.fn H (ds ++ gs)).args = ds) (h3 : (s.fn H (ds ++ gs)).vars = []) (hb : Below W.heap.size W W') :
    s.post enc Tryd.prog fn false true false false W args (.bool true) W' := by
  have hW' := hW
  have hlt := hW.lt
  obtain ⟨p, q, hA, hV, rfl, hfz, hnd⟩ := hW
  refine ⟨ds, gs, p ++ q, [], p, [], hW', ?_, ?_, ?_, hb.frame _, fun h => by cases h⟩
  · rw [h1, hrt]
    exact trodAll_cons_mk (shut_bool Tryd.underlying4 _) trodAll_mk0
  · rw [h2]
    exact trodAll_below hb _ _ _ _ hr (fun x hx => hlt x (List.mem_append_left _ hx)) hA
  · rw [h3, hv]; rfl
end Go.Proofs.YtfmclbacoffdaaaDoor

namespace Go.Proofs.YtfmclbacoffdaaaDoor.radixKnown
open Go.ChangeShapes Go.WideShapes Go.ChangeAt Go.RowKit

set_option maxRecDepth 100000 in
theorem contract (H : Type) (enc : TypeId × Value → H) (W : World) (base : Nat) (args : Array Value) (ds gs : List (DataW H)) (before : List MemPlace)
    (hval : ∀ (j : Nat) t v, Tryd.f9.params[j]? = some t → args[j]? = some v → Value.okWide Tryd.prog W .any base t v)
    (hW : DataW.Whole enc Tryd.prog Tryd.f9.params.toList Rows.radixKnownSpec.vars false W args.toList ds gs before) (hL : laidMetH Tryd.prog Rows.radixKnownRow.laid W) :
    Calls Tryd.prog 9 args W fun e W' => ∃ v, e = .returned v ∧ Rows.radixKnownSpec.post enc Tryd.prog Tryd.f9 false true false false W args v W' := by
  have hW' := hW
  obtain ⟨p, q, hA0, hV, rfl, hfz, hnd⟩ := hW
  have hA : DataW.TrodAll enc Tryd.prog W 0 (fun _ => true) true Tryd.f9.params.toList args.toList ds p := hA0
  rw [Tryd.params9] at hA hval
  obtain ⟨hargs, rfl, rfl⟩ := trodAll_nil hA
  obtain rfl : args = #[] := by cases args; simp_all
  obtain ⟨rfl, rfl⟩ := trodVars_none hV
  refine (law_rknown W (tab_of hL)).mono fun e W' ⟨he, hb⟩ => ?_
  exact ⟨_, he, law_post hW' rfl (by rw [Tryd.params9]; kernel_rfl) rfl rfl rfl rfl hb⟩

theorem laid_met (os : Os) : laidMet Tryd.prog Rows.radixKnownRow.laid ((laidWorld os).forCall (fun _ _ => 0) ⟨#[], #[], []⟩).memory :=
  laidMet_of_run' 8 (by kernel_rfl) (by kernel_rfl)
theorem reads (os : Os) {H : Type} (enc : TypeId × Value → H) : ∃ places, DataW.whole enc Tryd.prog ((laidWorld os).forCall (fun _ _ => 0) ⟨#[], #[], []⟩).memory Tryd.f9.params.toList Rows.radixKnownSpec.vars false #[].toList 8 = some ([], [], places) :=
  ⟨[], by kernel_rfl⟩

set_option maxRecDepth 100000 in
theorem lifted (os : Os) (started : os.Started) (H : Type) (enc : TypeId × Value → H) (F : Stop.Interp) :
    ReturnsInHanded {} Tryd.checked os 9 .any ((OpenSpec.ofChange Rows.radixKnownSpec).preRow enc Tryd.prog Tryd.f9 Rows.radixKnownRow.domain false Rows.radixKnownRow.laid) (((OpenSpec.ofChange Rows.radixKnownSpec).at F).post enc Tryd.prog Tryd.f9 false true false false) := by
  obtain ⟨places, hx⟩ := reads os enc
  refine returnsInHanded_of_row (C := Tryd.checked) (s := OpenSpec.ofChange Rows.radixKnownSpec) own started (by kernel_rfl) Tryd.func9
    (witness_row_at (enc := enc) (C := Tryd.checked) false (laidWorld os) #[] rfl (by kernel_rfl) (by kernel_rfl) (by kernel_rfl)
      (OpenSpec.preRow_of_cond 8 hx (by kernel_rfl) (fun k hk => by cases hk) (by kernel_rfl) (laid_met os))) ?_
  intro W base args ds gs before hval hW _ _ _ hL _ _
  exact contract H enc W base args ds gs before hval hW hL

theorem said : Rows.RadixKnownSaid :=
  OpenClaim.holds_of_cond 9 Tryd.f9 rfl rfl rfl rfl rfl rfl rfl ⟨rfl, rfl, rfl, rfl, rfl⟩ rfl rfl rfl rfl rfl (by kernel_rfl) Tryd.func9 (by kernel_rfl)
    (of_decide_eq_true (by kernel_rfl)) (by unfold Func.isWrapper; first | (rw [if_pos (by decide +kernel)]; kernel_rfl) | (rw [if_neg (by decide +kernel)]; exact ⟨rfl, rfl⟩))
    (fun os started H enc _ F => by rw [OpenClaim.pre_eq_preRow]; exact lifted os started H enc F)

theorem plain (f : FuncId) (fn : Func) (hf : Tryd.pinned.checked.prog.funcNamed "polder/polderlaw07.RadixKnown" = some f) (hfn : Tryd.pinned.checked.prog.funcs[f]? = some fn) :
    false = Tryd.pinned.checked.prog.looks [] ∧ ∀ (j : Nat) t, fn.params[j]? = some t → Tryd.pinned.checked.prog.wantsStandIn t = false := by
  obtain rfl : f = 9 := Option.some.inj ((show Tryd.prog.funcNamed "polder/polderlaw07.RadixKnown" = some 9 by kernel_rfl).symm.trans hf) |>.symm
  obtain rfl : fn = Tryd.f9 := (Option.some.inj (Tryd.func9.symm.trans hfn)).symm
  refine ⟨by kernel_rfl, fun j t ht => ?_⟩
  rw [Tryd.params9] at ht
  simp at ht

/-- THE CARD. -/
theorem card : Rows.RadixKnownCardSaid :=
  Claim7.holds_tied_plain_at .later [] _ _ _ _ said (fun _ h => by cases h) (by kernel_rfl) (fun _ h => by cases h) radixKnown_row_tie rfl ⟨rfl, rfl⟩ (by kernel_rfl) rfl plain (by kernel_rfl)
#print axioms card
end Go.Proofs.YtfmclbacoffdaaaDoor.radixKnown
