/- Clocks: ClockPlans returns true. | Slices of integers of any kind, as a row hands them. | The frame of a statement: what a law's walk gives its row. | The arguments of types CkPlan and CkClock, as a row hands them. | The arguments of types CkPlan (with its capacity), CkAlarm and string, as a row hands them. -/
import Derived.Test.YtjceahbikdncmaaDoorPZ16
import Derived.Deep.Upon
import Derived.Test.YtjceahbikdncmaaDoorProg
import Derived.WalkKit
import Derived.OpenShut
import Derived.Lib.SmallJoins
import Derived.Deep.Grids
import Derived.ChangeSame
import Derived.Test.YtjceahbikdncmaaDoorCards
import Derived.Test.YtjceahbikdncmaaDoorTie
import Derived.ProofKit
import Derived.Deep.DeepHandedRow
import Derived.Lib.LaidTab
import Derived.Test.YtjceahbikdncmaaDoorPZ1
namespace Go.Proofs.YtjceahbikdncmaaDoor
open Go.RowKit Go.Sort Go.Joins Go.Shelf
attribute [local go_sem] cell_grow frozen_grow size_grow Oper.semAt_some
theorem eql_ring (x y : Rn) (w : World) : Sem.run Tryd.prog (binOp .eql 45 (gV x) (gV y)) w = .ok (.bool (decide (x = y))) w := by
  have u3 := Tryd.underlying2
  have u9 := Tryd.underlying9
  have hS : Tryd.prog.underlying 45 = some (.struct (Tryd.prog.fieldsOf 45)) := by kernel_rfl
  have hp : Tryd.prog.stoodInHeld 45 = false := by kernel_rfl
  rw [run_eql_struct, show (10000 : Nat) = 9999 + 1 from rfl, run_equalIn_agg w 9999 45 _ _ hS hp]
  simp only [Program.fieldsOf, Tryd.underlying45]
  obtain ⟨a, b⟩ := x
  obtain ⟨a', b'⟩ := y
  go_simp
  have hs := str_eq a a'
  by_cases h1 : a = a' <;> by_cases h2 : b = b' <;> simp [h1, h2] <;> simp_all
theorem heap_setCell_ne {w : World} {g i k : Nat} (hk : k < w.heap.size) (hne : k ≠ g) (v : Value) : (w.setCell ⟨g, i, none⟩ v).heap[k]? = w.heap[k]? :=
  World.heap_setCells_other w g i [v] hk hne
theorem BoxP.ne {W : World} {b g n c : Nat} {a : Option Addr} (h : BoxP W b a n c) (hne : b ≠ g) (v : Value) : BoxP (W.setCell ⟨g, 0, none⟩ v) b a n c := (heap_setCell_ne (blk_lt h) hne v).trans h
theorem BoxP.put {W : World} {b n c m d : Nat} {a e : Option Addr} (h : BoxP W b a n c) : BoxP (W.setCell ⟨b, 0, none⟩ (.slice e m d)) b e m d := (setCell_block h _).trans (by simp)
/-- the plan and the alarm of the law, in boxes -/
structure PB (w : World) (a : Option Addr) (n c : Nat) (x : Al) (W : World) : Prop where
  k : Below w.heap.size w W
  p : BoxP W w.heap.size a n c
  x : W.heap[w.heap.size + 1]? = some (.cells #[.string x.1, .int .i64 x.2.1, .int .i64 x.2.2] 47 (0, 0))
section
variable {w W : World} {a : Option Addr} {n c : Nat} {x : Al}
theorem PB.below {W' : World} (h : PB w a n c x W) (hb : Below W.heap.size W W') : PB w a n c x W' := ⟨below_tr h.k hb, h.p.below hb, (hb.block _ (blk_lt h.x)).trans h.x⟩
theorem PB.set {g : Nat} (h : PB w a n c x W) (hg : w.heap.size + 2 ≤ g) (v : Value) : PB w a n c x (W.setCell ⟨g, 0, none⟩ v) :=
  ⟨h.k.setCell (p := ⟨g, 0, none⟩) (by dsimp only; omega) v, h.p.ne (by omega) v, (heap_setCell_ne (blk_lt h.x) (by omega) v).trans h.x⟩
theorem PB.cp (h : PB w a n c x W) : W.cell? ⟨w.heap.size, 0, none⟩ = some (.slice a n c) := h.p.cell
theorem PB.c0 (h : PB w a n c x W) : W.cell? ⟨w.heap.size + 1, 0, none⟩ = some (.string x.1) := by rw [cell_of_block h.x]; rfl
theorem PB.c1 (h : PB w a n c x W) : W.cell? ⟨w.heap.size + 1, 1, none⟩ = some (.int .i64 x.2.1) := by rw [cell_of_block h.x]; rfl
theorem PB.c2 (h : PB w a n c x W) : W.cell? ⟨w.heap.size + 1, 2, none⟩ = some (.int .i64 x.2.2) := by rw [cell_of_block h.x]; rfl
theorem PB.lx (h : PB w a n c x W) : w.heap.size + 2 ≤ W.heap.size := blk_lt h.x
theorem PB.l0 (h : PB w a n c x W) : w.heap.size < W.heap.size := blk_lt h.p
theorem PB.l1 (h : PB w a n c x W) : w.heap.size + 1 < W.heap.size := blk_lt h.x
theorem PB.new : PB w a n c x ((w.alloc (.cells #[.slice a n c] 24)).alloc (.cells #[.string x.1, .int .i64 x.2.1, .int .i64 x.2.2] 47)) := by
  refine ⟨((Below.refl _ w).alloc (Nat.le_refl _) _).alloc (by simp) _, (Below.heap_alloc _ _ _ (by simp)).trans (heap_alloc_new w _), ?_⟩
  have := heap_alloc_new (w.alloc (.cells #[.slice a n c] 24)) (.cells #[.string x.1, .int .i64 x.2.1, .int .i64 x.2.2] 47)
  rwa [World.size_alloc] at this
end
/-- what Add and Cancel hand back, in slices -/
def PlF (w : World) (lq : Nat) (Q : Nat → Al) (E : Int) (e : Ending) (w' : World) : Prop :=
  ∃ (a : Option Addr) (c : Nat), e = .returned (.tuple #[.agg #[.slice a lq c], .int .i64 E]) ∧ SlA w' a lq Q ∧ Below w.heap.size w w'
section
variable (a : Option Addr) (n c : Nat) (R : Nat → Al) (x : Al) (s : ByteArray) (w : World)
theorem add_forms (hS : SlA w a n R) (hn : n ≤ 60) (hc : n ≤ c) (hR : ∀ j, j < n → AlB (R j)) (hx : x.1.size ≤ 9223372036854775807) : ∃ (lq : Nat) (Q : Nat → Al), lq ≤ 61 ∧
    (∀ W, Below w.heap.size w W → Calls Tryd.prog 27 #[pV a n c, aV x] W (PlF W lq Q (addE n R x))) ∧
    (∀ W, Below w.heap.size w W → Calls Tryd.prog 28 #[pV a n c, aV x] W (PlF W lq Q (addE n R x))) := by
  refine ⟨(addR n R x).length, fun j => (addR n R x).getD j al0, ?_, fun W hb => ?_, fun W hb => ?_⟩
  · unfold addR
    split
    · rw [addL_len]; omega
    · simp
  · refine (add_ok (c := c) (hS.below hb) (by omega) hR x hx).mono ?_
    rintro e w' ⟨a', c', L, rfl, hL, h1, h2⟩
    obtain rfl := hL.out
    exact ⟨a', c', rfl, h1, h2⟩
  · refine (rAdd_ok (c := c) (hS.below hb) (by omega) hc hR x hx).mono ?_
    rintro e w' ⟨a', c', L, rfl, hL, h1, h2⟩
    obtain rfl := hL.out
    exact ⟨a', c', rfl, h1, h2⟩
theorem can_forms (hS : SlA w a n R) (hn : n ≤ 60) (hR : ∀ j, j < n → AlB (R j)) : ∃ (lq : Nat) (Q : Nat → Al), lq ≤ 61 ∧
    (∀ W, Below w.heap.size w W → Calls Tryd.prog 29 #[pV a n c, .string s] W (PlF W lq Q (canE n R s))) ∧
    (∀ W, Below w.heap.size w W → Calls Tryd.prog 30 #[pV a n c, .string s] W (PlF W lq Q (canE n R s))) := by
  refine ⟨(canR n R s).length, fun j => (canR n R s).getD j al0, ?_, fun W hb => ?_, fun W hb => ?_⟩
  · unfold canR
    split
    · have := canL_len R s n; omega
    · simp
  · refine (cancel_ok (c := c) (hS.below hb) (by omega) hR s).mono ?_
    rintro e w' ⟨a', c', L, rfl, hL, h1, h2⟩
    obtain rfl := hL.out
    exact ⟨a', c', rfl, h1, h2⟩
  · refine (rCancel_ok (c := c) (hS.below hb) (by omega) hR s).mono ?_
    rintro e w' ⟨a', c', L, rfl, hL, h1, h2⟩
    obtain rfl := hL.out
    exact ⟨a', c', rfl, h1, h2⟩
set_option maxRecDepth 100000 in
set_option maxHeartbeats 3200000 in
theorem plans_far (hS : SlA w a n R) (hn : n ≤ 9223372036854775807) (hR : ∀ j, j < n → AlB (R j)) (hT : T9 w) (hF : farB n R = true ∨ (farB n R = false ∧ 100 < x.1.size) ∨ (farB n R = false ∧ ¬ 100 < x.1.size ∧ 100 < s.size)) :
    Calls Tryd.prog 8 #[pV a n c, aV x, .string s] w fun e w' => e = .returned (.bool true) ∧ Below w.heap.size w w' := by
  have hb := PB.new (w := w) (a := a) (n := n) (c := c) (x := x)
  have HB := Lib.hid hb
  have HT := Lib.hid hT
  have HFa := Lib.hid (far_ok (c := c) (hS.below hb.k) hn hR)
  have hF' : Hid (farB n R = true) ∨ (Hid (farB n R = false) ∧ Hid (100 < x.1.size)) ∨ (Hid (farB n R = false) ∧ Hid (¬ 100 < x.1.size) ∧ Hid (100 < s.size)) := hF
  clear hb hS hR hT hF
  obtain ⟨nm, t, pp⟩ := x
  dsimp only at hF'
  go_enter Tryd.func8, Tryd.ntmps8
  go_wp2_with fail
  refine HFa.out.mono ?_
  rintro e w1 ⟨rfl, b1⟩
  have HB1 := Lib.hid (HB.out.below b1)
  have q0 := HB1.out.c0
  dsimp only at q0
  have HS := Lib.hid (shown_ok w1 (HT.out.below HB1.out.k))
  clear b1
  rcases hF' with H1 | ⟨H1, H2⟩ | ⟨H1, H2, H3⟩
  case' inl => (rw [H1.out])
  case' inr.inl => (rw [H1.out]; have d1 : decide ((100 : Int) < (nm.size : Int)) = true := decide_eq_true (by have := H2.out; omega))
  case' inr.inr => (rw [H1.out]; have d1 : decide ((100 : Int) < (nm.size : Int)) = false := decide_eq_false (by have := H2.out; omega); have d2 : decide ((100 : Int) < (s.size : Int)) = true := decide_eq_true (by have := H3.out; omega))
  all_goals
    go_wp2_with fail
    refine HS.out.mono ?_
    rintro e w2 ⟨rfl, b2⟩
    have HB2 := Lib.hid (HB1.out.below b2)
    clear b2
    go_wp2
    go_ret
    exact ⟨rfl, HB2.out.k⟩
set_option maxRecDepth 100000 in
set_option maxHeartbeats 6400000 in
theorem plans_in (hS : SlA w a n R) (hn : n ≤ 60) (hc : n ≤ c) (hR : ∀ j, j < n → AlB (R j)) (hx : x.1.size ≤ 100) (hs : s.size ≤ 100) (hT : T9 w) (hF : farB n R = false) :
    Calls Tryd.prog 8 #[pV a n c, aV x, .string s] w fun e w' => e = .returned (.bool true) ∧ Below w.heap.size w w' := by
  obtain ⟨lA, QA, hlA, hA, hA'⟩ := add_forms a n c R x w hS hn hc hR (by omega)
  obtain ⟨lC, QC, hlC, hC, hC'⟩ := can_forms a n c R s w hS hn hR
  have hb := PB.new (w := w) (a := a) (n := n) (c := c) (x := x)
  have HB := Lib.hid hb
  have HT := Lib.hid hT
  have HFa := Lib.hid (far_ok (c := c) (hS.below hb.k) (by omega) hR)
  rw [hF] at HFa
  have HA := Lib.hid hA
  have HA' := Lib.hid hA'
  have HC := Lib.hid hC
  have HC' := Lib.hid hC'
  have HCk := Lib.hid (fun (W : World) (hb : Below w.heap.size w W) => check_ok (c := c) (hS.below hb) (by omega) hR)
  have HCr := Lib.hid (fun (W : World) (hb : Below w.heap.size w W) => rCheck_ok (c := c) (hS.below hb) (by omega) hR)
  have hN : ∀ (W : World), Below w.heap.size w W → Calls Tryd.prog 19 #[pV a n c] W fun e w' => e = .returned (.tuple #[gV (nextV n R), .int .i64 (nextE n R)]) ∧ Below W.heap.size W w' := fun W hb => nextF_ok (c := c) (hS.below hb) (by omega) hR
  have hN' : ∀ (W : World), Below w.heap.size w W → Calls Tryd.prog 31 #[pV a n c] W fun e w' => e = .returned (.tuple #[gV (nextV n R), .int .i64 (nextE n R)]) ∧ Below W.heap.size W w' := fun W hb => rNext_ok (c := c) (hS.below hb) (by omega) hR
  obtain ⟨ci, hci⟩ : ∃ z, cI n R = z := ⟨_, rfl⟩
  obtain ⟨ce, hce⟩ : ∃ z, cE n R = z := ⟨_, rfl⟩
  rw [hci, hce] at HCk HCr
  obtain ⟨ae, hae⟩ : ∃ z, addE n R x = z := ⟨_, rfl⟩
  rw [hae] at HA HA'
  obtain ⟨ke, hke⟩ : ∃ z, canE n R s = z := ⟨_, rfl⟩
  rw [hke] at HC HC'
  obtain ⟨rv, hrv⟩ : ∃ z, nextV n R = z := ⟨_, rfl⟩
  obtain ⟨ne, hne⟩ : ∃ z, nextE n R = z := ⟨_, rfl⟩
  rw [hrv, hne] at hN hN'
  have heq := eql_ring rv rv
  rw [decide_eq_true (rfl : rv = rv)] at heq
  obtain ⟨rs, rt⟩ := rv
  have HN : Hid (∀ (W : World), Below w.heap.size w W → Calls Tryd.prog 19 #[pV a n c] W fun e w' => e = .returned (.tuple #[.agg #[.string rs, .int .i64 rt], .int .i64 ne]) ∧ Below W.heap.size W w') := Lib.hid hN
  have HN' : Hid (∀ (W : World), Below w.heap.size w W → Calls Tryd.prog 31 #[pV a n c] W fun e w' => e = .returned (.tuple #[.agg #[.string rs, .int .i64 rt], .int .i64 ne]) ∧ Below W.heap.size W w') := Lib.hid hN'
  have HEQ : Hid (∀ (w : World), Sem.run Tryd.prog (binOp .eql 45 (.agg #[.string rs, .int .i64 rt]) (.agg #[.string rs, .int .i64 rt])) w = .ok (.bool true) w) := Lib.hid heq
  have LA : Hid (lA ≤ 9223372036854775807) := Lib.hid (by omega)
  have LC : Hid (lC ≤ 9223372036854775807) := Lib.hid (by omega)
  have d1 : decide ((100 : Int) < (x.1.size : Int)) = false := decide_eq_false (by omega)
  have d2 : decide ((100 : Int) < (s.size : Int)) = false := decide_eq_false (by omega)
  clear hb hS hR hT hF hA hA' hC hC' hN hN' hci hce hae hke hrv hne heq hx hs hlA hlC hn hc
  obtain ⟨nm, t, pp⟩ := x
  dsimp only at d1
  go_enter Tryd.func8, Tryd.ntmps8
  go_wp2_with fail
  refine HFa.out.mono ?_
  rintro e w1 ⟨rfl, b1⟩
  have HB1 := Lib.hid (HB.out.below b1)
  have k0 := HB1.out.cp
  have q0 := HB1.out.c0
  dsimp only at q0
  clear b1 HFa HB
  go_wp2_with fail
  refine (HCk.out _ HB1.out.k).mono ?_
  clear k0 q0 d1 d2
  rintro e w2 ⟨rfl, b2⟩
  have HB2 := Lib.hid (HB1.out.below b2)
  have k0 := HB2.out.cp
  clear b2 HB1 HCk
  go_wp2_with fail
  refine (HCr.out _ HB2.out.k).mono ?_
  clear k0
  rintro e w3 ⟨rfl, b3⟩
  have HB3 := Lib.hid (HB2.out.below b3)
  have k0 := HB3.out.cp
  have q0 := HB3.out.c0
  have q1 := HB3.out.c1
  have q2 := HB3.out.c2
  dsimp only at q0 q1 q2
  clear b3 HB2 HCr
  have hz1 : (ci != ci) = false := by simp
  have hz2 : (ce != ce) = false := by simp
  go_wp2_with fail
  refine (HA.out _ HB3.out.k).mono ?_
  clear k0 q0 q1 q2 hz1 hz2
  rintro e w4 ⟨a4, c4, rfl, hs4, b4⟩
  have b5 := below_box0 w4 (.cells #[.slice a4 lA c4] 24)
  have HB4 := Lib.hid (HB3.out.below b4)
  have HB5 := Lib.hid (HB4.out.below b5)
  have HP5 : Hid (BoxP (w4.alloc (.cells #[.slice a4 lA c4] 24)) w4.heap.size a4 lA c4) := Lib.hid (heap_alloc_new w4 _)
  have HS5 := Lib.hid (hs4.below b5)
  have HL5 := Lib.hid HB4.out.lx
  have k0 := HB4.out.cp
  have q0 := HB4.out.c0
  have q1 := HB4.out.c1
  have q2 := HB4.out.c2
  have l0 := HB4.out.l0
  have l1 := HB4.out.l1
  dsimp only at q0 q1 q2
  clear b4 b5 hs4 HB3 HA
  go_wp2_with fail
  clear k0 q0 q1 q2 l0 l1 HB4
  obtain ⟨W5, hW5⟩ : ∃ W, w4.alloc (.cells #[.slice a4 lA c4] 24) = W := ⟨_, rfl⟩
  rw [hW5] at HB5 HP5 HS5 ⊢
  obtain ⟨p, hp⟩ : ∃ q, w4.heap.size = q := ⟨_, rfl⟩
  rw [hp] at HP5 HL5 ⊢
  clear hW5 hp
  refine (HA'.out _ HB5.out.k).mono ?_
  clear HA'
  rintro e w6 ⟨a6, c6, rfl, hs6, b6⟩
  have b7 := below_box0 w6 (.cells #[.slice a6 lA c6] 24)
  have b67 := below_tr b6 b7
  have HB7 := Lib.hid (HB5.out.below b67)
  have HP6 := Lib.hid (HP5.out.below b6)
  have HP7 := Lib.hid (HP5.out.below b67)
  have HS7 := Lib.hid (HS5.out.below b67)
  have HR7 := Lib.hid (hs6.below b7)
  have HQ7 : Hid (BoxP (w6.alloc (.cells #[.slice a6 lA c6] 24)) w6.heap.size a6 lA c6) := Lib.hid (heap_alloc_new w6 _)
  have kp := HP6.out.cell
  have lp := blk_lt HP6.out
  have HPQ : Hid (p < w6.heap.size) := Lib.hid lp
  clear b6 b7 b67 hs6 HB5 HP5 HS5 HP6
  have hz2 : (ae != ae) = false := by simp
  go_wp2_with fail
  clear kp lp
  obtain ⟨W7, hW7⟩ : ∃ W, w6.alloc (.cells #[.slice a6 lA c6] 24) = W := ⟨_, rfl⟩
  rw [hW7] at HB7 HP7 HS7 HR7 HQ7 ⊢
  obtain ⟨q, hq⟩ : ∃ q, w6.heap.size = q := ⟨_, rfl⟩
  rw [hq] at HQ7 HPQ ⊢
  clear hW7 hq
  have HSP := Lib.hid (samePlan_ok (c := c4) (d := c6) HS7.out LA.out HR7.out LA.out)
  rw [sqB_yes (fun _ _ => rfl)] at HSP
  refine HSP.out.mono ?_
  clear HSP HS7 HR7
  rintro e w8 ⟨rfl, b8⟩
  have HB8 := Lib.hid (HB7.out.below b8)
  have HP8 := Lib.hid (HP7.out.below b8)
  have HQ8 := Lib.hid (HQ7.out.below b8)
  have k0 := HB8.out.cp
  clear b8 HB7 HP7 HQ7
  go_wp2_with fail
  refine (HC.out _ HB8.out.k).mono ?_
  clear k0 hz2 HC
  rintro e w9 ⟨a9, c9, rfl, hs9, b9⟩
  have HB9 := Lib.hid (HB8.out.below b9)
  have HP9 := Lib.hid (HP8.out.below b9)
  have HQ9 := Lib.hid (HQ8.out.below b9)
  have HV10 : Hid (PB w a n c (nm, t, pp) (w9.setCell ⟨p, 0, none⟩ (.slice a9 lC c9))) := Lib.hid (HB9.out.set HL5.out _)
  have HP10 : Hid (BoxP (w9.setCell ⟨p, 0, none⟩ (.slice a9 lC c9)) p a9 lC c9) := Lib.hid HP9.out.put
  have HQ10 : Hid (BoxP (w9.setCell ⟨p, 0, none⟩ (.slice a9 lC c9)) q a6 lA c6) := Lib.hid (HQ9.out.ne (by have := HPQ.out; omega) _)
  have HS10 : Hid (SlA (w9.setCell ⟨p, 0, none⟩ (.slice a9 lC c9)) a9 lC QC) := Lib.hid (hs9.set_boxA HP9.out _)
  have kp := HP9.out.cell
  have fp := unfrozen_of_block HP9.out
  have lp := blk_lt HP9.out
  have lpp := HL5.out
  have k0 := HB9.out.cp
  clear b9 hs9 HB8 HP8 HQ8
  go_wp2_with fail
  clear kp fp lp k0 lpp HB9 HP9 HQ9
  obtain ⟨W10, hW10⟩ : ∃ W, w9.setCell ⟨p, 0, none⟩ (.slice a9 lC c9) = W := ⟨_, rfl⟩
  rw [hW10] at HV10 HP10 HQ10 HS10 ⊢
  clear hW10
  refine (HC'.out _ HV10.out.k).mono ?_
  clear HC'
  rintro e w11 ⟨a11, c11, rfl, hs11, b11⟩
  have HB11 := Lib.hid (HV10.out.below b11)
  have HP11 := Lib.hid (HP10.out.below b11)
  have HQ11 := Lib.hid (HQ10.out.below b11)
  have HS11 := Lib.hid (HS10.out.below b11)
  have HV12 : Hid (PB w a n c (nm, t, pp) (w11.setCell ⟨q, 0, none⟩ (.slice a11 lC c11))) := Lib.hid (HB11.out.set (by have := HL5.out; have := HPQ.out; omega) _)
  have HP12 : Hid (BoxP (w11.setCell ⟨q, 0, none⟩ (.slice a11 lC c11)) p a9 lC c9) := Lib.hid (HP11.out.ne (by have := HPQ.out; omega) _)
  have HQ12 : Hid (BoxP (w11.setCell ⟨q, 0, none⟩ (.slice a11 lC c11)) q a11 lC c11) := Lib.hid HQ11.out.put
  have HS12 : Hid (SlA (w11.setCell ⟨q, 0, none⟩ (.slice a11 lC c11)) a9 lC QC) := Lib.hid (HS11.out.set_boxA HQ11.out _)
  have HR12 : Hid (SlA (w11.setCell ⟨q, 0, none⟩ (.slice a11 lC c11)) a11 lC QC) := Lib.hid (hs11.set_boxA HQ11.out _)
  have kq := HQ11.out.cell
  have fq := unfrozen_of_block HQ11.out
  have lq := blk_lt HQ11.out
  have lpp := HL5.out
  have lpq := HPQ.out
  have k0 := HB11.out.cp
  clear b11 hs11 HV10 HP10 HQ10 HS10
  go_wp2_with fail
  clear kq fq lq k0 lpp lpq HB11 HP11 HQ11 HS11
  obtain ⟨W12, hW12⟩ : ∃ W, w11.setCell ⟨q, 0, none⟩ (.slice a11 lC c11) = W := ⟨_, rfl⟩
  rw [hW12] at HV12 HP12 HQ12 HS12 HR12 ⊢
  clear hW12
  refine (HN.out _ HV12.out.k).mono ?_
  clear HN
  rintro e w13 ⟨rfl, b13⟩
  have b14 := below_box0 w13 (.cells #[.string rs, .int .i64 rt] 45)
  have b134 := below_tr b13 b14
  have HB13 := Lib.hid (HV12.out.below b13)
  have HB14 := Lib.hid (HV12.out.below b134)
  have HP14 := Lib.hid (HP12.out.below b134)
  have HQ14 := Lib.hid (HQ12.out.below b134)
  have HS14 := Lib.hid (HS12.out.below b134)
  have HR14 := Lib.hid (HR12.out.below b134)
  have HX14 : Hid ((w13.alloc (.cells #[.string rs, .int .i64 rt] 45)).heap[w13.heap.size]? = some (.cells #[.string rs, .int .i64 rt] 45 (0, 0))) := Lib.hid (heap_alloc_new w13 _)
  have k0 := HB13.out.cp
  have l0 := HB13.out.l0
  clear b13 b14 b134 HV12 HP12 HQ12 HS12 HR12
  go_wp2_with fail
  clear k0 l0 HB13
  obtain ⟨W14, hW14⟩ : ∃ W, w13.alloc (.cells #[.string rs, .int .i64 rt] 45) = W := ⟨_, rfl⟩
  rw [hW14] at HB14 HP14 HQ14 HS14 HR14 HX14 ⊢
  obtain ⟨g1, hg1⟩ : ∃ q, w13.heap.size = q := ⟨_, rfl⟩
  rw [hg1] at HX14 ⊢
  clear hW14 hg1
  refine (HN'.out _ HB14.out.k).mono ?_
  clear HN'
  rintro e w15 ⟨rfl, b15⟩
  have b16 := below_box0 w15 (.cells #[.string rs, .int .i64 rt] 45)
  have b156 := below_tr b15 b16
  have HB16 := Lib.hid (HB14.out.below b156)
  have HP15 := Lib.hid (HP14.out.below b15)
  have HQ15 := Lib.hid (HQ14.out.below b15)
  have HS16 := Lib.hid (HS14.out.below b156)
  have HR16 := Lib.hid (HR14.out.below b156)
  have HX16 := Lib.hid ((b156.block _ (blk_lt HX14.out)).trans HX14.out)
  have HY16 : Hid ((w15.alloc (.cells #[.string rs, .int .i64 rt] 45)).heap[w15.heap.size]? = some (.cells #[.string rs, .int .i64 rt] 45 (0, 0))) := Lib.hid (heap_alloc_new w15 _)
  have kp := HP15.out.cell
  have kq := HQ15.out.cell
  have lp := blk_lt HP15.out
  have lq := blk_lt HQ15.out
  clear b15 b16 b156 HB14 HP14 HQ14 HS14 HR14 HX14
  go_wp2_with fail
  clear kp kq lp lq HP15 HQ15
  obtain ⟨W16, hW16⟩ : ∃ W, w15.alloc (.cells #[.string rs, .int .i64 rt] 45) = W := ⟨_, rfl⟩
  rw [hW16] at HB16 HS16 HR16 HX16 HY16 ⊢
  obtain ⟨g2, hg2⟩ : ∃ q, w15.heap.size = q := ⟨_, rfl⟩
  rw [hg2] at HY16 ⊢
  clear hW16 hg2
  have HSP := Lib.hid (samePlan_ok (c := c9) (d := c11) HS16.out LC.out HR16.out LC.out)
  rw [sqB_yes (fun _ _ => rfl)] at HSP
  refine HSP.out.mono ?_
  clear HSP HS16 HR16
  rintro e w17 ⟨rfl, b17⟩
  have HB17 := Lib.hid (HB16.out.below b17)
  have HX17 := (b17.block _ (blk_lt HX16.out)).trans HX16.out
  have HY17 := (b17.block _ (blk_lt HY16.out)).trans HY16.out
  have x0 : w17.cell? ⟨g1, 0, none⟩ = some (.string rs) := by rw [cell_of_block HX17]; rfl
  have x1 : w17.cell? ⟨g1, 1, none⟩ = some (.int .i64 rt) := by rw [cell_of_block HX17]; rfl
  have y0 : w17.cell? ⟨g2, 0, none⟩ = some (.string rs) := by rw [cell_of_block HY17]; rfl
  have y1 : w17.cell? ⟨g2, 1, none⟩ = some (.int .i64 rt) := by rw [cell_of_block HY17]; rfl
  have hgd := guardG
  have heq := HEQ.out
  have hz1 : (ke == ke) = true := by simp
  have hz2 : (ne == ne) = true := by simp
  clear b17 HB16 HX16 HY16 HX17 HY17
  go_wp2_with fail
  refine (shown_ok _ (HT.out.below HB17.out.k)).mono ?_
  clear x0 x1 y0 y1 hgd heq hz1 hz2
  rintro e w18 ⟨rfl, b18⟩
  have HB18 := Lib.hid (HB17.out.below b18)
  clear b18
  go_wp2
  go_ret
  exact ⟨rfl, HB18.out.k⟩
theorem law_plans (hS : SlA w a n R) (hn : n ≤ 9223372036854775807) (hc : n ≤ c) (hR : ∀ j, j < n → AlB (R j)) (hT : T9 w) :
    Calls Tryd.prog 8 #[pV a n c, aV x, .string s] w fun e w' => e = .returned (.bool true) ∧ Below w.heap.size w w' := by
  cases hF : farB n R with
  | true => exact plans_far a n c R x s w hS hn hR hT (.inl hF)
  | false =>
    by_cases h1 : 100 < x.1.size
    · exact plans_far a n c R x s w hS hn hR hT (.inr (.inl ⟨hF, h1⟩))
    · by_cases h2 : 100 < s.size
      · exact plans_far a n c R x s w hS hn hR hT (.inr (.inr ⟨hF, h1, h2⟩))
      · refine plans_in a n c R x s w hS ?_ hc hR (by omega) (by omega) hT hF
        by_cases h : 60 < n
        · rw [farB_long h] at hF; cases hF
        · omega
end
end Go.Proofs.YtjceahbikdncmaaDoor

namespace Go.Proofs.YtjceahbikdncmaaDoor
open Go.ChangeShapes Go.WideShapes Go.ChangeAt Go.RowKit Go.Joins
/-- a slice that reads as integers -/
def SlZ (k : IntKind) (w : World) (a : Option Addr) (n : Nat) (G : Nat → Int) : Prop := n = 0 ∨ ∃ b o, a = some ⟨b, o, none⟩ ∧ ∀ j, j < n → w.cell? ⟨b, o + j, none⟩ = some (.int k (G j))
theorem SlZ.below {k : IntKind} {w w' : World} {a : Option Addr} {n : Nat} {G : Nat → Int} (h : SlZ k w a n G) (hb : Below w.heap.size w w') : SlZ k w' a n G := by
  rcases h with h | ⟨b, o, ha, hc⟩
  · exact .inl h
  · refine .inr ⟨b, o, ha, fun j hj => ?_⟩
    have h0 := hc j hj
    have hl := World.block_lt_of_cell? _ _ h0
    dsimp only at hl
    exact (hb.cell (p := ⟨b, o + j, none⟩) hl).trans h0
theorem SlZ.at_ {k : IntKind} {w : World} {a : Option Addr} {n : Nat} {G : Nat → Int} (h : SlZ k w a n G) {j : Nat} (hj : j < n) : ∃ b o, a = some ⟨b, o, none⟩ ∧ w.cell? ⟨b, o + j, none⟩ = some (.int k (G j)) := by
  obtain ⟨b, o, ha, hc⟩ := h.resolve_left (by omega)
  exact ⟨b, o, ha, hc j hj⟩
section
variable {H : Type} {enc : TypeId × Value → H} {W : World} {base : Nat}
set_option maxRecDepth 100000 in
theorem open_zs {t e : TypeId} {k : IntKind} (ht : Tryd.prog.underlying t = some (.slice e)) (he : Tryd.prog.underlying e = some (.int k)) (hc : Tryd.prog.cellsOf e = 1)
    {v : Value} {d : DataW H} {p : List MemPlace} (hv : Value.okWide Tryd.prog W .any base t v) (h : DataW.Trod enc Tryd.prog W 0 (fun _ => true) true t v d p) :
    ∃ (a : Option Addr) (n cap : Nat) (G : Nat → Int), v = .slice a n cap ∧ SlZ k W a n G ∧ n ≤ 9223372036854775807 ∧ ∀ j, j < n → (Lit.int k (G j)).wf = true := by
  obtain ⟨a, l, c, rfl⟩ := okWide_slice ht hv
  obtain ⟨fuel, hf⟩ := h
  rcases open_ints ht he hc hf with ⟨h, _⟩ | ⟨A, len, cap, zs, h, _, hl, hm, hz, _, hcl, hwf⟩
  · cases h
    exact ⟨none, 0, 0, fun _ => 0, rfl, .inl rfl, by decide, fun j hj => by omega⟩
  · cases h
    have hz' : zs.length = c := by simpa using hz
    have hml : maxLen ≤ 9223372036854775807 := by decide
    refine ⟨some A, l, c, fun j => zs.getD j 0, rfl, ?_, by omega, fun j hj => ?_⟩
    · by_cases h0 : l = 0
      · exact .inl h0
      · obtain ⟨b, off, rfl, hc'⟩ := ints_at hcl (by omega)
        exact .inr ⟨b, off, rfl, fun j hj => hc' j (by omega)⟩
    · have hjl : j < zs.length := by omega
      have := hwf zs[j] (List.getElem_mem _)
      have e : zs.getD j 0 = zs[j] := by simp [List.getD, hjl]
      show (Lit.int k (zs.getD j 0)).wf = true
      rw [e]
      exact this
end
end Go.Proofs.YtjceahbikdncmaaDoor

namespace Go.Proofs.YtjceahbikdncmaaDoor
open Go.ChangeShapes Go.WideShapes Go.ChangeAt Go.RowKit

theorem own : ownKnob Tryd.prog.godebug = none := by kernel_rfl
theorem laidOut : laidOutB Tryd.prog = true := by kernel_rfl

theorem trodAll_below {H : Type} {enc : TypeId × Value → H} {W W' : World} (hb : Below W.heap.size W W') (ts : List TypeId) : ∀ (vs : List Value) (ds : List (DataW H)) (ps : List MemPlace),
    (ts.all fun t => Tryd.prog.readableRec t && decide (t < Tryd.prog.types.size)) = true → (∀ x ∈ ps, x.block < W.heap.size) → DataW.TrodAll enc Tryd.prog W 0 (fun _ => true) true ts vs ds ps →
    DataW.TrodAll enc Tryd.prog W' 0 (fun b => decide (b < W.heap.size)) true ts vs ds ps := by
  induction ts with
  | nil =>
    intro vs ds ps _ _ h
    obtain ⟨rfl, rfl, rfl⟩ := trodAll_nil h
    exact trodAll_mk0
  | cons t ts ih =>
    intro vs ds ps hr hlt h
    obtain ⟨v, vs', d, ds', p, q, rfl, rfl, rfl, h1, h2⟩ := trodAll_cons h
    rw [List.all_cons, Bool.and_eq_true, Bool.and_eq_true] at hr
    exact trodAll_cons_mk (Below.trod laidOut hr.1.1 (of_decide_eq_true hr.1.2) h1 hb (fun x hx => hlt x (List.mem_append_left _ hx))) (ih vs' ds' q hr.2 (fun x hx => hlt x (List.mem_append_right _ hx)) h2)

/-- WHAT A LAW's WALK GIVES THE ROW: true, the arguments read as they did. -/
theorem law_post {H : Type} {enc : TypeId × Value → H} {fn : Func} {s : ChangeSpec} {W W' : World} {args : Array Value} {ds gs : List (DataW H)} {before : List MemPlace}
    (hW : DataW.Whole enc Tryd.prog fn.params.toList s.vars false W args.toList ds gs before) (hv : s.vars = []) (hr : (fn.params.toList.all fun t => Tryd.prog.readableRec t && decide (t < Tryd.prog.types.size)) = true) (hrt : fn.resultTypes = #[4])
    (h1 : (s.fn H (ds ++ gs)).results = [.lit (.bool true)]) (h2 : (s.fn H (ds ++ gs)).args = ds) (h3 : (s.fn H (ds ++ gs)).vars = []) (hb : Below W.heap.size W W') :
    s.post enc Tryd.prog fn false true false false W args (.bool true) W' := by
  have hW' := hW
  have hlt := hW.lt
  obtain ⟨p, q, hA, hV, rfl, hfz, hnd⟩ := hW
  refine ⟨ds, gs, p ++ q, [], p, [], hW', ?_, ?_, ?_, hb.frame _, fun h => by cases h⟩
  · rw [h1, hrt]
    exact trodAll_cons_mk (shut_bool Tryd.underlying4 _) trodAll_mk0
  · rw [h2]
    exact trodAll_below hb _ _ _ _ hr (fun x hx => hlt x (List.mem_append_left _ hx)) hA
  · rw [h3, hv]; rfl
end Go.Proofs.YtjceahbikdncmaaDoor

namespace Go.Proofs.YtjceahbikdncmaaDoor
open Go.ChangeShapes Go.WideShapes Go.ChangeAt Go.RowKit Go.Joins Go.Deep
section
variable {H : Type} {enc : TypeId × Value → H} {W : World} {base : Nat}
set_option maxRecDepth 100000 in
theorem open_ckplanF {fuel : Nat} {cs : List Value} {x : DataW H × List MemPlace} (hl : cs.length = 1) (h : DataW.trod enc Tryd.prog W base (fun _ => true) true fuel 24 cs = some x) :
    ∃ (a : Option Addr) (n cap : Nat) (R : Nat → Al), cs = [.slice a n cap] ∧ SlA W a n R ∧ n ≤ 9223372036854775807 ∧ ∀ j, j < n → AlB (R j) := by
  obtain ⟨ys, n', _, _, _, hyl, hf⟩ := DataW.trod_struct Tryd.underlying24 h
  have h0 : DataW.trod enc Tryd.prog W base (fun _ => true) true n' 22 ((cs.drop 0).take (Tryd.prog.cellsOf 22)) = ys[0]? := hf 0 _ rfl
  have hk : Tryd.prog.cellsOf 22 = 1 := by kernel_rfl
  rw [hk] at h0
  match cs, hl with
  | [v], _ =>
    have hys : ys[0]? = some (ys[0]'(by rw [hyl]; decide)) := List.getElem?_eq_getElem _
    obtain ⟨a, n, cap, R, hv, h2, h3, h4⟩ := open_alarms (show DataW.trod enc Tryd.prog W base (fun _ => true) true n' 22 [v] = some _ from h0.trans hys)
    exact ⟨a, n, cap, R, by rw [hv], h2, h3, h4⟩
set_option maxRecDepth 100000 in
theorem open_ckplan {v : Value} {d : DataW H} {p : List MemPlace} (hv : Value.okWide Tryd.prog W .any base 24 v) (h : DataW.Trod enc Tryd.prog W 0 (fun _ => true) true 24 v d p) :
    ∃ (a : Option Addr) (n cap : Nat) (R : Nat → Al), v = .agg #[.slice a n cap] ∧ SlA W a n R ∧ n ≤ 9223372036854775807 ∧ ∀ j, j < n → AlB (R j) := by
  obtain ⟨cs, rfl, hsz⟩ := okWide_struct Tryd.underlying24 hv
  have hC : Tryd.prog.cellsOf 24 = 1 := by kernel_rfl
  obtain ⟨fuel, hf⟩ := h
  obtain ⟨a, n, cap, R, h1, h2⟩ := open_ckplanF (cs := cs.toList) (by simpa using hsz.trans hC) hf
  exact ⟨a, n, cap, R, by cases cs; simp_all, h2⟩
set_option maxRecDepth 100000 in
theorem open_clock {v : Value} {d : DataW H} {p : List MemPlace} (hv : Value.okWide Tryd.prog W .any base 38 v) (h : DataW.Trod enc Tryd.prog W 0 (fun _ => true) true 38 v d p) :
    ∃ x : Int, v = .agg #[.int .i64 x] ∧ I64r x := by
  obtain ⟨cs, rfl, hsz⟩ := okWide_struct Tryd.underlying38 hv
  have hC : Tryd.prog.cellsOf 38 = 1 := by kernel_rfl
  have hk : Tryd.prog.cellsOf 2 = 1 := by kernel_rfl
  obtain ⟨fuel, hf⟩ := h
  obtain ⟨ys, n', _, _, _, hyl, hg⟩ := DataW.trod_struct Tryd.underlying38 hf
  have h0 : DataW.trod enc Tryd.prog W 0 (fun _ => true) true n' 2 ((cs.toList.drop 0).take (Tryd.prog.cellsOf 2)) = ys[0]? := hg 0 _ rfl
  rw [hk] at h0
  have hl : cs.toList.length = 1 := by simpa using hsz.trans hC
  have hys : ys[0]? = some (ys[0]'(by rw [hyl]; decide)) := List.getElem?_eq_getElem _
  match hcs : cs.toList, hl with
  | [v], _ =>
    rw [hcs] at h0
    obtain ⟨x, e, _, wf⟩ := DataW.trod_int Tryd.underlying2 (show DataW.trod enc Tryd.prog W 0 (fun _ => true) true n' 2 [v] = some _ from h0.trans hys)
    cases e
    exact ⟨x, by cases cs; simp_all, bounds_i64 wf⟩
end
end Go.Proofs.YtjceahbikdncmaaDoor

namespace Go.Proofs.YtjceahbikdncmaaDoor
open Go.ChangeShapes Go.WideShapes Go.ChangeAt Go.RowKit Go.Joins Go.Deep
section
variable {H : Type} {enc : TypeId × Value → H} {W : World} {base : Nat}
set_option maxRecDepth 100000 in
theorem open_alarmsC {fuel : Nat} {v : Value} {x : DataW H × List MemPlace} (hf : DataW.trod enc Tryd.prog W base (fun _ => true) true fuel 22 [v] = some x) :
    ∃ (a : Option Addr) (n cap : Nat) (R : Nat → Al), v = .slice a n cap ∧ SlA W a n R ∧ n ≤ 9223372036854775807 ∧ (∀ j, j < n → AlB (R j)) ∧ n ≤ cap := by
  obtain ⟨a, n, cap, R, h1, h2, h3, h4⟩ := open_alarms hf
  refine ⟨a, n, cap, R, h1, h2, h3, h4, ?_⟩
  rcases open_slice_fields Tryd.underlying22 Tryd.underlying47 (by kernel_rfl) (by kernel_rfl) hf with ⟨h, _⟩ | ⟨A, len, cap', mm, D, Pl, h, _, hl, _⟩
  · rw [h1] at h
    cases h
    exact Nat.le_refl _
  · rw [h1] at h
    cases h
    exact hl
set_option maxRecDepth 100000 in
theorem open_ckplanC {v : Value} {d : DataW H} {p : List MemPlace} (hv : Value.okWide Tryd.prog W .any base 24 v) (h : DataW.Trod enc Tryd.prog W 0 (fun _ => true) true 24 v d p) :
    ∃ (a : Option Addr) (n cap : Nat) (R : Nat → Al), v = .agg #[.slice a n cap] ∧ SlA W a n R ∧ n ≤ 9223372036854775807 ∧ (∀ j, j < n → AlB (R j)) ∧ n ≤ cap := by
  obtain ⟨cs, rfl, hsz⟩ := okWide_struct Tryd.underlying24 hv
  have hC : Tryd.prog.cellsOf 24 = 1 := by kernel_rfl
  obtain ⟨fuel, hf⟩ := h
  have hl : cs.toList.length = 1 := by simpa using hsz.trans hC
  obtain ⟨ys, n', _, _, _, hyl, hg⟩ := DataW.trod_struct Tryd.underlying24 hf
  have h0 : DataW.trod enc Tryd.prog W 0 (fun _ => true) true n' 22 ((cs.toList.drop 0).take (Tryd.prog.cellsOf 22)) = ys[0]? := hg 0 _ rfl
  have hk : Tryd.prog.cellsOf 22 = 1 := by kernel_rfl
  rw [hk] at h0
  have hys : ys[0]? = some (ys[0]'(by rw [hyl]; decide)) := List.getElem?_eq_getElem _
  match hcs : cs.toList, hl with
  | [v], _ =>
    rw [hcs] at h0
    obtain ⟨a, n, cap, R, e, h2⟩ := open_alarmsC (show DataW.trod enc Tryd.prog W 0 (fun _ => true) true n' 22 [v] = some _ from h0.trans hys)
    cases e
    exact ⟨a, n, cap, R, by cases cs; simp_all, h2⟩
set_option maxRecDepth 100000 in
theorem open_ckalarm {v : Value} {d : DataW H} {p : List MemPlace} (hv : Value.okWide Tryd.prog W .any base 47 v) (h : DataW.Trod enc Tryd.prog W 0 (fun _ => true) true 47 v d p) :
    ∃ x : Al, v = aV x ∧ x.1.size ≤ 9223372036854775807 := by
  obtain ⟨cs, rfl, hsz⟩ := okWide_struct Tryd.underlying47 hv
  have hC : Tryd.prog.cellsOf 47 = 3 := by kernel_rfl
  have hk : Tryd.prog.cellsOf 2 = 1 := by kernel_rfl
  have hk9 : Tryd.prog.cellsOf 9 = 1 := by kernel_rfl
  obtain ⟨fuel, hf⟩ := h
  have hl : cs.toList.length = 3 := by simpa using hsz.trans hC
  obtain ⟨ys, n', _, _, _, hyl, hg⟩ := DataW.trod_struct Tryd.underlying47 hf
  have h0 : DataW.trod enc Tryd.prog W 0 (fun _ => true) true n' 9 ((cs.toList.drop 0).take (Tryd.prog.cellsOf 9)) = ys[0]? := hg 0 _ rfl
  have h1 : DataW.trod enc Tryd.prog W 0 (fun _ => true) true n' 2 ((cs.toList.drop 1).take (Tryd.prog.cellsOf 2)) = ys[1]? := hg 1 _ rfl
  have h2 : DataW.trod enc Tryd.prog W 0 (fun _ => true) true n' 2 ((cs.toList.drop 2).take (Tryd.prog.cellsOf 2)) = ys[2]? := hg 2 _ rfl
  rw [hk9] at h0
  rw [hk] at h1 h2
  have hys0 : ys[0]? = some (ys[0]'(by rw [hyl]; decide)) := List.getElem?_eq_getElem _
  have hys1 : ys[1]? = some (ys[1]'(by rw [hyl]; decide)) := List.getElem?_eq_getElem _
  have hys2 : ys[2]? = some (ys[2]'(by rw [hyl]; decide)) := List.getElem?_eq_getElem _
  match hcs : cs.toList, hl with
  | [v0, v1, v2], _ =>
    rw [hcs] at h0 h1 h2
    obtain ⟨x0, e0, _, w0⟩ := DataW.trod_string Tryd.underlying9 (show DataW.trod enc Tryd.prog W 0 (fun _ => true) true n' 9 [v0] = some _ from h0.trans hys0)
    obtain ⟨x1, e1, _, w1⟩ := DataW.trod_int Tryd.underlying2 (show DataW.trod enc Tryd.prog W 0 (fun _ => true) true n' 2 [v1] = some _ from h1.trans hys1)
    obtain ⟨x2, e2, _, w2⟩ := DataW.trod_int Tryd.underlying2 (show DataW.trod enc Tryd.prog W 0 (fun _ => true) true n' 2 [v2] = some _ from h2.trans hys2)
    cases e0; cases e1; cases e2
    exact ⟨(x0, x1, x2), by cases cs; simp_all, w0⟩
set_option maxRecDepth 100000 in
theorem open_str {v : Value} {d : DataW H} {p : List MemPlace} (hv : Value.okWide Tryd.prog W .any base 9 v) : ∃ s : ByteArray, v = .string s := okWide_string Tryd.underlying9 hv
end
end Go.Proofs.YtjceahbikdncmaaDoor
