/- Clocks: Add of an alarm that is taken. | Clocks: ClockParts returns true. -/
import Derived.Test.YtjceahbikdncmaaDoorPZ15
import Derived.Test.YtjceahbikdncmaaDoorPZ9
import Derived.BigRegion
import Derived.BigGuard
import Derived.Deep.Cut
namespace Go.Proofs.YtjceahbikdncmaaDoor
open Go.RowKit Go.Sort Go.Joins Go.Shelf
attribute [local go_sem] cell_grow frozen_grow size_grow Oper.semAt_some
section
variable {w : World} {a : Option Addr} {n c : Nat} {R : Nat → Al}
set_option maxRecDepth 100000 in
set_option maxHeartbeats 1600000 in
theorem add_in (hS : SlA w a n R) (hn : n ≤ 9223372036854775807) (hR : ∀ j, j < n → AlB (R j)) (x : Al) (hx : x.1.size ≤ 9223372036854775807) (hE : addE n R x = 0) :
    Calls Tryd.prog 27 #[pV a n c, aV x] w (AddPost w n R x) := by
  obtain ⟨h0, hA, h8, h50⟩ := addE_zero hE
  have hab := AB.new (w := w) (a := a) (n := n) (c := c) (x := x)
  have HAB := Lib.hid hab
  have HC := Lib.hid (check_ok (c := c) (hS.below hab.k) hn hR)
  have HX := Lib.hid (checkAlarm_ok x hx)
  have HS := Lib.hid hS
  have hP := cE_zero h0
  have HP := Lib.hid hP
  have hn50 := hP.n50
  rw [h0] at HC
  rw [hA] at HX
  have HE := Lib.hid hE
  have hq : (decide (lowI n R x.1 < n) && decide ((R (lowI n R x.1)).1 = x.1)) = false := by
    by_cases h1 : lowI n R x.1 < n
    · rw [decide_eq_false (fun h2 => h8 ⟨h1, h2⟩), Bool.and_false]
    · rw [decide_eq_false h1, Bool.false_and]
  have HQ := Lib.hid hq
  have HL := Lib.hid (addL_take n R x)
  have hlow := (low_spec n R x.1).1
  obtain ⟨i, hi⟩ : ∃ i, lowI n R x.1 = i := ⟨_, rfl⟩
  rw [hi] at hlow HL
  have HI := Lib.hid hi
  have d5 : ((n : Int) == 50) = false := by simp; omega
  clear hS hR hab hE h0 hA hP h8 h50 hq hi
  obtain ⟨nm, t, pp⟩ := x
  go_enter Tryd.func27, Tryd.ntmps27
  go_wp2_with fail
  refine HC.out.mono ?_
  rintro e w0 ⟨rfl, b0⟩
  have HB0 := Lib.hid (HAB.out.below b0)
  have q0 := HB0.out.c0
  have q1 := HB0.out.c1
  have q2 := HB0.out.c2
  dsimp only at q0 q1 q2
  clear b0
  go_wp2_with fail
  refine (HX.out _).mono ?_
  clear q0 q1 q2
  rintro e w1 ⟨rfl, b1⟩
  have HB1 := Lib.hid (HB0.out.below b1)
  have HF := Lib.hid (find_ok (c := c) (HS.out.below HB1.out.k) HP.out nm)
  rw [HQ.out, HI.out] at HF
  have k0 := HB1.out.cp
  have q0 := HB1.out.c0
  dsimp only at q0
  clear b1
  go_wp2_with fail
  refine HF.out.mono ?_
  clear k0 q0
  rintro e w2 ⟨rfl, b2⟩
  have HB2 := Lib.hid (HB1.out.below b2)
  have k0 := HB2.out.cp
  clear b2
  have q0 := HB2.out.c0
  have q1 := HB2.out.c1
  have q2 := HB2.out.c2
  have l0 := HB2.out.lp
  have l1 := HB2.out.lx
  dsimp only at q0 q1 q2
  have HCl : Hid (∀ W, Below w2.heap.size w2 W → Calls Tryd.prog 45 #[.slice a n c] W fun e w' => ∃ va vc, e = .returned (.slice va n vc) ∧ w'.ownsRow W.heap.size 47 3 (.slice va (plL n R).length vc) (plL n R).length (alc (plL n R)) ∧ Below W.heap.size W w') := Lib.hid (fun W hb => by
    have h1 := (HS.out.below (below_tr HB2.out.k hb)).plan
    have h2 := cloneA_ok (c := c) h1 (by rw [plL_len]; omega)
    rw [show #[Value.slice a (plL n R).length c] = #[Value.slice a n c] by rw [plL_len]] at h2
    refine h2.mono ?_
    rintro e w' ⟨v, rfl, ho, hb⟩
    obtain ⟨va, vc, rfl⟩ := own_slice' ho
    exact ⟨va, vc, by rw [plL_len], ho, hb⟩)
  have HIN : Hid (∀ (W : World) (base : Nat) (va : Option Addr) (vc vb : Nat), W.ownsRow base 47 3 (.slice va (plL n R).length vc) (plL n R).length (alc (plL n R)) → base ≤ W.heap.size → W.heap[vb]? = some (.cells #[.string nm, .int .i64 t, .int .i64 pp] 47 (0, 0)) → (∀ g, va = some ⟨g, 0, none⟩ → vb ≠ g) →
      Calls Tryd.prog 44 #[.slice va n vc, .int .i64 i, .slice (some ⟨vb, 0, none⟩) 1 1] W fun e w' => ∃ (va4 : Option Addr) (vc4 : Nat), e = .returned (.slice va4 (n + 1) vc4) ∧ SlA w' va4 (n + 1) (fun j => (addL n R (nm, t, pp)).getD j al0) ∧ Below base W w') := Lib.hid (fun W base va vc vb ho hb hv hne => by
    have h1 := insA_ok (P := plL n R) (i := i) (x := (nm, t, pp)) ho hb (by rw [plL_len]; omega) (by rw [plL_len]; exact hlow) hv hne
    have e1 : insL (plL n R) i (nm, t, pp) = addL n R (nm, t, pp) := HL.out.symm
    unfold InsPost at h1
    rw [e1, plL_len] at h1
    exact h1)
  have HA2 : Hid (Below w2.heap.size w2 w2.drew) := Lib.hid (Below.refl _ _).drew
  have HA1 : Hid (Below w2.heap.size w2 ((w2.alloc (.cells #[.string nm, .int .i64 t, .int .i64 pp] 47)).drew)) := Lib.hid ((Below.refl _ w2).alloc (Nat.le_refl _) _).drew
  have HI2 : Hid (∀ (w3 : World) (va : Option Addr) (vc : Nat), w3.ownsRow w2.heap.size 47 3 (.slice va (plL n R).length vc) (plL n R).length (alc (plL n R)) → Below w2.heap.size w2 w3 → Calls Tryd.prog 44 #[.slice va n vc, .int .i64 i, .slice (some ⟨w3.heap.size, 0, none⟩) 1 1] (w3.alloc (.cells #[.string nm, .int .i64 t, .int .i64 pp] 47)) fun e w' => ∃ (va4 : Option Addr) (vc4 : Nat), e = .returned (.slice va4 (n + 1) vc4) ∧ SlA w' va4 (n + 1) (fun j => (addL n R (nm, t, pp)).getD j al0) ∧ Below w2.heap.size w2 w') := Lib.hid (fun w3 va vc ho hb => by
    have hs := hb.size
    refine (HIN.out (w3.alloc (.cells #[.string nm, .int .i64 t, .int .i64 pp] 47)) w2.heap.size va vc w3.heap.size (ho.alloc _) (by rw [World.size_alloc]; omega) (heap_alloc_new w3 _) (fun g hg => by have := (ho.lt g (by rw [hg]; rfl)).2; omega)).mono ?_
    rintro e w' ⟨va4, vc4, h1, h2, h3⟩
    exact ⟨va4, vc4, h1, h2, (hb.alloc hs _).trans h3⟩)
  have HI1 : Hid (∀ (w3 : World) (va : Option Addr) (vc : Nat), w3.ownsRow (w2.heap.size + 1) 47 3 (.slice va (plL n R).length vc) (plL n R).length (alc (plL n R)) → Below (w2.heap.size + 1) ((w2.alloc (.cells #[.string nm, .int .i64 t, .int .i64 pp] 47)).drew) w3 → Calls Tryd.prog 44 #[.slice va n vc, .int .i64 i, .slice (some ⟨w2.heap.size, 0, none⟩) 1 1] w3 fun e w' => ∃ (va4 : Option Addr) (vc4 : Nat), e = .returned (.slice va4 (n + 1) vc4) ∧ SlA w' va4 (n + 1) (fun j => (addL n R (nm, t, pp)).getD j al0) ∧ Below w2.heap.size w2 w') := Lib.hid (fun w3 va vc ho hb => by
    have hv : w3.heap[w2.heap.size]? = some (.cells #[.string nm, .int .i64 t, .int .i64 pp] 47 (0, 0)) := (hb.block w2.heap.size (by omega)).trans (heap_alloc_new w2 _)
    have hs := blk_lt hv
    refine (HIN.out w3 (w2.heap.size + 1) va vc w2.heap.size ho (by omega) hv (fun g hg => by have := (ho.lt g (by rw [hg]; rfl)).1; omega)).mono ?_
    rintro e w' ⟨va4, vc4, h1, h2, h3⟩
    refine ⟨va4, vc4, h1, h2, HA1.out.trans ((hb.mono (by omega)).trans (h3.mono (by omega)))⟩)
  have HT1 : Hid (∀ w3, Below (w2.heap.size + 1) ((w2.alloc (.cells #[.string nm, .int .i64 t, .int .i64 pp] 47)).drew) w3 → AB w a n c (nm, t, pp) w3) := Lib.hid (fun w3 hb => HB2.out.below (HA1.out.trans (hb.mono (by omega))))
  have HZ1 : ((w2.alloc (.cells #[.string nm, .int .i64 t, .int .i64 pp] 47)).drew).heap.size = w2.heap.size + 1 := World.size_alloc _ _
  have HCl1 := HCl.out _ HA1.out
  rw [HZ1] at HCl1
  have HC1 := Lib.hid HCl1
  have HC2 := Lib.hid (HCl.out w2.drew HA2.out)
  clear HX HC HF HL hlow HIN HCl HCl1 HZ1
  go_wp2_with fail
  first
    | go_region_with (first
        | (go_at_call 45
           refine HC1.out.mono ?_
           rintro e' w3 ⟨va, vc, rfl, ho, b3⟩
           have HO3 := Lib.hid ho
           have HW3 := Lib.hid b3
           have HM1 := HO3
           clear b3 ho q0 q1 q2 k0 l0 l1)
        | (go_at_call 45
           refine HC2.out.mono ?_
           rintro e' w3 ⟨va, vc, rfl, ho, b3⟩
           have HO3 := Lib.hid ho
           have HW3 := Lib.hid (HA2.out.trans b3)
           have HB3 := Lib.hid (HB2.out.below HW3.out)
           have HM2 := HO3
           clear b3 ho q0 q1 q2 k0 l0 l1
           have q0 := HB3.out.c0
           have q1 := HB3.out.c1
           have q2 := HB3.out.c2
           have l1 := HB3.out.lx
           dsimp only at q0 q1 q2)
        | (go_at_call 44
           have HM := HM1
           refine (HI1.out w3 va vc HO3.out HW3.out).mono ?_
           rintro e' w4 ⟨va4, vc4, rfl, hs4, b4⟩
           have HS4 := Lib.hid hs4
           have HB4 := Lib.hid (HB2.out.below b4)
           clear hs4 b4
           have k5 := HB4.out.co
           have f5 := HB4.out.fo
           have l5 := HB4.out.lo)
        | (go_at_call 44
           have HM := HM2
           refine (HI2.out w3 va vc HO3.out HW3.out).mono ?_
           rintro e' w4 ⟨va4, vc4, rfl, hs4, b4⟩
           have HS4 := Lib.hid hs4
           have HB4 := Lib.hid (HB2.out.below b4)
           clear hs4 b4
           have k5 := HB4.out.co
           have f5 := HB4.out.fo
           have l5 := HB4.out.lo)) | fail
  all_goals
    (try simp only [Exit.inBlock, Exit.then])
    go_wp2
    refine bodyPost_ret (v := .tuple #[pV va4 (n + 1) vc4, .int .i64 0]) (by simp [results, Tryd.results27, go_sem, k5, f5]) rfl ⟨va4, vc4, addL n R (nm, t, pp), by rw [HE.out, addL_len], Lib.hid (by unfold addR; rw [HE.out, if_pos rfl]), ?_, HB4.out.k.setCell (p := ⟨w.heap.size + 1 + 1, 0, none⟩) (by dsimp only; omega) _⟩
    rw [addL_len]
    exact HS4.out.set_boxA HB4.out.o _
theorem add_ok (hS : SlA w a n R) (hn : n ≤ 9223372036854775807) (hR : ∀ j, j < n → AlB (R j)) (x : Al) (hx : x.1.size ≤ 9223372036854775807) :
    Calls Tryd.prog 27 #[pV a n c, aV x] w (AddPost w n R x) := by
  by_cases h0 : cE n R = 0
  · by_cases hA : alE x = 0
    · by_cases hE : addE n R x = 0
      · exact add_in hS hn hR x hx hE
      · exact add_full hS hn hR x hx h0 hA hE
    · exact add_alarm hS hn hR x hx h0 hA
  · exact add_bad hS hn hR x h0
theorem rAdd_ok (hS : SlA w a n R) (hn : n ≤ 9223372036854775807) (hc : n ≤ c) (hR : ∀ j, j < n → AlB (R j)) (x : Al) (hx : x.1.size ≤ 9223372036854775807) :
    Calls Tryd.prog 28 #[pV a n c, aV x] w (AddPost w n R x) := by
  by_cases h0 : cE n R = 0
  · by_cases hA : alE x = 0
    · by_cases hE : addE n R x = 0
      · exact rAdd_in hS hn hc hR x hx hE
      · exact rAdd_full hS hn hR x hx h0 hA hE
    · exact rAdd_alarm hS hn hR x hx h0 hA
  · exact rAdd_bad hS hn hR x hx h0
end
end Go.Proofs.YtjceahbikdncmaaDoor

namespace Go.Proofs.YtjceahbikdncmaaDoor
open Go.RowKit Go.Sort Go.Joins Go.Shelf
attribute [local go_sem] cell_grow frozen_grow size_grow Oper.semAt_some
abbrev BoxP (W : World) (b : Nat) (a : Option Addr) (n c : Nat) : Prop := W.heap[b]? = some (.cells #[.slice a n c] 24 (0, 0))
theorem BoxP.cell {W : World} {b n c : Nat} {a : Option Addr} (h : BoxP W b a n c) : W.cell? ⟨b, 0, none⟩ = some (.slice a n c) := by rw [cell_of_block h]; rfl
theorem BoxP.below {W W' : World} {b n c : Nat} {a : Option Addr} (h : BoxP W b a n c) (hb : Below W.heap.size W W') : BoxP W' b a n c := (hb.block _ (blk_lt h)).trans h
section
variable (a : Option Addr) (n c : Nat) (R : Nat → Al) (f u : Int) (w : World)
set_option maxRecDepth 100000 in
set_option maxHeartbeats 3200000 in
theorem parts_far (hS : SlA w a n R) (hn : n ≤ 9223372036854775807) (hR : ∀ j, j < n → AlB (R j)) (hT : T9 w) (hF : farB n R = true) :
    Calls Tryd.prog 4 #[pV a n c, .int .i64 f, .int .i64 u] w fun e w' => e = .returned (.bool true) ∧ Below w.heap.size w w' := by
  have b0 := below_box0 w (.cells #[.slice a n c] 24)
  have HB0 := Lib.hid b0
  have HT := Lib.hid hT
  have HF := Lib.hid (far_ok (c := c) (hS.below b0) hn hR)
  rw [hF] at HF
  clear b0 hS hn hR hT hF
  go_enter Tryd.func4, Tryd.ntmps4
  go_wp2_with fail
  refine HF.out.mono ?_
  rintro e w1 ⟨rfl, b1⟩
  have HB1 := Lib.hid (below_tr HB0.out b1)
  clear b1
  go_wp2_with fail
  refine (shown_ok _ (HT.out.below HB1.out)).mono ?_
  rintro e w2 ⟨rfl, b2⟩
  have HB2 := Lib.hid (below_tr HB1.out b2)
  clear b2
  go_wp2
  go_ret
  exact ⟨rfl, HB2.out⟩
set_option maxRecDepth 100000 in
set_option maxHeartbeats 3200000 in
theorem parts_bad (hS : SlA w a n R) (hn : n ≤ 9223372036854775807) (hR : ∀ j, j < n → AlB (R j)) (hT : T9 w) (hF : farB n R = false) (hE : rnE n R u ≠ 0) :
    Calls Tryd.prog 4 #[pV a n c, .int .i64 f, .int .i64 u] w fun e w' => e = .returned (.bool true) ∧ Below w.heap.size w w' := by
  have b0 := below_box0 w (.cells #[.slice a n c] 24)
  have HB0 := Lib.hid b0
  have HT := Lib.hid hT
  have HX0 : Hid (BoxP (w.alloc (.cells #[.slice a n c] 24)) w.heap.size a n c) := Lib.hid (heap_alloc_new w _)
  have HF := Lib.hid (far_ok (c := c) (hS.below b0) hn hR)
  rw [hF] at HF
  have HR := Lib.hid (fun (W : World) (hb : Below w.heap.size w W) => run_bad (c := c) (hS.below hb) hn hR hE)
  obtain ⟨e0, he0⟩ : ∃ e, rnE n R u = e := ⟨_, rfl⟩
  rw [he0] at HR hE
  have d1 := bne0_true hE
  have d2 : (e0 == 0) = false := by simpa using hE
  clear b0 hS hn hR hT hF hE he0
  go_enter Tryd.func4, Tryd.ntmps4
  go_wp2_with fail
  refine HF.out.mono ?_
  rintro e w1 ⟨rfl, b1⟩
  have HX1 := Lib.hid (HX0.out.below b1)
  have HB1 := Lib.hid (below_tr HB0.out b1)
  have k0 := HX1.out.cell
  clear b1
  go_wp2_with fail
  refine (HR.out _ HB1.out).mono ?_
  rintro e w2 ⟨rfl, b2⟩
  have HB3 := Lib.hid (below_tr (below_tr HB1.out b2) (below_box0 w2 (.cells #[.slice none 0 0] 24)))
  clear b2 k0
  go_wp2_with fail
  refine (shown_ok _ (HT.out.below HB3.out)).mono ?_
  rintro e w4 ⟨rfl, b4⟩
  have HB4 := Lib.hid (below_tr HB3.out b4)
  clear b4
  go_wp2
  go_ret
  exact ⟨rfl, HB4.out⟩
set_option maxRecDepth 100000 in
set_option maxHeartbeats 3200000 in
theorem parts_out (hS : SlA w a n R) (hn : n ≤ 9223372036854775807) (hR : ∀ j, j < n → AlB (R j)) (hT : T9 w) (hF : farB n R = false) (hE : rnE n R u = 0) (ho : f < 0 ∨ u < f) :
    Calls Tryd.prog 4 #[pV a n c, .int .i64 f, .int .i64 u] w fun e w' => e = .returned (.bool true) ∧ Below w.heap.size w w' := by
  have b0 := below_box0 w (.cells #[.slice a n c] 24)
  have HB0 := Lib.hid b0
  have HT := Lib.hid hT
  have HX0 : Hid (BoxP (w.alloc (.cells #[.slice a n c] 24)) w.heap.size a n c) := Lib.hid (heap_alloc_new w _)
  have HF := Lib.hid (far_ok (c := c) (hS.below b0) hn hR)
  rw [hF] at HF
  have HR := Lib.hid (fun (W : World) (hb : Below w.heap.size w W) => run_list (c := c) (hS.below hb) hn hR hE)
  have dd : decide (f < 0) = true ∨ (decide (f < 0) = false ∧ decide (u < f) = true) := by
    by_cases h : f < 0
    · exact .inl (by simpa using h)
    · exact .inr ⟨by simpa using h, by simp; omega⟩
  clear b0 hS hn hR hT hF hE ho
  rcases dd with d1 | ⟨d1, d2⟩
  all_goals
    go_enter Tryd.func4, Tryd.ntmps4
    go_wp2_with fail
    refine HF.out.mono ?_
    rintro e w1 ⟨rfl, b1⟩
    have HX1 := Lib.hid (HX0.out.below b1)
    have HB1 := Lib.hid (below_tr HB0.out b1)
    have k0 := HX1.out.cell
    clear b1
    go_wp2_with fail
    refine (HR.out _ HB1.out).mono ?_
    rintro e w2 ⟨aK, cK, aQ, cQ, K, nQ, rfl, _, _, _, _, _, _, b2⟩
    have HB3 := Lib.hid (below_tr (below_tr HB1.out b2) (below_box0 w2 (.cells #[.slice aQ nQ cQ] 24)))
    clear b2 k0
    go_wp2_with fail
    refine (shown_ok _ (HT.out.below HB3.out)).mono ?_
    rintro e w4 ⟨rfl, b4⟩
    have HB4 := Lib.hid (below_tr HB3.out b4)
    clear b4
    go_wp2
    go_ret
    exact ⟨rfl, HB4.out⟩
set_option maxRecDepth 100000 in
set_option maxHeartbeats 6400000 in
theorem parts_in (hS : SlA w a n R) (hn : n ≤ 9223372036854775807) (hR : ∀ j, j < n → AlB (R j)) (hT : T9 w) (hF : farB n R = false) (hE : rnE n R u = 0) (h0 : 0 ≤ f) (h1 : f ≤ u) :
    Calls Tryd.prog 4 #[pV a n c, .int .i64 f, .int .i64 u] w fun e w' => e = .returned (.bool true) ∧ Below w.heap.size w w' := by
  obtain ⟨i0, hi0, hz0, hz1, hz2'⟩ := info_parts info_ring
  have b0 := below_box0 w (.cells #[.slice a n c] 24)
  have HB0 := Lib.hid b0
  have HT := Lib.hid hT
  have HX0 : Hid (BoxP (w.alloc (.cells #[.slice a n c] 24)) w.heap.size a n c) := Lib.hid (heap_alloc_new w _)
  have HF := Lib.hid (far_ok (c := c) (hS.below b0) hn hR)
  rw [hF] at HF
  obtain ⟨hE1, hE2⟩ := parts_E hE h0 h1
  obtain ⟨hct, hsum⟩ := rnE_zero hE
  obtain ⟨hce, hu0, hu1⟩ := ctE_zero hct
  have hp := cE_zero hce
  have HN : Hid (n ≤ 50) := Lib.hid hp.n50
  have HU := Lib.hid (fun (W : World) (hb : Below w.heap.size w W) => run_list (c := c) (hS.below hb) hn hR hE)
  have HV := Lib.hid (fun (W : World) (hb : Below w.heap.size w W) => run_list (c := c) (hS.below hb) hn hR hE1)
  have HW := Lib.hid (fun (W : World) (b : Option Addr) (d : Nat) (hb : SlA W b (rstA R f n).length (rsR R f n)) => run_list (c := d) hb (Nat.le_trans (rstA_len R f n) hn) (fun j hj => rsR_al hp h0 (by rw [MT_eq]; omega) hj) hE2)
  have HP := Lib.hid (fun K L M => parts_rings (K := K) (L := L) (M := M) hE h0 h1)
  have d1 : decide (f < 0) = false := by simp; omega
  have d2 : decide (u < f) = false := by simp; omega
  clear b0 hS hn hR hT hF hE hE1 hE2 h0 h1 hct hsum hce hu0 hu1 hp
  go_enter Tryd.func4, Tryd.ntmps4
  go_wp2_with fail
  refine HF.out.mono ?_
  rintro e w1 ⟨rfl, b1⟩
  have HX1 := Lib.hid (HX0.out.below b1)
  have HB1 := Lib.hid (below_tr HB0.out b1)
  have k0 := HX1.out.cell
  have l0 := blk_lt HX1.out
  clear b1
  go_wp2_with fail
  refine (HU.out _ HB1.out).mono ?_
  rintro e w2 ⟨aK, cK, aQ, cQ, K, nQ, rfl, gK, gQ, hnQ, hK, lK, lQ, b2⟩
  have b3 := below_box0 w2 (.cells #[.slice aQ nQ cQ] 24)
  have HB3 := Lib.hid (below_tr (below_tr HB1.out b2) b3)
  have HX2 := Lib.hid (HX1.out.below b2)
  have HX3 := Lib.hid (HX2.out.below b3)
  have HQ3 : Hid (BoxP (w2.alloc (.cells #[.slice aQ nQ cQ] 24)) w2.heap.size aQ nQ cQ) := Lib.hid (heap_alloc_new w2 _)
  have GK3 := Lib.hid (gK.below b3)
  have GQ3 := Lib.hid (gQ.below b3)
  have LK := Lib.hid lK
  have LQ := Lib.hid lQ
  have HNQ := hnQ
  have HK := hK
  clear k0 l0 b2 b3 gK gQ lK lQ hnQ hK
  have k0 := HX2.out.cell
  have l0 := blk_lt HX2.out
  go_wp2_with fail
  clear k0 l0
  obtain ⟨W3, hW3⟩ : ∃ W, w2.alloc (.cells #[.slice aQ nQ cQ] 24) = W := ⟨_, rfl⟩
  rw [hW3] at HB3 HX3 HQ3 GK3 GQ3 ⊢
  obtain ⟨q, hq⟩ : ∃ q, w2.heap.size = q := ⟨_, rfl⟩
  rw [hq] at HQ3 ⊢
  clear hW3 hq
  refine (HV.out _ HB3.out).mono ?_
  rintro e w4 ⟨aL, cL, aP, cP, L, nP, rfl, gL, gP, hnP, hL, lL, lP, b4⟩
  have b5 := below_box0 w4 (.cells #[.slice aP nP cP] 24)
  have b45 := below_tr b4 b5
  have HB5 := Lib.hid (below_tr HB3.out b45)
  have HQ5 := Lib.hid (HQ3.out.below b45)
  have HP5 : Hid (BoxP (w4.alloc (.cells #[.slice aP nP cP] 24)) w4.heap.size aP nP cP) := Lib.hid (heap_alloc_new w4 _)
  have GK5 := Lib.hid (GK3.out.below b45)
  have GQ5 := Lib.hid (GQ3.out.below b45)
  have GL5 := Lib.hid (gL.below b5)
  have GP5 := Lib.hid (gP.below b5)
  have LL := Lib.hid lL
  have HNP := hnP
  have HL := hL
  clear b4 b5 b45 gL gP hnP hL lL lP HX3 HQ3 GK3 GQ3
  go_wp2_with fail
  obtain ⟨W5, hW5⟩ : ∃ W, w4.alloc (.cells #[.slice aP nP cP] 24) = W := ⟨_, rfl⟩
  rw [hW5] at HB5 HQ5 HP5 GK5 GQ5 GL5 GP5 ⊢
  obtain ⟨p, hp⟩ : ∃ q, w4.heap.size = q := ⟨_, rfl⟩
  rw [hp] at HP5 ⊢
  clear hW5 hp
  have HW5 := HW.out W5 aP cP
  rw [← HNP.out] at HW5
  refine (HW5 GP5.out).mono ?_
  clear HW5
  rintro e w6 ⟨aM, cM, aZ, cZ, M, nZ, rfl, gM, gZ, hnZ, hM, lM, lZ, b6⟩
  have b7 := below_box0 w6 (.cells #[.slice aZ nZ cZ] 24)
  have b67 := below_tr b6 b7
  have HB7 := Lib.hid (below_tr HB5.out b67)
  have HQ7 := Lib.hid (HQ5.out.below b67)
  have HZ7 : Hid (BoxP (w6.alloc (.cells #[.slice aZ nZ cZ] 24)) w6.heap.size aZ nZ cZ) := Lib.hid (heap_alloc_new w6 _)
  have GK7 := Lib.hid (GK5.out.below b67)
  have GQ7 := Lib.hid (GQ5.out.below b67)
  have GL7 := Lib.hid (GL5.out.below b67)
  have GM7 := Lib.hid (gM.below b7)
  have GZ7 := Lib.hid (gZ.below b7)
  have LM := Lib.hid lM
  have LZ := Lib.hid lZ
  have HNZ := hnZ
  have HM := hM
  clear b6 b7 b67 gM gZ hnZ hM lM lZ HQ5 GK5 GQ5 GL5 GP5
  go_upto_region 8 with fail
  obtain ⟨W7, hW7⟩ : ∃ W, w6.alloc (.cells #[.slice aZ nZ cZ] 24) = W := ⟨_, rfl⟩
  rw [hW7] at HB7 HQ7 HZ7 GK7 GQ7 GL7 GM7 GZ7 ⊢
  obtain ⟨z, hz⟩ : ∃ q, w6.heap.size = q := ⟨_, rfl⟩
  rw [hz] at HZ7 ⊢
  clear hW7 hz
  have key : L ++ M = K ∧ nZ = nQ ∧ rsR (rsR R f n) u nP = rsR R u n := by
    obtain ⟨K0, k1, k2⟩ := HK.out
    obtain ⟨L0, l1, l2⟩ := HL.out
    obtain ⟨M0, m1, m2⟩ := HM.out
    have hp := HNP.out
    rw [hp] at m1
    obtain ⟨e1, e2⟩ := HP.out K0 L0 M0 k1 l1 m1
    refine ⟨by rw [k2, l2, m2, ← e1], by rw [HNZ.out, HNQ.out, hp, e2], ?_⟩
    funext j
    show (rstA (rsR R f n) u nP).getD j al0 = (rstA R u n).getD j al0
    rw [hp, e2]
  obtain ⟨key1, key2, key3⟩ := key
  rw [key3] at GZ7
  subst key2
  have KEY := Lib.hid key1
  have LQ7 : Hid (nZ ≤ 9223372036854775807) := Lib.hid (by have := HN.out; have := LQ.out; omega)
  clear key1 key3 HN HU HV HW HP HK HL HM HNP HNZ HNQ LQ LZ HP5 HB5 HB3 HX2 HB1 HX1 HF HX0 HB0 d1 d2
  have b8 := below_box0 W7 (.cells #[] 45)
  have HO8 : Hid ((W7.alloc (.cells #[] 45)).ownsRow W7.heap.size 45 2 (.slice (some ⟨W7.heap.size, 0, none⟩) 0 0) 0 []) := Lib.hid (World.ownsRow_lit W7 #[] 0 (Nat.le_refl _) (by decide) rfl)
  have HRL8 := Lib.hid (GL7.out.readsL.alloc (Nat.le_refl _) (.cells #[] 45))
  have HRM8 := Lib.hid (GM7.out.readsL.alloc (Nat.le_refl _) (.cells #[] 45))
  have HB8 := Lib.hid b8
  clear b8
  go_wp2_with (first
    | (at_builtin
       refine wpList_append_any _ (by simp [Region.wanted, yielded]) (.tmp 68) (.tmp 69) 27 rfl W7.heap.size 45 i0 _ 2 24 Tryd.underlying27 hi0 hz0 hz1 hz2' rfl (by decide) (.slice (some ⟨W7.heap.size, 0, none⟩) 0 0) 0 [] rfl
         HO8.out W7.heap.size aL L.length cL (rgc L) rfl HRL8.out (rgc_one L) (by have := LL.out; unfold maxLen; omega) (by have := LL.out; omega) HB8.out.size ?_
       intro v1 w9 hown1 hg1 hat1
       have HB9 := Lib.hid (HB8.out.grown hg1 HB8.out.size (by simp [Value.ownBlock]))
       have HRM9 := Lib.hid (HRM8.out.grown hg1 HB8.out.size (by simp [Value.ownBlock]))
       have HO9 := Lib.hid hown1
       have HAT9 := Lib.hid hat1
       clear hown1 hg1 hat1)
    | (at_builtin
       refine wpList_append_any _ (by simp [Region.wanted, yielded]) (.tmp 70) (.tmp 71) 27 rfl W7.heap.size 45 i0 _ 2 24 Tryd.underlying27 hi0 hz0 hz1 hz2' rfl (by decide) v1 _ _ rfl
         HO9.out W7.heap.size aM M.length cM (rgc M) rfl HRM9.out (rgc_one M) (by have := LL.out; have := LM.out; unfold maxLen; omega) (by have := LL.out; have := LM.out; omega) HB9.out.size ?_
       intro v2 w10 hown2 hg2 _
       have HB10 := Lib.hid (HB9.out.grown hg2 HB9.out.size (fun k hk => by rcases HAT9.out with e | e <;> rw [e] at hk <;> simp [Value.ownBlock] at hk <;> omega))
       have hown3 : w10.ownsRow W7.heap.size 45 2 v2 K.length (rgc K) := by
         have hk := KEY.out
         have e1 : 0 + L.length + M.length = K.length := by rw [← hk]; simp
         have e2 : [] ++ rgc L ++ rgc M = rgc K := by rw [← hk]; simp [rgc]
         rw [e1, e2] at hown2
         exact hown2
       obtain ⟨a2, c2, rfl⟩ := own_slice' hown3
       have HG10 := Lib.hid (SlG.of_own hown3)
       clear hown2 hown3 hg2)
    | fail)
  have HQ10 := Lib.hid (HQ7.out.below HB10.out)
  have HZ10 := Lib.hid (HZ7.out.below HB10.out)
  have GK10 := Lib.hid (GK7.out.below HB10.out)
  have GQ10 := Lib.hid (GQ7.out.below HB10.out)
  have GZ10 := Lib.hid (GZ7.out.below HB10.out)
  have HE := Lib.hid (ringsEq_ok (c := c2) (d := cK) HG10.out (by have := LK.out; omega) GK10.out (by have := LK.out; omega))
  rw [sqB_yes (fun _ _ => rfl)] at HE
  have HBX := Lib.hid (HB7.out.trans (HB10.out.mono HB7.out.size))
  clear HQ7 HZ7 GK7 GQ7 GZ7 HG10 GK10 HO8 HRL8 HRM8 HB8 HB9 HRM9 HO9 HAT9 GL7 GM7 KEY LL LM hi0 hz0 hz1 hz2' i0
  refine HE.out.mono ?_
  clear HE
  rintro e w11 ⟨rfl, b11⟩
  have HBY := Lib.hid (below_tr HBX.out b11)
  have HQ11 := HQ10.out.below b11
  have HZ11 := HZ10.out.below b11
  have kq := HQ11.cell
  have kz := HZ11.cell
  have HS := Lib.hid (samePlan_ok (c := cQ) (d := cZ) (GQ10.out.below b11) LQ7.out (GZ10.out.below b11) LQ7.out)
  rw [sqB_yes (fun _ _ => rfl)] at HS
  clear b11 HQ11 HZ11 HQ10 HZ10 GQ10 GZ10 HBX HB10 LQ7
  go_wp2_with fail
  refine HS.out.mono ?_
  clear HS kq kz
  rintro e w12 ⟨rfl, b12⟩
  have HB12 := Lib.hid (below_tr HBY.out b12)
  clear b12
  go_wp2_with fail
  refine (shown_ok _ (HT.out.below HB12.out)).mono ?_
  rintro e w13 ⟨rfl, b13⟩
  have HB13 := Lib.hid (below_tr HB12.out b13)
  clear b13
  go_wp2
  go_ret
  exact ⟨rfl, HB13.out⟩
theorem law_parts (hS : SlA w a n R) (hn : n ≤ 9223372036854775807) (hR : ∀ j, j < n → AlB (R j)) (hT : T9 w) :
    Calls Tryd.prog 4 #[pV a n c, .int .i64 f, .int .i64 u] w fun e w' => e = .returned (.bool true) ∧ Below w.heap.size w w' := by
  cases hF : farB n R with
  | true => exact parts_far a n c R f u w hS hn hR hT hF
  | false =>
    by_cases hE : rnE n R u = 0
    · by_cases h0 : f < 0
      · exact parts_out a n c R f u w hS hn hR hT hF hE (.inl h0)
      · by_cases h1 : u < f
        · exact parts_out a n c R f u w hS hn hR hT hF hE (.inr h1)
        · exact parts_in a n c R f u w hS hn hR hT hF hE (by omega) (by omega)
    · exact parts_bad a n c R f u w hS hn hR hT hF hE
end
end Go.Proofs.YtjceahbikdncmaaDoor
