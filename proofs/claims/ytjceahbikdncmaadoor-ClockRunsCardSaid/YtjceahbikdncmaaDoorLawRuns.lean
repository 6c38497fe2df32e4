/- Clocks: ClockRuns returns true. -/
import Derived.Test.YtjceahbikdncmaaDoorC9QB
import Derived.Test.YtjceahbikdncmaaDoorLawParts
namespace Go.Proofs.YtjceahbikdncmaaDoor
open Go.RowKit Go.Sort Go.Joins Go.Shelf
attribute [local go_sem] cell_grow frozen_grow size_grow Oper.semAt_some
/-- what a Run hands back, in slices -/
def RunF (w : World) (lg lq : Nat) (G : Nat → Rn) (Q : Nat → Al) (E : Int) (e : Ending) (w' : World) : Prop :=
  ∃ (aL : Option Addr) (cL : Nat) (aR : Option Addr) (cR : Nat), e = .returned (.tuple #[.slice aL lg cL, .agg #[.slice aR lq cR], .int .i64 E]) ∧ SlG w' aL lg G ∧ SlA w' aR lq Q ∧ Below w.heap.size w w'
section
variable (a : Option Addr) (n c : Nat) (R : Nat → Al) (u : Int) (w : World)
theorem runs_form (hS : SlA w a n R) (hn : n ≤ 9223372036854775807) (hR : ∀ j, j < n → AlB (R j)) : ∃ (lg lq : Nat) (G : Nat → Rn) (Q : Nat → Al), lg ≤ 1000 ∧ lq ≤ n ∧
    (∀ W, Below w.heap.size w W → Calls Tryd.prog 11 #[pV a n c, .int .i64 u] W (RunF W lg lq G Q (rnE n R u))) ∧
    (∀ W, Below w.heap.size w W → Calls Tryd.prog 12 #[pV a n c, .int .i64 u] W (RunF W lg lq G Q (rnE n R u))) := by
  have href : ∀ W, Below w.heap.size w W → Calls Tryd.prog 12 #[pV a n c, .int .i64 u] W (RRunPost W n R u) := fun W hb => by
    by_cases hE : ctE n R u = 0
    · exact rrun_ok (hS.below hb) hn hR hE
    · exact rrun_bad (hS.below hb) hn hR hE
  by_cases hE : rnE n R u = 0
  · by_cases hL : ∃ L, RunOk n R u L ∧ L.length ≤ 1000
    · obtain ⟨L, hL, hl⟩ := hL
      refine ⟨L.length, (rstA R u n).length, (fun j => (L.map (rgN R)).getD j rn0), (fun j => (rstA R u n).getD j al0), hl, rstA_len R u n, fun W hb => ?_, fun W hb => ?_⟩
      · refine (run_good (c := c) (hS.below hb) hn hR hE).mono ?_
        rintro e w' ⟨aL, cL, aR, cR, M, rfl, h1, h2, h3, _, h5⟩
        obtain rfl := h3.eq hL
        exact ⟨aL, cL, aR, cR, by rw [hE], h1, h2, h5⟩
      · refine (href W hb).mono ?_
        rintro e w' (⟨_, aL, cL, aR, cR, M, rfl, h1, h2, h3, _, h5⟩ | ⟨h, _⟩)
        · obtain rfl := h3.eq hL
          exact ⟨aL, cL, aR, cR, by rw [hE], h1, h2, h5⟩
        · exact absurd hE h
    · refine ⟨0, 0, fun _ => rn0, fun _ => al0, Nat.zero_le _, Nat.zero_le _, fun W hb => ?_, fun W hb => ?_⟩
      · refine (run_good (c := c) (hS.below hb) hn hR hE).mono ?_
        rintro e w' ⟨aL, cL, aR, cR, M, rfl, h1, h2, h3, h4, h5⟩
        exact absurd ⟨M, h3, h4⟩ hL
      · refine (href W hb).mono ?_
        rintro e w' (⟨_, aL, cL, aR, cR, M, rfl, h1, h2, h3, h4, h5⟩ | ⟨h, _⟩)
        · exact absurd ⟨M, h3, h4⟩ hL
        · exact absurd hE h
  · refine ⟨0, 0, fun _ => rn0, fun _ => al0, Nat.zero_le _, Nat.zero_le _, fun W hb => ?_, fun W hb => ?_⟩
    · refine (run_bad (c := c) (hS.below hb) hn hR hE).mono ?_
      rintro e w' ⟨rfl, h⟩
      exact ⟨none, 0, none, 0, rfl, .inl rfl, .inl rfl, h⟩
    · refine (href W hb).mono ?_
      rintro e w' (⟨h, _⟩ | ⟨_, rfl, h⟩)
      · exact absurd h hE
      · exact ⟨none, 0, none, 0, rfl, .inl rfl, .inl rfl, h⟩
set_option maxRecDepth 100000 in
set_option maxHeartbeats 3200000 in
theorem runs_far (hS : SlA w a n R) (hn : n ≤ 9223372036854775807) (hR : ∀ j, j < n → AlB (R j)) (hT : T9 w) (hF : farB n R = true) :
    Calls Tryd.prog 3 #[pV a n c, .int .i64 u] w fun e w' => e = .returned (.bool true) ∧ Below w.heap.size w w' := by
  have b0 := below_box0 w (.cells #[.slice a n c] 24)
  have HB0 := Lib.hid b0
  have HT := Lib.hid hT
  have HF := Lib.hid (far_ok (c := c) (hS.below b0) hn hR)
  rw [hF] at HF
  clear b0 hS hn hR hT hF
  go_enter Tryd.func3, Tryd.ntmps3
  go_wp2_with fail
  refine HF.out.mono ?_
  rintro e w1 ⟨rfl, b1⟩
  have HB1 := Lib.hid (below_tr HB0.out b1)
  clear b1
  go_wp2_with fail
  refine (shown_ok _ (HT.out.below HB1.out)).mono ?_
  rintro e w2 ⟨rfl, b2⟩
  have HB2 := Lib.hid (below_tr HB1.out b2)
  clear b2
  go_wp2
  go_ret
  exact ⟨rfl, HB2.out⟩
set_option maxRecDepth 100000 in
set_option maxHeartbeats 3200000 in
theorem runs_in (hS : SlA w a n R) (hn : n ≤ 9223372036854775807) (hR : ∀ j, j < n → AlB (R j)) (hT : T9 w) (hF : farB n R = false) :
    Calls Tryd.prog 3 #[pV a n c, .int .i64 u] w fun e w' => e = .returned (.bool true) ∧ Below w.heap.size w w' := by
  obtain ⟨lg, lq, G, Q, hlg, hlq, hU, hV⟩ := runs_form a n c R u w hS hn hR
  have b0 := below_box0 w (.cells #[.slice a n c] 24)
  have HB0 := Lib.hid b0
  have HT := Lib.hid hT
  have HX0 : Hid (BoxP (w.alloc (.cells #[.slice a n c] 24)) w.heap.size a n c) := Lib.hid (heap_alloc_new w _)
  have HF := Lib.hid (far_ok (c := c) (hS.below b0) hn hR)
  rw [hF] at HF
  have HU := Lib.hid hU
  have HV := Lib.hid hV
  have HCo := Lib.hid (fun (W : World) (hb : Below w.heap.size w W) => count_ok (c := c) (hS.below hb) hn hR u)
  have HRC := Lib.hid (fun (W : World) (hb : Below w.heap.size w W) => rCount_ok (c := c) (hS.below hb) hn hR u)
  obtain ⟨E, hE⟩ : ∃ E, rnE n R u = E := ⟨_, rfl⟩
  rw [hE] at HU HV
  obtain ⟨cv, hcv⟩ : ∃ x, ctV n R u = x := ⟨_, rfl⟩
  obtain ⟨ce, hce⟩ : ∃ x, ctE n R u = x := ⟨_, rfl⟩
  rw [hcv, hce] at HCo HRC
  have LG : Hid (lg ≤ 9223372036854775807) := Lib.hid (by omega)
  have LQ : Hid (lq ≤ 9223372036854775807) := Lib.hid (by omega)
  have q1 : (E == E) = true := by simp
  have q2 : (cv == cv) = true := by simp
  have q3 : (ce == ce) = true := by simp
  clear b0 hS hn hR hT hF hU hV hE hcv hce hlg hlq
  go_enter Tryd.func3, Tryd.ntmps3
  go_wp2_with fail
  refine HF.out.mono ?_
  rintro e w1 ⟨rfl, b1⟩
  have HX1 := Lib.hid (HX0.out.below b1)
  have HB1 := Lib.hid (below_tr HB0.out b1)
  have k0 := HX1.out.cell
  have l0 := blk_lt HX1.out
  clear b1
  go_wp2_with fail
  refine (HU.out _ HB1.out).mono ?_
  rintro e w2 ⟨aK, cK, aQ, cQ, rfl, gK, gQ, b2⟩
  have b3 := below_box0 w2 (.cells #[.slice aQ lq cQ] 24)
  have HB3 := Lib.hid (below_tr (below_tr HB1.out b2) b3)
  have HX2 := Lib.hid (HX1.out.below b2)
  have HX3 := Lib.hid (HX2.out.below b3)
  have HQ3 : Hid (BoxP (w2.alloc (.cells #[.slice aQ lq cQ] 24)) w2.heap.size aQ lq cQ) := Lib.hid (heap_alloc_new w2 _)
  have GK3 := Lib.hid (gK.below b3)
  have GQ3 := Lib.hid (gQ.below b3)
  clear k0 l0 b2 b3 gK gQ
  have k0 := HX2.out.cell
  have l0 := blk_lt HX2.out
  go_wp2_with fail
  clear k0 l0
  obtain ⟨W3, hW3⟩ : ∃ W, w2.alloc (.cells #[.slice aQ lq cQ] 24) = W := ⟨_, rfl⟩
  rw [hW3] at HB3 HX3 HQ3 GK3 GQ3 ⊢
  obtain ⟨q, hq⟩ : ∃ q, w2.heap.size = q := ⟨_, rfl⟩
  rw [hq] at HQ3 ⊢
  clear hW3 hq
  refine (HV.out _ HB3.out).mono ?_
  rintro e w4 ⟨aL, cL, aP, cP, rfl, gL, gP, b4⟩
  have b5 := below_box0 w4 (.cells #[.slice aP lq cP] 24)
  have b45 := below_tr b4 b5
  have HB5 := Lib.hid (below_tr HB3.out b45)
  have HX4 := Lib.hid (HX3.out.below b4)
  have HX5 := Lib.hid (HX3.out.below b45)
  have HQ5 := Lib.hid (HQ3.out.below b45)
  have HP5 : Hid (BoxP (w4.alloc (.cells #[.slice aP lq cP] 24)) w4.heap.size aP lq cP) := Lib.hid (heap_alloc_new w4 _)
  have GK5 := Lib.hid (GK3.out.below b45)
  have GQ5 := Lib.hid (GQ3.out.below b45)
  have GL5 := Lib.hid (gL.below b5)
  have GP5 := Lib.hid (gP.below b5)
  clear b4 b5 b45 gL gP HX3 HQ3 GK3 GQ3
  have k0 := HX4.out.cell
  have l0 := blk_lt HX4.out
  go_wp2_with fail
  clear k0 l0
  obtain ⟨W5, hW5⟩ : ∃ W, w4.alloc (.cells #[.slice aP lq cP] 24) = W := ⟨_, rfl⟩
  rw [hW5] at HB5 HX5 HQ5 HP5 GK5 GQ5 GL5 GP5 ⊢
  obtain ⟨p, hp⟩ : ∃ q, w4.heap.size = q := ⟨_, rfl⟩
  rw [hp] at HP5 ⊢
  clear hW5 hp
  refine (HCo.out _ HB5.out).mono ?_
  rintro e w6 ⟨rfl, b6⟩
  have HB6 := Lib.hid (below_tr HB5.out b6)
  have HX6 := Lib.hid (HX5.out.below b6)
  have HQ6 := Lib.hid (HQ5.out.below b6)
  have HP6 := Lib.hid (HP5.out.below b6)
  have GK6 := Lib.hid (GK5.out.below b6)
  have GQ6 := Lib.hid (GQ5.out.below b6)
  have GL6 := Lib.hid (GL5.out.below b6)
  have GP6 := Lib.hid (GP5.out.below b6)
  clear b6 HX5 HQ5 HP5 GK5 GQ5 GL5 GP5
  have k0 := HX6.out.cell
  go_wp2_with fail
  clear k0
  refine (HRC.out _ HB6.out).mono ?_
  rintro e w7 ⟨rfl, b7⟩
  have HB7 := Lib.hid (below_tr HB6.out b7)
  have HQ7 := Lib.hid (HQ6.out.below b7)
  have HP7 := Lib.hid (HP6.out.below b7)
  have GQ7 := Lib.hid (GQ6.out.below b7)
  have GP7 := Lib.hid (GP6.out.below b7)
  have HE := Lib.hid (ringsEq_ok (c := cK) (d := cL) (GK6.out.below b7) LG.out (GL6.out.below b7) LG.out)
  rw [sqB_yes (fun _ _ => rfl)] at HE
  clear b7 HX6 HQ6 HP6 GK6 GQ6 GL6 GP6
  go_wp2_with fail
  refine HE.out.mono ?_
  clear HE
  rintro e w8 ⟨rfl, b8⟩
  have HB8 := Lib.hid (below_tr HB7.out b8)
  have kq := (HQ7.out.below b8).cell
  have kp := (HP7.out.below b8).cell
  have HSP := Lib.hid (samePlan_ok (c := cQ) (d := cP) (GQ7.out.below b8) LQ.out (GP7.out.below b8) LQ.out)
  rw [sqB_yes (fun _ _ => rfl)] at HSP
  clear b8 HQ7 HP7 GQ7 GP7
  go_wp2_with fail
  refine HSP.out.mono ?_
  clear HSP kq kp
  rintro e w9 ⟨rfl, b9⟩
  have HB9 := Lib.hid (below_tr HB8.out b9)
  clear b9
  go_wp2_with fail
  refine (shown_ok _ (HT.out.below HB9.out)).mono ?_
  rintro e w10 ⟨rfl, b10⟩
  have HB10 := Lib.hid (below_tr HB9.out b10)
  clear b10
  go_wp2
  go_ret
  exact ⟨rfl, HB10.out⟩
theorem law_runs (hS : SlA w a n R) (hn : n ≤ 9223372036854775807) (hR : ∀ j, j < n → AlB (R j)) (hT : T9 w) :
    Calls Tryd.prog 3 #[pV a n c, .int .i64 u] w fun e w' => e = .returned (.bool true) ∧ Below w.heap.size w w' := by
  cases hF : farB n R with
  | true => exact runs_far a n c R u w hS hn hR hT hF
  | false => exact runs_in a n c R u w hS hn hR hT hF
end
end Go.Proofs.YtjceahbikdncmaaDoor
