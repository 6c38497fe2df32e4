/- Refusals: RefusalsCounts returns true. -/
import Derived.Test.YtpjhedkloljpjaaDoorRRR5X
namespace Go.Proofs.YtpjhedkloljpjaaDoorRR
open Go.RowKit Go.Sort Go.Joins Go.Shelf
attribute [local go_sem] cell_grow frozen_grow size_grow
section
variable {a : Option Addr} {n c : Nat} {R : Nat → Rl}
theorem next_zero {a5 : Option Addr} {c5 : Nat} {C H T : Nat → Int} {i q : Nat} (h : CtAt n R C H T i) (hi : i < 1000000) (hq : q < 7) (hn : n ≤ 9223372036854775807) (w : World) (hS : SlR w a5 n R) :
    Calls Tryd.prog 24 #[sV a5 n c5 C H, .int .i64 (q : Int)] w fun e w' => ∃ a' c', e = .returned (.tuple #[sV a' n c' (upd C q (C q + 1)) (hUp (rfP n R q (C q + 1)) H q), .bool (rfP n R q (C q + 1)), .int .i64 0]) ∧ SlR w' a' n R ∧ Below w.heap.size w w' ∧ (∀ g, a' = some g → w.heap.size ≤ g.block) := by
  have hc := h.c q hq
  obtain ⟨e1, e2, e3, e4, e5⟩ := nx_zero (k := q) h.e hq (by omega)
  have := Next_ok (w := w) (c := c5) (C := C) (H := H) hS hn (q : Int)
  rw [e1, e2, e3, e4, e5] at this
  exact this
set_option maxRecDepth 100000 in
set_option maxHeartbeats 6400000 in
theorem law_counts_main (au : Option Addr) (m cu : Nat) (U : Nat → Int) (w : World) (hS : SlR w a n R) (hn : n ≤ 9223372036854775807) (hU : SlZ .u8 w au m U) (hub : ∀ j, j < m → 0 ≤ U j ∧ U j ≤ 255) (hT : T5 w) (hf : farB n = false) (hm : m ≤ 60) (hp : pE n R = 0) :
    Calls Tryd.prog 6 #[pV a n c, .slice au m cu] w fun e w' => e = .returned (.bool true) ∧ Below w.heap.size w w' := by
  have d60 : decide ((60 : Int) < (m : Int)) = false := by simp; omega
  have b0 := below_box0 w (.cells #[.slice a n c] 24)
  have HS0 := Lib.hid (hS.below b0)
  have HB0 := Lib.hid b0
  have HP0 : Hid (BoxP (w.alloc (.cells #[.slice a n c] 24)) w.heap.size a n c) := Lib.hid (heap_alloc_new w _)
  have HF := Lib.hid (far_ok a n c hn)
  rw [hf] at HF
  have HST : Hid (∀ (w : World), SlR w a n R → _) := Lib.hid (fun w h => Start_ok (w := w) (c := c) h hn)
  rw [stN_ok hp, hp] at HST
  have HS := Lib.hid hS
  have HU := Lib.hid hU
  have HT := Lib.hid hT
  have HUB := Lib.hid hub
  have HP := Lib.hid hp
  clear b0 hS hU hT hf hp hub
  go_enter Tryd.func6, Tryd.ntmps6
  go_wp2_with fail
  refine (HF.out _).mono ?_
  rintro e w1 ⟨rfl, b1⟩
  have HB1 := Lib.hid (below_tr HB0.out b1)
  have HP1 := Lib.hid (boxP_below HP0.out b1)
  have HS1 := Lib.hid (HS0.out.below b1)
  have k0 := boxP_c0 HP1.out
  clear b1
  go_wp2_with fail
  refine (HST.out _ HS1.out).mono ?_
  rintro e w2 ⟨a5, c5, rfl, hS5, b2⟩
  have HB2 := Lib.hid (below_tr HB1.out b2)
  have HP2 := Lib.hid (boxP_below HP1.out b2)
  have HS5 := Lib.hid hS5
  clear b2 hS5 k0
  go_wp2
  have HM := Lib.hid (CtM.start (c5 := c5) HB2.out HP2.out HS5.out)
  have HC0 := Lib.hid (CtAt.start (R := R) HP.out)
  have hl5 : w.heap.size < w2.heap.size := boxP_lt HP2.out
  obtain ⟨g5, hg5⟩ : ∃ g, w2.heap.size = g := ⟨_, rfl⟩
  rw [hg5] at HM hl5 ⊢
  obtain ⟨g7, hg7⟩ : ∃ g, g5 + 1 = g := ⟨_, rfl⟩
  rw [hg7] at HM ⊢
  obtain ⟨g8, hg8⟩ : ∃ g, g7 + 1 = g := ⟨_, rfl⟩
  rw [hg8] at HM ⊢
  obtain ⟨g9, hg9⟩ : ∃ g, g8 + 1 = g := ⟨_, rfl⟩
  rw [hg9] at HM ⊢
  have h57 : g5 < g7 := by omega
  have h78 : g7 < g8 := by omega
  have h89 : g8 < g9 := by omega
  clear hg5 hg7 hg8 hg9
  go_loopw [10] (fun i wr => ∃ (k : Nat) (a5 : Option Addr) (c5 : Nat) (C H T : Nat → Int), i = .int .i64 k ∧ k ≤ m ∧ Hid (CtM w wr g5 g7 g8 g9 a n c R a5 c5 C H T) ∧ Hid (CtAt n R C H T k)) (fun i _ => m - (intOf i).toNat)
  case atStart => exact ⟨0, a5, c5, Z7, Z7, Z7, rfl, Nat.zero_le _, HM, HC0⟩
  case round =>
    clear HM HC0 HS1 HS5 HP0 HP1 HP2 HB0 HB1 HB2 HS0 HF HST
    obtain ⟨k, a5, c5, C, H, T, rfl, hk, HM, HC⟩ := hrel
    by_cases hlt : k < m
    · obtain ⟨b, o, rfl, g0⟩ := (HU.out.below HM.out.b).at_ hlt
      obtain ⟨hu0, hu1⟩ := HUB.out k hlt
      obtain ⟨u, hu⟩ : ∃ u, U k = u := ⟨_, rfl⟩
      rw [hu] at g0 hu0 hu1
      obtain ⟨q, hq⟩ := Int.eq_ofNat_of_zero_le (show 0 ≤ u % 7 by omega)
      have hq7 : q < 7 := by omega
      have HQ := Lib.hid hq
      obtain ⟨y, hy⟩ : ∃ y, C q = y := ⟨_, rfl⟩
      have hy0 := (HC.out.c q hq7).1
      have hy1 := (HC.out.c q hq7).2
      have HNX := Lib.hid (next_zero (a5 := a5) (c5 := c5) HC.out (by omega) hq7 hn)
      have HMr := Lib.hid (HM.out.m.c hq7)
      rw [hy] at hy0 hy1 HNX
      obtain ⟨r, hr⟩ : ∃ r, rfP n R q (y + 1) = r := ⟨_, rfl⟩
      rw [hr] at HNX
      have hst := HC.out.step (by omega) hq7
      have hhn := hits_next HC.out.e hq7
      have haf := HC.out.after (by omega) hq7
      rw [hy, hr] at hst hhn haf
      obtain ⟨D, hD⟩ : ∃ D, upd C q (y + 1) = D := ⟨_, rfl⟩
      obtain ⟨J, hJ⟩ : ∃ J, hUp r H q = J := ⟨_, rfl⟩
      rw [hD, hJ] at HNX hst
      rw [hJ] at hhn
      have hfar : ∀ W' aa, wr.heap.size ≤ W' → (∀ g, aa = some g → W' ≤ g.block) → ∀ g : Addr, aa = some g → g.block ≠ g5 ∧ g.block ≠ g7 ∧ g.block ≠ g8 ∧ g.block ≠ g9 := fun W' aa h0 hf g e => by
        have := hf g e; have := HM.out.s.lt; have := HM.out.m.lt; have := HM.out.h.lt; have := HM.out.l.lt; omega
      have HFAR := Lib.hid hfar
      have HST := Lib.hid hst
      have HHN := Lib.hid hhn
      have HAF := Lib.hid haf
      have HDJ := Lib.hid (And.intro hD hJ)
      have hask : askE n R (q : Int) (y + 1) 1 = 0 := ask_at HP.out hq7 (by omega) (by omega)
      have hrfd : rfdV n R (q : Int) (y + 1) = r := (if_pos hask).trans hr
      have HASK := Lib.hid (And.intro hask hrfd)
      have hask0 : askE n R (q : Int) (y + 1) 0 = 0 := ask_at HP.out hq7 (by omega) (by omega)
      have hht : htV n R (q : Int) (y + 1) = J q := (if_pos hask0).trans hhn
      have HHT := Lib.hid (And.intro hask0 hht)
      clear hst hhn haf hD hJ hask hrfd hask0 hht hfar
      obtain ⟨s0, s1, s2, s3, s4, s5, s6, s7, s8, s9, s10, s11, s12, s13, s14⟩ := HM.out.s.cells
      have HY := Lib.hid hy
      have HR := Lib.hid hr
      clear hq hu hy hr
      go_wp2_with fail
      rw [HQ.out]
      refine (HNX.out _ HM.out.r).mono ?_
      clear s0 s1 s2 s3 s4 s5 s6 s7 s8 s9 s10 s11 s12 s13 s14
      rintro e w3 ⟨aa, ca, rfl, hSa, b3, hfr⟩
      have HM3 := Lib.hid (HM.out.below b3)
      have m0 := HM3.out.m.c hq7
      rw [HY.out] at m0
      have mf := HM3.out.m.fz
      have mlt := HM3.out.m.lt
      have HSa := Lib.hid hSa
      have HFa := Lib.hid (HFAR.out _ aa (Nat.le_refl _) hfr)
      have hq0 : (0 : Int) ≤ (q : Int) := by omega
      have hqi : (q : Int) < 7 := by omega
      have HR1 := Lib.hid (HM3.out.begin2 (ca := ca) (D := D) (J := J) (v := y + 1) hl5 h57 h78 h89 hq7 HSa.out HFa.out)
      have HO := Lib.hid (HM3.out.ord (Below.refl _ _) hl5 h57 h78 h89)
      rw [HDJ.out.1] at HR1
      clear hSa b3 hfr g0
      go_wp2_with fail
      obtain ⟨V, hV⟩ : ∃ V, (w3.setCell ⟨g7, q, none⟩ (.int .i64 (y + 1))).alloc (.cells (sA aa n ca D J) 38) = V := ⟨_, rfl⟩
      rw [hV] at HR1 ⊢
      obtain ⟨g12, hg12⟩ : ∃ g, w3.heap.size = g := ⟨_, rfl⟩
      rw [hg12] at HR1 HO ⊢
      clear hV hg12 m0 mf mlt
      have kp := boxP_c0 HR1.out.p
      have km := HR1.out.m.c hq7
      have hDq : D q = y + 1 := by rw [← HDJ.out.1, upd_same]
      rw [hDq] at km
      have HDq := Lib.hid hDq
      have HK1 : Hid (∀ w', Below V.heap.size V w' → w'.cell? ⟨w.heap.size, 0, none⟩ = some (.slice a n c) ∧ w'.cell? ⟨g7, q, none⟩ = some (.int .i64 (y + 1))) := Lib.hid (fun w' h => ⟨cell_later h kp, cell_later h km⟩)
      have HCh := Lib.hid (fun W' (h : Below V.heap.size V W') => Refused_ok (c := c) (HS.out.below (below_tr HR1.out.b h)) hn (q : Int) (y + 1))
      rw [HASK.out.1, HASK.out.2] at HCh
      clear hDq
      go_region_held3 (fun w' => Below V.heap.size V w' ∧ w'.cell? ⟨w.heap.size, 0, none⟩ = some (.slice a n c) ∧ w'.cell? ⟨g7, q, none⟩ = some (.int .i64 (y + 1)))
        ((refine keepN HK1 ?_; first | exact (Below.refl _ _).drew | exact And.left (by assumption) | exact bel_call (by assumption) (by assumption)))
        ((go_at_call 12; (refine (HCh.out _ (And.left (by assumption))).mono ?_); rintro e w4 ⟨rfl, b4⟩; have g4 := Lib.hid (bel_call (by assumption) b4)))
      have HR4 := Lib.hid (HR1.out.below g4.out)
      clear kp km
      cases r with
      | false =>
        have hJ2 : J = H := HDJ.out.2.symm
        subst hJ2
        (try simp only [Exit.inBlock, Exit.then])
        go_wp2_with fail
        have kp := boxP_c0 HR4.out.p
        have km := HR4.out.m.c hq7
        rw [HDq.out] at km
        have HK8 : Hid (∀ w', Below w4.heap.size w4 w' → w'.cell? ⟨w.heap.size, 0, none⟩ = some (.slice a n c) ∧ w'.cell? ⟨g7, q, none⟩ = some (.int .i64 (y + 1))) := Lib.hid (fun w' h => ⟨cell_later h kp, cell_later h km⟩)
        have HC8 := Lib.hid (fun W' (h : Below w4.heap.size w4 W') => Hits_ok (c := c) (HS.out.below (below_tr HR4.out.b h)) hn (q : Int) (y + 1))
        rw [HHT.out.1, HHT.out.2] at HC8
        go_region_held3 (fun w' => Below w4.heap.size w4 w' ∧ w'.cell? ⟨w.heap.size, 0, none⟩ = some (.slice a n c) ∧ w'.cell? ⟨g7, q, none⟩ = some (.int .i64 (y + 1)))
          ((refine keepN HK8 ?_; first | exact (Below.refl _ _).drew | exact And.left (by assumption) | exact bel_call (by assumption) (by assumption)))
          ((go_at_call 14; (refine (HC8.out _ (And.left (by assumption))).mono ?_); rintro e w8 ⟨rfl, b8⟩; have g8' := Lib.hid (bel_call (by assumption) b8)))
        have HR8 := Lib.hid (HR4.out.below g8'.out)
        clear kp km
        (try simp only [Exit.inBlock, Exit.then])
        have q1 : ∀ w, Sem.run Tryd.prog (binOp .neq 36 (cV D) (cV D)) w = .ok (.bool false) w := fun w => by have := neq7 D D w; rwa [eq7B_of (fun _ _ => rfl)] at this
        have q2 : ∀ w, Sem.run Tryd.prog (binOp .neq 36 (cV J) (cV J)) w = .ok (.bool false) w := fun w => by have := neq7 J J w; rwa [eq7B_of (fun _ _ => rfl)] at this
        have hgd := guard36
        have kh := HR8.out.h.c hq7
        obtain ⟨t0, t1, t2, t3, t4, t5, t6, t7, t8, t9, t10, t11, t12, t13, t14⟩ := HR8.out.t.cells
        obtain ⟨m0, m1, m2, m3, m4, m5, m6⟩ := HR8.out.m.cells
        obtain ⟨h0, h1, h2, h3, h4, h5, h6⟩ := HR8.out.h.cells
        obtain ⟨s0, s1, s2, s3, s4, s5, s6, s7, s8, s9, s10, s11, s12, s13, s14⟩ := HR8.out.s.cells
        have sf := HR8.out.s.fz
        go_wp2
        go_roundw
        case rel => exact ⟨k + 1, aa, ca, D, J, _, by go_num, by omega, Lib.hid (HR8.out.finish HO.out (fun _ _ => rfl) (fun _ _ => rfl)), HST⟩
        case measure => simp [intOf]; omega
      | true =>
        (try simp only [Exit.inBlock, Exit.then])
        have z0 := HR4.out.h.c hq7
        have zf := HR4.out.h.fz
        obtain ⟨z, hz⟩ : ∃ z, H q = z := ⟨_, rfl⟩
        rw [hz] at z0
        have hzb := HC.out.h q hq7
        rw [hz] at hzb
        obtain ⟨hz0, hz1⟩ := hzb
        have hJ2 : upd H q (z + 1) = J := by rw [← HDJ.out.2, ← hz]; rfl
        have HJ2 := Lib.hid hJ2
        clear hz hJ2
        go_wp2_with fail
        have HR5 := Lib.hid (HR4.out.setH HO.out hq7 (z + 1))
        rw [HJ2.out] at HR5
        obtain ⟨V5, hV5⟩ : ∃ V, w4.setCell ⟨g8, q, none⟩ (.int .i64 (z + 1)) = V := ⟨_, rfl⟩
        rw [hV5] at HR5 ⊢
        clear hV5 z0 zf
        obtain ⟨ha1, ha2⟩ := HAF.out (by first | trivial | rfl)
        have kp := boxP_c0 HR5.out.p
        have km := HR5.out.l.c hq7
        have HK5 : Hid (∀ w', Below V5.heap.size V5 w' → w'.cell? ⟨w.heap.size, 0, none⟩ = some (.slice a n c) ∧ w'.cell? ⟨g9, q, none⟩ = some (.int .i64 (T q))) := Lib.hid (fun w' h => ⟨cell_later h kp, cell_later h km⟩)
        have HC5 := Lib.hid (fun W' (h : Below V5.heap.size V5 W') => After_ok (c := c) (HS.out.below (below_tr HR5.out.b h)) hn (q : Int) (T q))
        rw [ha1, ha2] at HC5
        clear ha1 ha2
        go_region_held3 (fun w' => Below V5.heap.size V5 w' ∧ w'.cell? ⟨w.heap.size, 0, none⟩ = some (.slice a n c) ∧ w'.cell? ⟨g9, q, none⟩ = some (.int .i64 (T q)))
          ((refine keepN HK5 ?_; first | exact (Below.refl _ _).drew | exact And.left (by assumption) | exact bel_call (by assumption) (by assumption)))
          ((go_at_call 16; (refine (HC5.out _ (And.left (by assumption))).mono ?_); rintro e w6 ⟨rfl, b6⟩; have g6 := Lib.hid (bel_call (by assumption) b6)))
        have HR6 := Lib.hid (HR5.out.below g6.out)
        clear kp km
        (try simp only [Exit.inBlock, Exit.then])
        have km := HR6.out.m.c hq7
        rw [HDq.out] at km
        have lm := HR6.out.l.c hq7
        have lf := HR6.out.l.fz
        go_wp2_with fail
        have HR7 := Lib.hid (HR6.out.setL HO.out hq7 (y + 1))
        obtain ⟨V7, hV7⟩ : ∃ V, w6.setCell ⟨g9, q, none⟩ (.int .i64 (y + 1)) = V := ⟨_, rfl⟩
        rw [hV7] at HR7 ⊢
        clear hV7 km lm lf
        have kp := boxP_c0 HR7.out.p
        have km := HR7.out.m.c hq7
        rw [HDq.out] at km
        have HK8 : Hid (∀ w', Below V7.heap.size V7 w' → w'.cell? ⟨w.heap.size, 0, none⟩ = some (.slice a n c) ∧ w'.cell? ⟨g7, q, none⟩ = some (.int .i64 (y + 1))) := Lib.hid (fun w' h => ⟨cell_later h kp, cell_later h km⟩)
        have HC8 := Lib.hid (fun W' (h : Below V7.heap.size V7 W') => Hits_ok (c := c) (HS.out.below (below_tr HR7.out.b h)) hn (q : Int) (y + 1))
        rw [HHT.out.1, HHT.out.2] at HC8
        go_region_held3 (fun w' => Below V7.heap.size V7 w' ∧ w'.cell? ⟨w.heap.size, 0, none⟩ = some (.slice a n c) ∧ w'.cell? ⟨g7, q, none⟩ = some (.int .i64 (y + 1)))
          ((refine keepN HK8 ?_; first | exact (Below.refl _ _).drew | exact And.left (by assumption) | exact bel_call (by assumption) (by assumption)))
          ((go_at_call 14; (refine (HC8.out _ (And.left (by assumption))).mono ?_); rintro e w8 ⟨rfl, b8⟩; have g8' := Lib.hid (bel_call (by assumption) b8)))
        have HR8 := Lib.hid (HR7.out.below g8'.out)
        clear kp km
        (try simp only [Exit.inBlock, Exit.then])
        have q1 : ∀ w, Sem.run Tryd.prog (binOp .neq 36 (cV D) (cV D)) w = .ok (.bool false) w := fun w => by have := neq7 D D w; rwa [eq7B_of (fun _ _ => rfl)] at this
        have q2 : ∀ w, Sem.run Tryd.prog (binOp .neq 36 (cV J) (cV J)) w = .ok (.bool false) w := fun w => by have := neq7 J J w; rwa [eq7B_of (fun _ _ => rfl)] at this
        have hgd := guard36
        have kh := HR8.out.h.c hq7
        obtain ⟨t0, t1, t2, t3, t4, t5, t6, t7, t8, t9, t10, t11, t12, t13, t14⟩ := HR8.out.t.cells
        obtain ⟨m0, m1, m2, m3, m4, m5, m6⟩ := HR8.out.m.cells
        obtain ⟨h0, h1, h2, h3, h4, h5, h6⟩ := HR8.out.h.cells
        obtain ⟨s0, s1, s2, s3, s4, s5, s6, s7, s8, s9, s10, s11, s12, s13, s14⟩ := HR8.out.s.cells
        have sf := HR8.out.s.fz
        go_wp2
        go_roundw
        case rel => exact ⟨k + 1, aa, ca, D, J, _, by go_num, by omega, Lib.hid (HR8.out.finish HO.out (fun _ _ => rfl) (fun _ _ => rfl)), HST⟩
        case measure => simp [intOf]; omega
    · obtain rfl : k = m := by omega
      have HTm := Lib.hid (HT.out.below HM.out.b)
      go_wp2_with fail
      refine (shown_ok _ HTm.out).mono ?_
      rintro e w3 ⟨rfl, b3⟩
      have HB3 := Lib.hid (below_tr HM.out.b b3)
      clear b3
      go_wp2
      go_ret
      exact ⟨rfl, HB3.out⟩
end
end Go.Proofs.YtpjhedkloljpjaaDoorRR
