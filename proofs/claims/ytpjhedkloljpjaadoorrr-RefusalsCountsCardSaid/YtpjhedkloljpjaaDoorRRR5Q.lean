/- Refusals: Start and CheckState of the reference; wide. -/
import Derived.Test.YtpjhedkloljpjaaDoorRRR5P
namespace Go.Proofs.YtpjhedkloljpjaaDoorRR
open Go.RowKit Go.Sort Go.Joins Go.Shelf
attribute [local go_sem] cell_grow frozen_grow size_grow
attribute [local go_sem ↓] Go.wp_at_zero Go.wp_at_succ
section
variable {w : World} {a : Option Addr} {n c : Nat} {R : Nat → Rl} {C H : Nat → Int}
set_option maxRecDepth 100000 in
set_option maxHeartbeats 1600000 in
theorem rStart_ok (hS : SlR w a n R) (hn : n ≤ 9223372036854775807) :
    Calls Tryd.prog 25 #[pV a n c] w fun e w' => ∃ a' c', e = .returned (.tuple #[sV a' (stN n R) c' Z7 Z7, .int .i64 (pE n R)]) ∧ SlR w' a' (stN n R) R ∧ Below w.heap.size w w' := by
  have b0 : Below w.heap.size w ((w.alloc (.cells #[.slice a n c] 24)).alloc (.cells #[.slice none 0 0, .int .i64 0, .int .i64 0, .int .i64 0, .int .i64 0, .int .i64 0, .int .i64 0, .int .i64 0, .int .i64 0, .int .i64 0, .int .i64 0, .int .i64 0, .int .i64 0, .int .i64 0, .int .i64 0] 38)) := ((Below.refl _ w).alloc (Nat.le_refl _) _).alloc (by simp) _
  have HS0 := Lib.hid hS
  have HC := Lib.hid (rchk_ok (c := c) (hS.below b0) hn)
  have HB := Lib.hid b0
  have hnew : StC ((w.alloc (.cells #[.slice a n c] 24)).alloc (.cells #[.slice none 0 0, .int .i64 0, .int .i64 0, .int .i64 0, .int .i64 0, .int .i64 0, .int .i64 0, .int .i64 0, .int .i64 0, .int .i64 0, .int .i64 0, .int .i64 0, .int .i64 0, .int .i64 0, .int .i64 0] 38)) (w.heap.size + 1) none 0 0 Z7 Z7 := by
    have := StC.new (a := none) (n := 0) (c := 0) (C := Z7) (H := Z7) (w.alloc (.cells #[.slice a n c] 24))
    rw [World.size_alloc] at this
    exact this
  have HN := Lib.hid hnew
  clear b0 hS hnew
  obtain ⟨p, hp⟩ : ∃ p, pE n R = p := ⟨_, rfl⟩
  rw [hp] at HC
  by_cases hp0 : p = 0
  · subst hp0
    rw [stN_ok hp, hp]
    clear hp
    go_enter Tryd.func25, Tryd.ntmps25
    go_wp2_with fail
    refine HC.out.mono ?_
    rintro e w1 ⟨rfl, b1⟩
    have k0 : w1.cell? ⟨w.heap.size, 0, none⟩ = some (.slice a n c) := cell_later b1 (by simp [go_sem])
    have HB1 := Lib.hid (below_tr HB.out b1)
    have hN2 := HN.out.below b1
    obtain ⟨s0, s1, s2, s3, s4, s5, s6, s7, s8, s9, s10, s11, s12, s13, s14⟩ := hN2.cells
    have hf := hN2.fz
    have HN2 := Lib.hid hN2
    clear b1 hN2
    go_wp2
    have hb15 := below15 HB1.out (B := w.heap.size + 1) (by simp) (.slice a n c) (.int .i64 0) (.int .i64 0) (.int .i64 0) (.int .i64 0) (.int .i64 0) (.int .i64 0) (.int .i64 0) (.int .i64 0) (.int .i64 0) (.int .i64 0) (.int .i64 0) (.int .i64 0) (.int .i64 0) (.int .i64 0)
    exact bodyPost_ret (v := .tuple #[sV a n c Z7 Z7, .int .i64 0]) (by simp [results, Tryd.results25, go_sem, Z7, s0, s1, s2, s3, s4, s5, s6, s7, s8, s9, s10, s11, s12, s13, s14]) rfl ⟨a, c, rfl, HS0.out.below hb15, hb15⟩
  · have d1 := bne0_true hp0
    rw [stN_err (by rw [hp]; exact hp0), hp]
    clear hp hp0
    go_enter Tryd.func25, Tryd.ntmps25
    go_wp2_with fail
    refine HC.out.mono ?_
    rintro e w1 ⟨rfl, b1⟩
    have HB1 := Lib.hid (below_tr HB.out b1)
    have hN2 := HN.out.below b1
    obtain ⟨s0, s1, s2, s3, s4, s5, s6, s7, s8, s9, s10, s11, s12, s13, s14⟩ := hN2.cells
    have hf := hN2.fz
    clear b1 hN2
    go_wp2
    exact bodyPost_ret (v := .tuple #[sV none 0 0 Z7 Z7, .int .i64 p]) (by simp [results, Tryd.results25, go_sem, Z7, s0, s1, s2, s3, s4, s5, s6, s7, s8, s9, s10, s11, s12, s13, s14]) rfl ⟨none, 0, rfl, .inl rfl, below15 HB1.out (by simp) _ _ _ _ _ _ _ _ _ _ _ _ _ _ _⟩
/-- a state that is not examined -/
def wideB (n : Nat) (C : Nat → Int) : Bool := ((List.range 7).any fun k => decide (3000 < C k) && decide (C k ≤ 1000000)) || farB n
theorem wide_yes {n k : Nat} {C : Nat → Int} (hk : k < 7) (h1 : 3000 < C k) (h2 : C k ≤ 1000000) : wideB n C = true := by
  unfold wideB
  rw [List.any_eq_true.2 ⟨k, List.mem_range.2 hk, by simp [h1, h2]⟩, Bool.true_or]
theorem wide_no {n : Nat} {C : Nat → Int} (h : ∀ k, k < 7 → ¬ (3000 < C k ∧ C k ≤ 1000000)) : wideB n C = farB n := by
  unfold wideB
  rw [List.any_eq_false.2, Bool.false_or]
  intro k hk
  have := h k (List.mem_range.1 hk)
  simp only [Bool.and_eq_true, decide_eq_true_eq]
  exact this
set_option maxRecDepth 100000 in
set_option maxHeartbeats 1600000 in
theorem wide_ok (a : Option Addr) (n c : Nat) (C H : Nat → Int) (hn : n ≤ 9223372036854775807) (w : World) :
    Calls Tryd.prog 20 #[sV a n c C H] w fun e w' => e = .returned (.bool (wideB n C)) ∧ Below w.heap.size w w' := by
  have HB := Lib.hid (below_box0 w (.cells (sA a n c C H) 38))
  have hnew := StC.new (a := a) (n := n) (c := c) (C := C) (H := H) w
  go_enter Tryd.func20, Tryd.ntmps20
  go_wp2
  obtain ⟨W, hW⟩ : ∃ W, w.alloc (.cells (sA a n c C H) 38) = W := ⟨_, rfl⟩
  rw [hW] at HB hnew ⊢
  have HN := Lib.hid hnew
  clear hW hnew
  go_loop [3] (fun i => ∃ k : Nat, i = .int .i64 k ∧ k ≤ 7 ∧ Hid (∀ j, j < k → ¬ (3000 < C j ∧ C j ≤ 1000000))) (fun i => 7 - (intOf i).toNat)
  case atStart => exact ⟨0, rfl, by omega, Lib.hid (fun j hj => by omega)⟩
  case round =>
    obtain ⟨k, rfl, hk, HA⟩ := hrel
    by_cases hlt : k < 7
    · have dl : decide (k < 7) = true := by simpa using hlt
      have dl2 : decide ((k : Int) < 7) = true := by simp; omega
      have hli : (k : Int) < 7 := by omega
      have hk0 : (0 : Int) ≤ (k : Int) := by omega
      have hc := HN.out.cC hlt
      obtain ⟨x, hx⟩ : ∃ x, C k = x := ⟨_, rfl⟩
      rw [hx] at hc
      have HX := Lib.hid hx
      clear hx
      by_cases h1 : 3000 < x
      · have e1 : decide (3000 < x) = true := by simpa using h1
        by_cases h2 : x ≤ 1000000
        · have e2 : decide (x ≤ 1000000) = true := by simpa using h2
          go_wp2
          go_ret
          exact ⟨ret_bool (wide_yes hlt (by rw [HX.out]; exact h1) (by rw [HX.out]; exact h2)).symm, HB.out⟩
        · have e2 : decide (x ≤ 1000000) = false := by simpa using h2
          have HN2 := Lib.hid h2
          clear h2
          go_wp2
          go_round
          case rel => exact ⟨k + 1, by go_num, by omega, Lib.hid (fun j hj => by
            by_cases ej : j = k
            · rw [ej, HX.out]; exact fun h => HN2.out h.2
            · exact HA.out j (by omega))⟩
          case measure => simp [intOf]; omega
      · have e1 : decide (3000 < x) = false := by simpa using h1
        have HN2 := Lib.hid h1
        clear h1
        go_wp2
        go_round
        case rel => exact ⟨k + 1, by go_num, by omega, Lib.hid (fun j hj => by
          by_cases ej : j = k
          · rw [ej, HX.out]; exact fun h => HN2.out h.1
          · exact HA.out j (by omega))⟩
        case measure => simp [intOf]; omega
    · obtain rfl : k = 7 := by omega
      have c0 := HN.out.c0
      have HF := Lib.hid (far_ok a n c hn W)
      go_wp2_with fail
      refine HF.out.mono ?_
      rintro e w1 ⟨rfl, b1⟩
      have HB1 := Lib.hid (HB.out.trans (b1.mono HB.out.size))
      clear b1
      go_wp2
      go_ret
      exact ⟨ret_bool (wide_no HA.out).symm, HB1.out⟩
set_option maxRecDepth 100000 in
set_option maxHeartbeats 3200000 in
theorem rchkst_ok (hS : SlR w a n R) (hn : n ≤ 9223372036854775807) :
    Calls Tryd.prog 27 #[sV a n c C H] w fun e w' => e = .returned (.int .i64 (csE n R C H)) ∧ Below w.heap.size w w' := by
  have b0 := below_box0 w (.cells (sA a n c C H) 38)
  have HS := Lib.hid (hS.below b0)
  have HC := Lib.hid (rchk_ok (c := c) HS.out hn)
  have HB := Lib.hid b0
  have hnew := StC.new (a := a) (n := n) (c := c) (C := C) (H := H) w
  have HN := Lib.hid hnew
  have HI := Lib.hid rfin_ok
  clear b0 hS hnew
  obtain ⟨p, hp⟩ : ∃ p, pE n R = p := ⟨_, rfl⟩
  rw [hp] at HC
  by_cases hp0 : p = 0
  · subst hp0
    have HR := Lib.hid (pE_zero hp).2
    have hn50 := (pE_zero hp).1
    have HP := Lib.hid hp
    clear hp
    go_enter Tryd.func27, Tryd.ntmps27
    go_wp2_with fail
    refine HC.out.mono ?_
    rintro e V ⟨rfl, b1⟩
    have HB1 := Lib.hid (below_tr HB.out b1)
    have HN1 := Lib.hid (HN.out.below b1)
    have HS1 := Lib.hid (HS.out.below b1)
    clear b1
    go_wp2
    go_loop [5] (fun i => ∃ k : Nat, i = .int .i64 k ∧ k ≤ 7 ∧ Hid (∀ j, j < k → 0 ≤ C j ∧ C j ≤ 1000000)) (fun i => 7 - (intOf i).toNat)
    case atStart => exact ⟨0, rfl, by omega, Lib.hid (fun j hj => by omega)⟩
    case round =>
      obtain ⟨k, rfl, hk, HA⟩ := hrel
      by_cases hlt : k < 7
      · have dl : decide (k < 7) = true := by simpa using hlt
        have dl2 : decide ((k : Int) < 7) = true := by simp; omega
        have hli : (k : Int) < 7 := by omega
        have hk0 : (0 : Int) ≤ (k : Int) := by omega
        have hc := HN1.out.cC hlt
        obtain ⟨x, hx⟩ : ∃ x, C k = x := ⟨_, rfl⟩
        rw [hx] at hc
        have HX := Lib.hid hx
        clear hx
        obtain ⟨r, hr⟩ : ∃ r, (decide (0 ≤ x) && decide (x ≤ 1000000)) = r := ⟨_, rfl⟩
        have HIx := Lib.hid (HI.out x 0 1000000)
        rw [hr] at HIx
        have HR2 := Lib.hid hr
        clear hr
        cases r
        · go_wp2_with fail
          refine (HIx.out _).mono ?_
          rintro e w2 ⟨rfl, rfl⟩
          go_wp2
          go_ret
          refine ⟨ret_i64 (cs_bad HP.out hlt ?_), HB1.out⟩
          rw [Bool.eq_false_iff]
          intro h
          have h2 := okK_yes.1 h
          have h3 := HR2.out
          rw [HX.out] at h2
          simp at h3
          omega
        · go_wp2_with fail
          refine (HIx.out _).mono ?_
          rintro e w2 ⟨rfl, rfl⟩
          go_wp2
          go_round
          case rel => exact ⟨k + 1, by go_num, by omega, Lib.hid (fun j hj => by
            by_cases ej : j = k
            · have h3 := HR2.out
              simp at h3
              rw [ej, HX.out]; exact h3
            · exact HA.out j (by omega))⟩
          case measure => simp [intOf]; omega
      · obtain rfl : k = 7 := by omega
        rw [show ((7 : Nat) : Int) = 7 from rfl]
        go_wp2
        go_loopw [6] (fun i wr => ∃ k : Nat, i = .int .i64 k ∧ k ≤ 7 ∧ Hid (∀ j, j < k → okK n R C H j = true) ∧ Hid (Below V.heap.size V wr)) (fun i _ => 7 - (intOf i).toNat)
        case atStart => exact ⟨0, rfl, by omega, Lib.hid (fun j hj => by omega), Lib.hid (Below.refl _ _)⟩
        case round =>
          obtain ⟨k, rfl, hk, HA2, HBr⟩ := hrel
          have HBw := Lib.hid (HB1.out.trans (HBr.out.mono HB1.out.size))
          by_cases hlt : k < 7
          · have dl : decide (k < 7) = true := by simpa using hlt
            have dl2 : decide ((k : Int) < 7) = true := by simp; omega
            have hli : (k : Int) < 7 := by omega
            have hk0 : (0 : Int) ≤ (k : Int) := by omega
            have HNr := Lib.hid (HN1.out.below HBr.out)
            have HSr := Lib.hid (HS1.out.below HBr.out)
            have hcC := HNr.out.cC hlt
            have hcH := HNr.out.cH hlt
            have hc0 := HNr.out.c0
            have hrg := HA.out k hlt
            have HOK := Lib.hid (okK_yes (n := n) (R := R) (C := C) (H := H) (k := k))
            obtain ⟨x, hx⟩ : ∃ x, C k = x := ⟨_, rfl⟩
            obtain ⟨y, hy⟩ : ∃ y, H k = y := ⟨_, rfl⟩
            rw [hx] at hcC hrg HOK
            rw [hy] at hcH HOK
            clear hx hy
            obtain ⟨hx0, hx1⟩ := hrg
            obtain ⟨xn, rfl⟩ := Int.eq_ofNat_of_zero_le hx0
            rw [Int.toNat_natCast] at HOK
            have HCh := Lib.hid (fun W' (h : Below wr.heap.size wr W') => rhits_ok (c := c) (HSr.out.below h) hn HR.out (k : Int) xn (by omega))
            obtain ⟨z, hz⟩ : ∃ z : Nat, hitP n R (k : Int) xn = z := ⟨_, rfl⟩
            rw [hz] at HOK HCh
            clear hz
            have HK2 : Hid (∀ w', Below wr.heap.size wr w' → w'.cell? ⟨w.heap.size, 0, none⟩ = some (.slice a n c) ∧ w'.cell? ⟨w.heap.size, 8 + k, none⟩ = some (.int .i64 y) ∧ w'.cell? ⟨w.heap.size, 1 + k, none⟩ = some (.int .i64 xn)) := Lib.hid (fun w' h => ⟨cell_later h hc0, cell_later h hcH, cell_later h hcC⟩)
            by_cases h3 : y = (z : Int)
            · have e3 : (y != (z : Int)) = false := by simpa using h3
              have HG : Hid (okK n R C H k = true) := Lib.hid (HOK.out.2 ⟨by omega, by omega, h3.symm⟩)
              clear h3
              go_wp2_with fail
              go_region_held3 (fun w' => Below wr.heap.size wr w' ∧ w'.cell? ⟨w.heap.size, 0, none⟩ = some (.slice a n c) ∧ w'.cell? ⟨w.heap.size, 8 + k, none⟩ = some (.int .i64 y) ∧ w'.cell? ⟨w.heap.size, 1 + k, none⟩ = some (.int .i64 xn))
                ((refine keepN HK2 ?_; first | exact (Below.refl _ _).drew | exact And.left (by assumption) | exact bel_call (by assumption) (by assumption)))
                ((go_at_call 40; (refine (HCh.out _ (And.left (by assumption))).mono ?_); rintro e w2 ⟨rfl, b2⟩; have g2 := Lib.hid (bel_call (by assumption) b2)))
              all_goals
                go_wp2
                go_roundw
                · exact ⟨k + 1, by go_num, by omega, Lib.hid (fun j hj => by
                    by_cases ej : j = k
                    · rw [ej]; exact HG.out
                    · exact HA2.out j (by omega)), Lib.hid (HBr.out.trans (g2.out.mono HBr.out.size))⟩
                · simp [intOf]; omega
            · have e3 : (y != (z : Int)) = true := by simpa using h3
              have HF := Lib.hid (cs_bad (n := n) (R := R) (C := C) (H := H) HP.out hlt (by rw [Bool.eq_false_iff]; intro h; exact h3 (HOK.out.1 h).2.2.symm))
              clear h3
              go_wp2_with fail
              go_region_held3 (fun w' => Below wr.heap.size wr w' ∧ w'.cell? ⟨w.heap.size, 0, none⟩ = some (.slice a n c) ∧ w'.cell? ⟨w.heap.size, 8 + k, none⟩ = some (.int .i64 y) ∧ w'.cell? ⟨w.heap.size, 1 + k, none⟩ = some (.int .i64 xn))
                ((refine keepN HK2 ?_; first | exact (Below.refl _ _).drew | exact And.left (by assumption) | exact bel_call (by assumption) (by assumption)))
                ((go_at_call 40; (refine (HCh.out _ (And.left (by assumption))).mono ?_); rintro e w2 ⟨rfl, b2⟩; have g2 := Lib.hid (bel_call (by assumption) b2)))
              all_goals
                go_wp2
                go_ret
                exact ⟨ret_i64 HF.out, HBw.out.trans (g2.out.mono HBw.out.size)⟩
          · obtain rfl : k = 7 := by omega
            go_wp2
            go_ret
            exact ⟨ret_i64 (cs_good HP.out HA2.out), HBw.out⟩
  · have d1 := bne0_true hp0
    have HE := Lib.hid (cs_err (C := C) (H := H) (show pE n R ≠ 0 by rw [hp]; exact hp0))
    rw [hp] at HE
    clear hp hp0
    go_enter Tryd.func27, Tryd.ntmps27
    go_wp2_with fail
    refine HC.out.mono ?_
    rintro e w1 ⟨rfl, b1⟩
    have HB1 := Lib.hid (below_tr HB.out b1)
    clear b1
    go_wp2
    go_ret
    exact ⟨ret_i64 HE.out, HB1.out⟩
end
end Go.Proofs.YtpjhedkloljpjaaDoorRR
