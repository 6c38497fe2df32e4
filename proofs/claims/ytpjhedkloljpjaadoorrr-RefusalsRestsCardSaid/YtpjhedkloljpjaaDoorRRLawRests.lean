/- Refusals: RefusalsRests returns true. -/
import Derived.Test.YtpjhedkloljpjaaDoorRRR5Q
import Derived.Test.YtpjhedkloljpjaaDoorRRR5J
import Derived.Test.YtpjhedkloljpjaaDoorRRR5U
namespace Go.Proofs.YtpjhedkloljpjaaDoorRR
open Go.RowKit Go.Sort Go.Joins Go.Shelf
attribute [local go_sem] cell_grow frozen_grow size_grow
theorem rlE_of {x : Rl} (h : RlOk x) : rlE x = 0 := by
  have k0 := h.k0
  have k1 := h.k1
  have f0 := h.f0
  have f1 := h.f1
  have e0 := h.e0
  have e1 := h.e1
  have t0 := h.t0
  have t1 := h.t1
  have et := h.et
  exact (rlE_good (by omega) (by omega) (fun hh => hh.2 (et hh.1))).symm
theorem ask_in {n : Nat} {R : Nat → Rl} {k c : Int} (h : pE n R = 0) (h0 : 0 ≤ k) (h1 : k < 7) (h2 : 1 ≤ c) (h3 : c ≤ 1000000) : askE n R k c 1 = 0 := by
  unfold askE
  rw [if_neg (by simpa using h), if_neg (by omega), if_neg (by omega)]
theorem ask_out {n : Nat} {R : Nat → Rl} {k c : Int} (h : pE n R = 0) (h0 : 0 ≤ k) (h1 : k < 7) (h3 : 1000000 < c) : askE n R k c 1 = 7 := by
  unfold askE
  rw [if_neg (by simpa using h), if_neg (by omega), if_pos (.inr h3)]
theorem rfd_in {n : Nat} {R : Nat → Rl} {k c : Int} (h : askE n R k c 1 = 0) : rfdV n R k c = rfP n R k c := if_pos h
theorem rfd_out {n : Nat} {R : Nat → Rl} {k c : Int} (h : askE n R k c 1 ≠ 0) : rfdV n R k c = false := if_neg h
section
variable {a : Option Addr} {n c : Nat} {R : Nat → Rl} {C H : Nat → Int}
theorem rests_pE (hce : csE n R C H = 0) : pE (rsL R (mdC C) n).length (fun j => (rsL R (mdC C) n).getD j rl0) = 0 := by
  obtain ⟨hp, hall⟩ := csE_zero hce
  obtain ⟨hn, hR⟩ := pE_zero hp
  have hl := rsL_len R (mdC C) n
  refine (p_good (by omega) fun j hj => rlE_of ?_).2.symm
  refine rsL_ok (mdC_ge hce) hR _ ?_
  rw [List.getD_eq_getElem?_getD, List.getElem?_eq_getElem hj]
  exact List.getElem_mem hj
theorem rests_rfP (hce : csE n R C H = 0) {k : Nat} (hk : k < 7) {m : Int} (hm : 1 ≤ m) : rfP (rsL R (mdC C) n).length (fun j => (rsL R (mdC C) n).getD j rl0) (k : Int) m = rfP n R (k : Int) (C k + m) := by
  obtain ⟨hp, hall⟩ := csE_zero hce
  obtain ⟨hn, hR⟩ := pE_zero hp
  rw [rfP_list, rsL_rfz (mdC_ge hce) hm hR, mdC_at C hk]
set_option maxRecDepth 100000 in
set_option maxHeartbeats 6400000 in
theorem law_rests (u v : Int) (w : World) (hu : 0 ≤ u ∧ u ≤ 255) (hv : 0 ≤ v ∧ v ≤ 65535) (hS : SlR w a n R) (hn : n ≤ 9223372036854775807) (hT : T5 w) :
    Calls Tryd.prog 5 #[sV a n c C H, .int .u8 u, .int .u16 v] w fun e w' => e = .returned (.bool true) ∧ Below w.heap.size w w' := by
  have b0 := below_box0 w (.cells (sA a n c C H) 38)
  have HS0 := Lib.hid (hS.below b0)
  have HT0 := Lib.hid (hT.below b0)
  have HB0 := Lib.hid b0
  have HN0 := Lib.hid (StC.new (a := a) (n := n) (c := c) (C := C) (H := H) w)
  have HW := Lib.hid (wide_ok a n c C H hn)
  obtain ⟨wb, hwb⟩ : ∃ wb, wideB n C = wb := ⟨_, rfl⟩
  rw [hwb] at HW
  obtain ⟨hu0, hu1⟩ := hu
  obtain ⟨hv0, hv1⟩ := hv
  clear b0 hS hT hwb
  cases wb with
  | true =>
    go_enter Tryd.func5, Tryd.ntmps5
    go_wp2_with fail
    refine (HW.out _).mono ?_
    rintro e w1 ⟨rfl, b1⟩
    have HB1 := Lib.hid (below_tr HB0.out b1)
    have HT1 := Lib.hid (HT0.out.below b1)
    clear b1
    go_wp2_with fail
    refine (shown_ok _ HT1.out).mono ?_
    rintro e w2 ⟨rfl, b2⟩
    have HB2 := Lib.hid (below_tr HB1.out b2)
    clear b2
    go_wp2
    go_ret
    exact ⟨rfl, HB2.out⟩
  | false =>
    by_cases hce : csE n R C H = 0
    · have HPE := Lib.hid (rests_pE hce)
      have HP := Lib.hid (csE_zero hce)
      have HRF := Lib.hid (fun (k : Nat) (hk : k < 7) (m : Int) (hm : 1 ≤ m) => rests_rfP hce hk hm)
      have HRE : Hid (∀ w, SlR w a n R → _) := Lib.hid (fun w hs => Rest_c2 (w := w) (c := c) hs hn hce)
      obtain ⟨L, hL⟩ : ∃ L, rsL R (mdC C) n = L := ⟨_, rfl⟩
      rw [hL] at HPE HRF HRE
      have hlen : L.length ≤ 9223372036854775807 := by rw [← hL]; exact Nat.le_trans (rsL_len R (mdC C) n) hn
      clear hL hce
      obtain ⟨k, hk⟩ := Int.eq_ofNat_of_zero_le (show 0 ≤ u % 7 by omega)
      have hk7 : k < 7 := by omega
      obtain ⟨m, hm⟩ : ∃ m, 1 + v % 2000 = m := ⟨_, rfl⟩
      have hm1 : 1 ≤ m := by omega
      have hm2 : m ≤ 2000 := by omega
      obtain ⟨y, hy⟩ : ∃ y, C k = y := ⟨_, rfl⟩
      have hyb := HP.out.2 k hk7
      rw [hy] at hyb
      have hy0 := hyb.1
      have hy1 := hyb.2.1
      have hask : askE L.length (fun j => L.getD j rl0) (k : Int) m 1 = 0 := ask_in HPE.out (by omega) (by omega) hm1 (by omega)
      have hrf : rfdV L.length (fun j => L.getD j rl0) (k : Int) m = rfP n R (k : Int) (y + m) := by rw [rfd_in hask, HRF.out k hk7 m hm1, hy]
      obtain ⟨r, hr⟩ : ∃ r, rfP n R (k : Int) (y + m) = r := ⟨_, rfl⟩
      rw [hr] at hrf
      have HAS := Lib.hid (And.intro hask hrf)
      have HY := Lib.hid hy
      have HR := Lib.hid hr
      have hli : (k : Int) < 7 := by omega
      have hk0 : (0 : Int) ≤ (k : Int) := by omega
      clear hyb hask hrf hy hr
      have main : ∀ z : Int, (askE n R (k : Int) (y + m) 1 = z) → ∀ rb, (rfdV n R (k : Int) (y + m) = rb) → ((decide (1000000 < y + m) = true ∧ z = 7 ∧ rb = false) ∨ (decide (1000000 < y + m) = false ∧ z = 0 ∧ rb = r)) →
          Calls Tryd.prog 5 #[sV a n c C H, .int .u8 u, .int .u16 v] w fun e w' => e = .returned (.bool true) ∧ Below w.heap.size w w' := by
        intro z hz rb hrb hcase
        have HZ := Lib.hid (And.intro hz hrb)
        clear hz hrb
        rcases hcase with ⟨d1, rfl, rfl⟩ | ⟨d1, rfl, rfl⟩
        all_goals
          go_enter Tryd.func5, Tryd.ntmps5
          go_wp2_with fail
          refine (HW.out _).mono ?_
          rintro e w1 ⟨rfl, b1⟩
          have HB1 := Lib.hid (below_tr HB0.out b1)
          have HT1 := Lib.hid (HT0.out.below b1)
          have HS1 := Lib.hid (HS0.out.below b1)
          have HN1 := Lib.hid (HN0.out.below b1)
          obtain ⟨s0, s1, s2, s3, s4, s5, s6, s7, s8, s9, s10, s11, s12, s13, s14⟩ := HN1.out.cells
          clear b1
          go_wp2_with fail
          refine (HRE.out _ HS1.out).mono ?_
          clear s0 s1 s2 s3 s4 s5 s6 s7 s8 s9 s10 s11 s12 s13 s14
          rintro e w2 ⟨a2, c2, rfl, hL2, b2⟩
          have HB2 := Lib.hid ((below_tr HB1.out b2).alloc (by have := (below_tr HB1.out b2).size; exact this) (.cells #[.slice a2 L.length c2] 24))
          have HT2 := Lib.hid ((HT1.out.below b2).below (below_box0 _ (.cells #[.slice a2 L.length c2] 24)))
          have HS2 := Lib.hid ((HS1.out.below b2).below (below_box0 _ (.cells #[.slice a2 L.length c2] 24)))
          have HN2 := Lib.hid ((HN1.out.below b2).below (below_box0 _ (.cells #[.slice a2 L.length c2] 24)))
          have HL2 := Lib.hid (hL2.below (below_box0 _ (.cells #[.slice a2 L.length c2] 24)))
          clear b2 hL2
          go_wp2_with fail
          rw [hk]
          refine (Refused_ok (c := c2) HL2.out hlen (k : Int) m).mono ?_
          rw [HAS.out.1, HAS.out.2]
          rintro e w3 ⟨rfl, b3⟩
          have HB3 := Lib.hid (HB2.out.trans (b3.mono HB2.out.size))
          have HT3 := Lib.hid (HT2.out.below b3)
          have HS3 := Lib.hid (HS2.out.below b3)
          have HN3 := Lib.hid (HN2.out.below b3)
          clear b3
          have k0 := HN3.out.c0
          have kC := HN3.out.cC hk7
          rw [HY.out] at kC
          have HK2 : Hid (∀ w', Below w3.heap.size w3 w' → w'.cell? ⟨w.heap.size, 0, none⟩ = some (.slice a n c) ∧ w'.cell? ⟨w.heap.size, 1 + k, none⟩ = some (.int .i64 y)) := Lib.hid (fun w' h => ⟨cell_later h k0, cell_later h kC⟩)
          have HCh := Lib.hid (fun W' (h : Below w3.heap.size w3 W') => Refused_ok (c := c) (HS3.out.below h) hn (k : Int) (y + m))
          rw [HZ.out.1, HZ.out.2] at HCh
          have hwr : IntKind.i64.wrap (y + m) = y + m := IntWalk.i64_in _ (by omega)
          go_wp2_with fail
          go_region_held3 (fun w' => Below w3.heap.size w3 w' ∧ w'.cell? ⟨w.heap.size, 0, none⟩ = some (.slice a n c) ∧ w'.cell? ⟨w.heap.size, 1 + k, none⟩ = some (.int .i64 y))
            ((refine keepN HK2 ?_; first | exact (Below.refl _ _).drew | exact And.left (by assumption) | exact bel_call (by assumption) (by assumption)))
            ((go_at_call 12; (refine (HCh.out _ (And.left (by assumption))).mono ?_); rintro e w4 ⟨rfl, b4⟩; have g4 := Lib.hid (bel_call (by assumption) b4)))
          all_goals
            have HB4 := Lib.hid (HB3.out.trans (g4.out.mono HB3.out.size))
            have HT4 := Lib.hid (HT3.out.below g4.out)
            have kC4 := (HN3.out.below g4.out).cC hk7
            rw [HY.out] at kC4
            go_wp2_with fail
            refine (shown_ok _ HT4.out).mono ?_
            rintro e w5 ⟨rfl, b5⟩
            have HB5 := Lib.hid (below_tr HB4.out b5)
            clear b5
            go_wp2
            go_ret
            exact ⟨rfl, HB5.out⟩
      by_cases hc : 1000000 < y + m
      · have e7 := ask_out HP.out.1 hk0 hli hc
        exact main _ rfl _ rfl (.inl ⟨by simpa using hc, e7, rfd_out (by rw [e7]; decide)⟩)
      · have e0 := ask_in HP.out.1 hk0 hli (show 1 ≤ y + m by omega) (by omega)
        exact main _ rfl _ rfl (.inr ⟨by simpa using hc, e0, (rfd_in e0).trans HR.out⟩)
    · obtain ⟨z, hz⟩ : ∃ z, csE n R C H = z := ⟨_, rfl⟩
      rw [hz] at hce
      have HZ := Lib.hid hz
      have d1 := bne0_true hce
      have HCE := Lib.hid hce
      clear hz hce
      go_enter Tryd.func5, Tryd.ntmps5
      go_wp2_with fail
      refine (HW.out _).mono ?_
      rintro e w1 ⟨rfl, b1⟩
      have HB1 := Lib.hid (below_tr HB0.out b1)
      have HT1 := Lib.hid (HT0.out.below b1)
      have HS1 := Lib.hid (HS0.out.below b1)
      have HN1 := Lib.hid (HN0.out.below b1)
      obtain ⟨s0, s1, s2, s3, s4, s5, s6, s7, s8, s9, s10, s11, s12, s13, s14⟩ := HN1.out.cells
      clear b1
      go_wp2_with fail
      refine (Rest_c1 HS1.out hn z HCE.out HZ.out).mono ?_
      clear s0 s1 s2 s3 s4 s5 s6 s7 s8 s9 s10 s11 s12 s13 s14
      rintro e w2 ⟨rfl, b2⟩
      have HB2 := Lib.hid ((below_tr HB1.out b2).alloc (by have := (below_tr HB1.out b2).size; exact this) (.cells #[.slice none 0 0] 24))
      have HT2 := Lib.hid ((HT1.out.below b2).below (below_box0 _ (.cells #[.slice none 0 0] 24)))
      have HS2 := Lib.hid ((HS1.out.below b2).below (below_box0 _ (.cells #[.slice none 0 0] 24)))
      obtain ⟨s0, s1, s2, s3, s4, s5, s6, s7, s8, s9, s10, s11, s12, s13, s14⟩ := (HN1.out.below b2).cells
      have hzl : w.heap.size < w2.heap.size := (HN1.out.below b2).lt
      clear b2
      go_wp2_with fail
      have HCS := Lib.hid (chkst_ok (c := c) (C := C) (H := H) HS2.out hn)
      rw [HZ.out] at HCS
      refine HCS.out.mono ?_
      rintro e w3 ⟨rfl, b3⟩
      have HB3 := Lib.hid (HB2.out.trans (b3.mono HB2.out.size))
      have HT3 := Lib.hid (HT2.out.below b3)
      clear b3
      go_wp2_with fail
      refine (shown_ok _ HT3.out).mono ?_
      rintro e w4 ⟨rfl, b4⟩
      have HB4 := Lib.hid (below_tr HB3.out b4)
      clear b4
      go_wp2
      go_ret
      exact ⟨rfl, HB4.out⟩
end
end Go.Proofs.YtpjhedkloljpjaaDoorRR
