/- Bits: BitsSelects returns true. -/
import Derived.Test.YtikdgnfcckenmaaDoorSAtB
namespace Go.Proofs.YtikdgnfcckenmaaDoor
open Go.RowKit Go.Sort Go.Joins
attribute [local go_sem] cell_grow frozen_grow size_grow

/-- how many bits there are of the kind that is looked for -/
theorem cnt_look (ws : List Nat) (on : Bool) (n : Nat) : cnt (look ws on) 0 n = if on then cnt (bat ws) 0 n else n - cnt (bat ws) 0 n := by
  cases on
  · rw [look_false]; have := cnt_not (bat ws) n; simp; omega
  · rw [look_true]; rfl

set_option maxRecDepth 100000 in
set_option maxHeartbeats 3200000 in
theorem law_selects (N : Int) (k : Nat) (on : Bool) (a : Option Addr) (len cap : Nat) (ws : List Nat) (w : World) (hT : Tab w) (hs : SlK .u64 w a len ws) (hw : ∀ x ∈ ws, x < 18446744073709551616) (hlen : len ≤ 9223372036854775807) (hk : k ≤ 65535) :
    Calls Tryd.prog 8 #[.agg #[.int .i64 N, .slice a len cap], .int .u16 k, .bool on] w fun e w' => e = .returned (.bool true) ∧ Below w.heap.size w w' := by
  have HT := Lib.hid hT
  clear hT
  by_cases hc : chk N ws = 0
  · obtain ⟨hn0, hn1, hn2, -⟩ := chk_zero hc
    obtain ⟨n, rfl⟩ := Int.eq_ofNat_of_zero_le hn0
    have HC := Lib.hid hc
    have HN := Lib.hid hn2
    clear hn2 hc
    have hcl := cnt_look ws on n
    obtain ⟨c, hcd⟩ : ∃ c, cnt (bat ws) 0 n = c := ⟨_, rfl⟩
    have hcn : c ≤ n := by rw [← hcd]; exact cnt_le _ _ _
    rw [hcd] at hcl
    have HCD := Lib.hid hcd
    have HCL := Lib.hid hcl
    clear hcd hcl
    by_cases hlt : k < cnt (look ws on) 0 n
    · obtain ⟨s1, s2, s3⟩ := selP_spec hlt
      obtain ⟨i, hi⟩ : ∃ i, selP (look ws on) n k = i := ⟨_, rfl⟩
      have HLT := Lib.hid hlt
      rw [hi] at s1 s2 s3
      have HI := Lib.hid hi
      have HS2 := Lib.hid s2
      have HS3 := Lib.hid s3
      obtain ⟨d, hd⟩ : ∃ d, cnt (bat ws) 0 i = d := ⟨_, rfl⟩
      have hdi : d ≤ i := by rw [← hd]; exact cnt_le _ _ _
      have hdk := cnt_look ws on i
      rw [hd, s3] at hdk
      have HD := Lib.hid hd
      have hbat : bat ws i = on := by have := s2; unfold look at this; simpa using this
      have HBAT := Lib.hid hbat
      have hlt2 : k < if on then c else n - c := by rw [← HCL.out]; exact hlt
      clear hlt hi s2 s3 hd hbat
      have hdk2 : (if on then (d : Int) else (i : Int) - (d : Int)) = (k : Int) := by cases on <;> simp at hdk ⊢ <;> omega
      have hlt3 : decide ((k : Int) < (if on then (c : Int) else (n : Int) - (c : Int))) = true := by cases on <;> simp at hlt2 ⊢ <;> omega
      have HDK := Lib.hid hdk2
      have HL3 := Lib.hid hlt3
      clear hdk hdk2 hlt2 hlt3
      by_cases hk0 : k = 0
      · have l1 := selP_lst0 (p := look ws on) (i := i) (by rw [HS3.out, hk0])
        have l2 := selP_nxt0 (p := look ws on) (n := n) (i := i) s1 HS2.out (by rw [HS3.out, hk0])
        have LL1 := Lib.hid l1
        have LL2 := Lib.hid l2
        have hkb : ((k : Int) == 0) = true := by simp [hk0]
        have HK0 := Lib.hid hk0
        clear l1 l2 hk0
        cases on
        all_goals
          have hdk := HDK.out
          have hl3 := HL3.out
          simp at hdk hl3
          go_enter Tryd.func8, Tryd.ntmps8
          go_wp2_with fail
          refine (rCheck_ok n a len cap ws _ (hs.alloc _) hw hlen).mono ?_
          rintro e w1 ⟨rfl, b1⟩
          rw [HC.out]
          have S1 : Hid (SAt w n a len cap ws w1) := Lib.hid ((SAt.mk (AtBits.new w n a len cap _) (hs.alloc _) (HT.out.alloc _) (below_box0 _ _) (by simp)).below b1)
          have cn1 := S1.out.b.n
          have cs1 := S1.out.b.s
          clear b1
          go_wp2_with fail
          refine (sselect S1.out hw HC.out k i _ HI.out (by omega) s1).mono ?_
          rintro e w2 ⟨rfl, s2⟩
          have S2 := Lib.hid s2
          have cn2 := S2.out.b.n
          have cs2 := S2.out.b.s
          clear s2
          go_wp2_with fail
          refine (scountv S2.out hw HC.out 0 n c (by omega) (by omega) HCD.out).mono ?_
          rintro e w3 ⟨rfl, s3⟩
          have S3 := Lib.hid s3
          have cn3 := S3.out.b.n
          have cs3 := S3.out.b.s
          clear s3
          go_wp2_with fail
          refine (sget S3.out hw HC.out i _ s1 HBAT.out).mono ?_
          rintro e w4 ⟨rfl, s4⟩
          have S4 := Lib.hid s4
          have cn4 := S4.out.b.n
          have cs4 := S4.out.b.s
          clear s4
          go_wp2_with fail
          refine (scountv S4.out hw HC.out 0 i d (by omega) (by omega) HD.out).mono ?_
          rintro e w5 ⟨rfl, s5⟩
          have S5 := Lib.hid s5
          have cn5 := S5.out.b.n
          have cs5 := S5.out.b.s
          clear s5
          go_wp2_with fail
          refine (slast_none S5.out hw HC.out i _ (by omega) LL1.out).mono ?_
          rintro e w6 ⟨rfl, s6⟩
          have S6 := Lib.hid s6
          have cn6 := S6.out.b.n
          have cs6 := S6.out.b.s
          clear s6
          go_wp2_with fail
          refine (snextv S6.out hw HC.out 0 i _ (by omega) LL2.out s1).mono ?_
          rintro e w7 ⟨rfl, s7⟩
          have S7 := Lib.hid s7
          have cn7 := S7.out.b.n
          have cs7 := S7.out.b.s
          clear s7
          go_wp2_with (go_at_call 14; refine (sawake S7.out).mono ?_; rintro e wz ⟨rfl, sz⟩; have SZ := Lib.hid sz; clear sz)
          go_ret
          exact ⟨rfl, SZ.out.k⟩
      · obtain ⟨b1, b2, b3⟩ := sel_before (p := look ws on) (n := n) (k := k) HLT.out (by omega)
        obtain ⟨x, hx⟩ : ∃ x, selP (look ws on) n (k - 1) = x := ⟨_, rfl⟩
        rw [HI.out, hx] at b1 b2
        rw [HI.out, hx] at b3
        have HX := Lib.hid hx
        have HB2 := Lib.hid b2
        have HB3 := Lib.hid b3
        have hkb : ((k : Int) == 0) = false := by simpa using hk0
        obtain ⟨k1, hk1⟩ : ∃ k1, k - 1 = k1 := ⟨_, rfl⟩
        have hkk : (k : Int) - 1 = (k1 : Int) := by omega
        have HK1 := Lib.hid hk1
        clear b2 b3 hx hk1
        cases on
        all_goals
          have hdk := HDK.out
          have hl3 := HL3.out
          simp at hdk hl3
          go_enter Tryd.func8, Tryd.ntmps8
          go_wp2_with fail
          refine (rCheck_ok n a len cap ws _ (hs.alloc _) hw hlen).mono ?_
          rintro e w1 ⟨rfl, b1⟩
          rw [HC.out]
          have S1 : Hid (SAt w n a len cap ws w1) := Lib.hid ((SAt.mk (AtBits.new w n a len cap _) (hs.alloc _) (HT.out.alloc _) (below_box0 _ _) (by simp)).below b1)
          have cn1 := S1.out.b.n
          have cs1 := S1.out.b.s
          clear b1
          go_wp2_with fail
          refine (sselect S1.out hw HC.out k i _ HI.out (by omega) s1).mono ?_
          rintro e w2 ⟨rfl, s2⟩
          have S2 := Lib.hid s2
          have cn2 := S2.out.b.n
          have cs2 := S2.out.b.s
          clear s2
          go_wp2_with fail
          refine (scountv S2.out hw HC.out 0 n c (by omega) (by omega) HCD.out).mono ?_
          rintro e w3 ⟨rfl, s3⟩
          have S3 := Lib.hid s3
          have cn3 := S3.out.b.n
          have cs3 := S3.out.b.s
          clear s3
          go_wp2_with fail
          refine (sget S3.out hw HC.out i _ s1 HBAT.out).mono ?_
          rintro e w4 ⟨rfl, s4⟩
          have S4 := Lib.hid s4
          have cn4 := S4.out.b.n
          have cs4 := S4.out.b.s
          clear s4
          go_wp2_with fail
          refine (scountv S4.out hw HC.out 0 i d (by omega) (by omega) HD.out).mono ?_
          rintro e w5 ⟨rfl, s5⟩
          have S5 := Lib.hid s5
          have cn5 := S5.out.b.n
          have cs5 := S5.out.b.s
          clear s5
          go_wp2_with fail
          refine (slast S5.out hw HC.out i x _ (by omega) HB2.out).mono ?_
          rintro e w6 ⟨rfl, s6⟩
          have S6 := Lib.hid s6
          have cn6 := S6.out.b.n
          have cs6 := S6.out.b.s
          clear s6
          go_wp2_with fail
          refine (sselect S6.out hw HC.out k1 x _ (by rw [← HK1.out]; exact HX.out) (by omega) (by omega)).mono ?_
          rintro e w7 ⟨rfl, s7⟩
          have S7 := Lib.hid s7
          have cn7 := S7.out.b.n
          have cs7 := S7.out.b.s
          clear s7
          go_wp2_with fail
          refine (snextv S7.out hw HC.out (x + 1) i _ (by omega) HB3.out s1).mono ?_
          rintro e w8 ⟨rfl, s8⟩
          have S8 := Lib.hid s8
          have cn8 := S8.out.b.n
          have cs8 := S8.out.b.s
          clear s8
          go_wp2_with (go_at_call 14; refine (sawake S8.out).mono ?_; rintro e wz ⟨rfl, sz⟩; have SZ := Lib.hid sz; clear sz)
          go_ret
          exact ⟨rfl, SZ.out.k⟩
    · have hlt2 : ¬ k < if on then c else n - c := by rw [← HCL.out]; exact hlt
      have hlt3 : decide ((k : Int) < (if on then (c : Int) else (n : Int) - (c : Int))) = false := by cases on <;> simp at hlt2 ⊢ <;> omega
      have HL3 := Lib.hid hlt3
      have HLT := Lib.hid hlt
      clear hlt2 hlt3 hlt
      cases on
      all_goals
        have hl3 := HL3.out
        simp only [if_true, if_false, Bool.false_eq_true] at hl3
        first | (have hl5 : decide (k < c) = false := by (simpa using hl3)) | skip
        go_enter Tryd.func8, Tryd.ntmps8
        go_wp2_with fail
        refine (rCheck_ok n a len cap ws _ (hs.alloc _) hw hlen).mono ?_
        rintro e w1 ⟨rfl, b1⟩
        rw [HC.out]
        have S1 : Hid (SAt w n a len cap ws w1) := Lib.hid ((SAt.mk (AtBits.new w n a len cap _) (hs.alloc _) (HT.out.alloc _) (below_box0 _ _) (by simp)).below b1)
        have cn1 := S1.out.b.n
        have cs1 := S1.out.b.s
        clear b1
        go_wp2_with fail
        refine (sselect_none S1.out hw HC.out k _ (by have := HLT.out; omega) (by omega)).mono ?_
        rintro e w2 ⟨rfl, s2⟩
        have S2 := Lib.hid s2
        have cn2 := S2.out.b.n
        have cs2 := S2.out.b.s
        clear s2
        go_wp2_with fail
        refine (scountv S2.out hw HC.out 0 n c (by omega) (by omega) HCD.out).mono ?_
        rintro e w3 ⟨rfl, s3⟩
        have S3 := Lib.hid s3
        have cn3 := S3.out.b.n
        have cs3 := S3.out.b.s
        clear s3
        go_wp2_with (go_at_call 14; refine (sawake S3.out).mono ?_; rintro e wz ⟨rfl, sz⟩; have SZ := Lib.hid sz; clear sz)
        go_ret
        exact ⟨rfl, SZ.out.k⟩
  · have hne := bne0_true hc
    have HC2 := Lib.hid hc
    clear hc
    go_enter Tryd.func8, Tryd.ntmps8
    go_wp2_with fail
    refine (rCheck_ok N a len cap ws _ (hs.alloc _) hw hlen).mono ?_
    rintro e w1 ⟨rfl, b1⟩
    have HB1 := Lib.hid ((below_box0 w _).trans (b1.mono (by simp)))
    have X1 := Lib.hid ((HT.out.alloc _).below b1)
    clear b1
    go_wp2_with fail
    refine (awake_ok _ X1.out).mono ?_
    rintro e w2 ⟨rfl, b2⟩
    have HB2 := Lib.hid (HB1.out.trans (b2.mono HB1.out.size))
    clear b2
    go_wp2
    go_ret
    exact ⟨rfl, HB2.out⟩
end Go.Proofs.YtikdgnfcckenmaaDoor
