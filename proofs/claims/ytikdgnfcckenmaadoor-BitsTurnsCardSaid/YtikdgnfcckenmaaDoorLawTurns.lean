/- Bits: BitsTurns returns true. -/
import Derived.Test.YtikdgnfcckenmaaDoorRefS
import Derived.Test.YtikdgnfcckenmaaDoorSAtB
namespace Go.Proofs.YtikdgnfcckenmaaDoor
open Go.RowKit Go.Sort Go.Joins
attribute [local go_sem] cell_grow frozen_grow size_grow

/-- the cells of a run -/
theorem SlR.at_ {w : World} {a : Option Addr} {len : Nat} {L : List (Nat × Nat)} (h : SlR w a len L) {k x y : Nat} (hk : k < L.length) (hx : L.getD k (0, 0) = (x, y)) : ∃ b off, a = some ⟨b, off, none⟩ ∧ w.cell? ⟨b, off + k * 2, none⟩ = some (.int .i64 (x : Nat)) ∧ w.cell? ⟨b, off + k * 2 + 1, none⟩ = some (.int .i64 (y : Nat)) := by
  obtain ⟨b, off, ha, hc⟩ := h.cells.resolve_left (by have := h.length; omega)
  have := hc k (by have := h.length; omega)
  rw [hx] at this
  exact ⟨b, off, ha, this⟩

set_option maxRecDepth 100000 in
set_option maxHeartbeats 6400000 in
theorem law_turns (N : Int) (a : Option Addr) (len cap : Nat) (ws : List Nat) (w : World) (hT : Tab w) (hs : SlK .u64 w a len ws) (hw : ∀ x ∈ ws, x < 18446744073709551616) (hlen : len ≤ 9223372036854775807) :
    Calls Tryd.prog 6 #[.agg #[.int .i64 N, .slice a len cap]] w fun e w' => e = .returned (.bool true) ∧ Below w.heap.size w w' := by
  have S0 := Lib.hid (SAt.mk (AtBits.new w N a len cap 24) (hs.alloc _) (hT.alloc _) (below_box0 _ _) (by simp))
  clear hT hs
  by_cases hc : chk N ws = 0
  · obtain ⟨hn0, hn1, hn2, -⟩ := chk_zero hc
    obtain ⟨n, rfl⟩ := Int.eq_ofNat_of_zero_le hn0
    have HC := Lib.hid hc
    have hn : n ≤ 4096 := by omega
    have hV1 : runsV n ws true = runsL (bat ws) n := by unfold runsV; rw [if_pos hc, look_true]; rfl
    have hV2 : runsV n ws false = runsL (fun j => !bat ws j) n := by unfold runsV; rw [if_pos hc, look_false]; rfl
    have HV1 := Lib.hid hV1
    have HV2 := Lib.hid hV2
    clear hn2 hc hV1 hV2
    obtain ⟨c, hcd⟩ : ∃ c, cnt (bat ws) 0 n = c := ⟨_, rfl⟩
    have HCD := Lib.hid hcd
    have hcn : c ≤ n := by rw [← hcd]; exact cnt_le _ _ _
    have hpr : prt n ws 0 n = 0 := prt_ok HC.out (by omega)
    have HPR := Lib.hid hpr
    have HCV : Hid (cntV n ws 0 n = c) := Lib.hid (by unfold cntV; rw [if_pos hpr, Int.toNat_natCast]; show ((cnt (bat ws) 0 n : Nat) : Int) = _; rw [hcd])
    clear hcd hpr
    go_enter Tryd.func6, Tryd.ntmps6
    go_wp2_with fail
    refine (rCheck_ok n a len cap ws _ S0.out.s hw hlen).mono ?_
    rintro e w1 ⟨rfl, b1⟩
    rw [HC.out]
    have S1 := Lib.hid (S0.out.below b1)
    have c0 := S1.out.b.n
    have c1 := S1.out.b.s
    clear b1
    go_wp2_with fail
    refine (bRuns_ok n true a len cap ws _ S1.out.t S1.out.t.lt S1.out.s hw hlen).mono ?_
    rintro e w2 ⟨v, rfl, q2, b2⟩
    rw [HC.out]
    rw [HV1.out] at q2
    have S2 := Lib.hid (S1.out.below b2)
    have Q2 := Lib.hid q2
    have c2 := S2.out.b.n
    have c3 := S2.out.b.s
    clear b2 q2
    go_wp2_with fail
    refine (bRuns_ok n false a len cap ws _ S2.out.t S2.out.t.lt S2.out.s hw hlen).mono ?_
    rintro e w3 ⟨u, rfl, q3, b3⟩
    rw [HC.out]
    rw [HV2.out] at q3
    have S3 := Lib.hid (S2.out.below b3)
    have Q3 := Lib.hid (Q2.out.below b3)
    have P3 := Lib.hid q3
    have c4 := S3.out.b.n
    have c5 := S3.out.b.s
    clear b3 q3
    go_wp2_with fail
    refine (bCount_ok n 0 n a len cap ws _ S3.out.s hw hlen).mono ?_
    rintro e w4 ⟨rfl, B4⟩
    rw [HCV.out, HPR.out]
    have S4 := Lib.hid (S3.out.below B4)
    obtain ⟨la, lc, rfl, hl⟩ := Q3.out.below B4
    obtain ⟨ma, mc, rfl, hm⟩ := P3.out.below B4
    obtain ⟨ll, hll⟩ : ∃ ll, (runsL (bat ws) n).length = ll := ⟨_, rfl⟩
    obtain ⟨ml, hml⟩ : ∃ ml, (runsL (fun j => !bat ws j) n).length = ml := ⟨_, rfl⟩
    have hll4 : ll ≤ n + 1 := by rw [← hll]; exact runsL_length _ _
    have hml4 : ml ≤ n + 1 := by rw [← hml]; exact runsL_length _ _
    rw [hll] at hl ⊢
    rw [hml] at hm ⊢
    have HLL := Lib.hid hll
    have HML := Lib.hid hml
    have HRL := Lib.hid hl
    have HRM := Lib.hid hm
    have c6 := S4.out.b.n
    have c7 := S4.out.b.s
    clear B4 hll hml hl hm
    go_wp2
    go_loopw [7, 9, 10, 11] (fun x at_ i k wr => ∃ (A I K z : Nat), at_ = .int .i64 A ∧ i = .int .i64 I ∧ k = .int .i64 K ∧ x = .int .i64 z ∧ A ≤ n ∧ z ≤ n ∧ Hid (z + cnt (bat ws) 0 A = c) ∧ Hid (TurnAt (bat ws) n A I K) ∧ Hid (∃ d, wr = w4.drewN d)) (fun _ at_ _ _ _ => n - (intOf at_).toNat)
    case atStart => exact ⟨0, 0, 0, c, rfl, rfl, rfl, rfl, by omega, hcn, Lib.hid (by simp [cnt]), Lib.hid (TurnAt.start _ _), Lib.hid ⟨0, rfl⟩⟩
    case round =>
      obtain ⟨A, I, K, z, rfl, rfl, rfl, rfl, hA, hz, HZ, HTA, HD⟩ := hrel
      obtain ⟨d, hd⟩ := HD.out
      have HD1 := Lib.hid hd
      have S5 := Lib.hid (S4.out.below (below_draw w4 d))
      have hL5 := HRL.out.below (below_draw w4 d)
      have hM5 := HRM.out.below (below_draw w4 d)
      rw [← hd] at S5 hL5 hM5
      have HL5 := Lib.hid hL5
      have HM5 := Lib.hid hM5
      clear hd hL5 hM5
      have hstop := HTA.out.stop
      rw [HLL.out, HML.out] at hstop
      have hK := HTA.out.kl
      have hI := HTA.out.il
      rw [HML.out] at hK
      rw [HLL.out] at hI
      by_cases hlt : A < n
      · have hor : I < ll ∨ K < ml := by
          rcases Nat.lt_or_ge I ll with h | h
          · exact .inl h
          · rcases Nat.lt_or_ge K ml with h' | h'
            · exact .inr h'
            · exact absurd (hstop.2 (by omega)) (by omega)
        clear hstop
        by_cases hp : bat ws A = true
        · obtain ⟨b, hb1, hb2, hb3, hb4, hb5, hb6, hb7, hb8⟩ := HTA.out.set hlt hp
          have hIl : I < ll := by rw [← HLL.out]; exact hb3
          obtain ⟨gb, go, rfl, x1, x2⟩ := HL5.out.at_ hb3 hb4
          have HT2 := Lib.hid hb5
          have HCB := Lib.hid hb6
          have hIb : decide (I < ll) = true := by simpa using hIl
          have hIi : (I : Int) < (ll : Int) := by omega
          have hI0 : (0 : Int) ≤ (I : Int) := by omega
          have hzb : b - A ≤ z := by
            have h1 := HZ.out
            have h2 : cnt (bat ws) 0 b ≤ c := by
              have := cnt_mono (bat ws) b (n - b)
              rw [show b + (n - b) = n by omega, HCD.out] at this
              exact this
            omega
          have hbA : decide (b ≤ A) = false := by simp; omega
          have hbA2 : decide ((b : Int) ≤ (A : Int)) = false := by simp; omega
          clear hb3 hb4 hb5 hb6 hp hor hIl
          have hw1 : IntKind.i64.wrap ((b : Int) - (A : Int)) = ((b - A : Nat) : Int) := by
            rw [show (b : Int) - (A : Int) = ((b - A : Nat) : Int) by omega]; exact IntWalk.i64_in _ (by omega)
          have hw2 : IntKind.i64.wrap ((z : Int) - ((b - A : Nat) : Int)) = ((z - (b - A) : Nat) : Int) := by
            rw [show (z : Int) - ((b - A : Nat) : Int) = ((z - (b - A) : Nat) : Int) by omega]; exact IntWalk.i64_in _ (by omega)
          by_cases hK0 : K = 0
          · have hA0 : A = 0 := hb7 hK0
            subst hK0 hA0
            clear hb7 hb8 hK
            go_wp2_with fail
            go_quiet (fail)
            go_wp2_with fail
            exact ⟨⟨b, I + 1, 0, z - b, rfl, by simp, by simp, by congr 1; omega, hb2, by omega, Lib.hid (by have h1 := HZ.out; have h2 := HCB.out; omega), HT2, Lib.hid (drewN_of HD1.out _)⟩, by simp [intOf]; omega⟩
          · obtain ⟨K1, rfl⟩ : ∃ K1, K = K1 + 1 := ⟨K - 1, by omega⟩
            have hb9 := hb8 (by omega)
            rw [Nat.add_sub_cancel] at hb9
            obtain ⟨y0, hy0⟩ : ∃ y0, (runsL (fun j => !bat ws j) n).getD K1 (0, 0) = (y0, A) := ⟨((runsL (fun j => !bat ws j) n).getD K1 (0, 0)).1, by rw [← hb9]⟩
            have hk1 : K1 < (runsL (fun j => !bat ws j) n).length := by rw [HML.out]; omega
            obtain ⟨mb, mo, rfl, y1, y2⟩ := HM5.out.at_ hk1 hy0
            clear hk1
            have hkd : decide ((0 : Int) < ((K1 + 1 : Nat) : Int)) = true := by rw [decide_eq_true_eq]; omega
            clear hb7 hb8 hb9 hy0
            go_wp2_with fail
            go_quiet (fail)
            go_wp2_with fail
            exact ⟨⟨b, I + 1, K1 + 1, z - (b - A), rfl, by simp, by simp, rfl, hb2, by omega, Lib.hid (by have h1 := HZ.out; have h2 := HCB.out; omega), HT2, Lib.hid (drewN_of HD1.out _)⟩, by simp [intOf]; omega⟩
        · have hpf : bat ws A = false := by simpa using hp
          obtain ⟨b, hb1, hb2, hb3, hb4, hb5, hb6, hb7, hb8, hb9⟩ := HTA.out.clear hlt hpf
          have hKl : K < ml := by rw [← HML.out]; exact hb3
          obtain ⟨gb, go, rfl, x1, x2⟩ := HM5.out.at_ hb3 hb4
          have HT2 := Lib.hid hb5
          have HCB := Lib.hid hb6
          have hKb : decide (K < ml) = true := by simpa using hKl
          have hKi : (K : Int) < (ml : Int) := by omega
          have hK0 : (0 : Int) ≤ (K : Int) := by omega
          have hbA : decide (b ≤ A) = false := by simp; omega
          have hbA2 : decide ((b : Int) ≤ (A : Int)) = false := by simp; omega
          have HN := Lib.hid hb9
          clear hb3 hb4 hb5 hb6 hb9 hp hpf hor hKl
          by_cases hI0 : I = 0
          · have hA0 : A = 0 := hb7 hI0
            subst hI0 hA0
            clear hb7 hb8 hI
            by_cases hIl : 0 < ll
            · have hk1 : 0 < (runsL (bat ws) n).length := by rw [HLL.out]; omega
              obtain ⟨⟨f, g⟩, hy0⟩ : ∃ y0, (runsL (bat ws) n).getD 0 (0, 0) = y0 := ⟨_, rfl⟩
              have hne := HN.out hk1
              rw [hy0] at hne
              obtain ⟨mb, mo, rfl, y1, y2⟩ := HL5.out.at_ hk1 hy0
              have y3 : wr.cell? ⟨mb, mo, none⟩ = some (.int .i64 (f : Nat)) := by simpa using y1
              have hfe : ((f : Int) == 0) = false := by rw [beq_eq_false_iff_ne]; dsimp only at hne; omega
              have hlb : decide (0 < ll) = true := by simpa using hIl
              have hli : (0 : Int) < (ll : Int) := by omega
              clear hk1 hy0 hne
              go_wp2_with fail
              exact ⟨⟨b, 0, K + 1, z, rfl, by simp, by simp, rfl, hb2, hz, Lib.hid (by have h1 := HZ.out; have h2 := HCB.out; omega), HT2, HD⟩, by simp [intOf]; omega⟩
            · have hlb : decide (0 < ll) = false := by simpa using hIl
              go_wp2_with fail
              exact ⟨⟨b, 0, K + 1, z, rfl, by simp, by simp, rfl, hb2, hz, Lib.hid (by have h1 := HZ.out; have h2 := HCB.out; omega), HT2, HD⟩, by simp [intOf]; omega⟩
          · obtain ⟨I1, rfl⟩ : ∃ I1, I = I1 + 1 := ⟨I - 1, by omega⟩
            have hb10 := hb8 (by omega)
            rw [Nat.add_sub_cancel] at hb10
            obtain ⟨y0, hy0⟩ : ∃ y0, (runsL (bat ws) n).getD I1 (0, 0) = (y0, A) := ⟨((runsL (bat ws) n).getD I1 (0, 0)).1, by rw [← hb10]⟩
            have hk1 : I1 < (runsL (bat ws) n).length := by rw [HLL.out]; omega
            obtain ⟨mb, mo, rfl, y1, y2⟩ := HL5.out.at_ hk1 hy0
            clear hk1
            have hkd : decide ((0 : Int) < ((I1 + 1 : Nat) : Int)) = true := by rw [decide_eq_true_eq]; omega
            clear hb7 hb8 hb10 hy0
            by_cases hIl : I1 + 1 < ll
            · have hk1 : I1 + 1 < (runsL (bat ws) n).length := by rw [HLL.out]; omega
              obtain ⟨⟨f, g⟩, hy0⟩ : ∃ y0, (runsL (bat ws) n).getD (I1 + 1) (0, 0) = y0 := ⟨_, rfl⟩
              have hne := HN.out hk1
              rw [hy0] at hne
              obtain ⟨mb, mo, he, z1, z2⟩ := HL5.out.at_ hk1 hy0
              cases he
              have hfe : ((f : Int) == (A : Int)) = false := by rw [beq_eq_false_iff_ne]; dsimp only at hne; omega
              have hlb : decide (I1 + 1 < ll) = true := by simpa using hIl
              have hli : ((I1 + 1 : Nat) : Int) < (ll : Int) := by omega
              clear hk1 hy0 hne
              go_wp2_with fail
              exact ⟨⟨b, I1 + 1, K + 1, z, rfl, by simp, by simp, rfl, hb2, hz, Lib.hid (by have h1 := HZ.out; have h2 := HCB.out; omega), HT2, HD⟩, by simp [intOf]; omega⟩
            · have hlb : decide (I1 + 1 < ll) = false := by simpa using hIl
              go_wp2_with fail
              exact ⟨⟨b, I1 + 1, K + 1, z, rfl, by simp, by simp, rfl, hb2, hz, Lib.hid (by have h1 := HZ.out; have h2 := HCB.out; omega), HT2, HD⟩, by simp [intOf]; omega⟩
      · have hAn : A = n := by omega
        have hno := hstop.1 hAn
        have hz0 : z = 0 := by
          have h1 := HZ.out
          rw [hAn, HCD.out] at h1
          omega
        subst hz0 hAn
        have hlb : decide (I < ll) = false := by simp; omega
        have hmb : decide (K < ml) = false := by simp; omega
        have c8 := S5.out.b.n
        clear hstop hno
        go_wp2_with (go_at_call 14; refine (awake_ok _ S5.out.t).mono ?_; rintro e w6 ⟨rfl, b6⟩; replace S6 := Lib.hid (S5.out.below b6))
        go_ret
        exact ⟨rfl, S6.out.k⟩
  · have hne := bne0_true hc
    clear hc
    go_enter Tryd.func6, Tryd.ntmps6
    go_wp2_with fail
    refine (rCheck_ok N a len cap ws _ S0.out.s hw hlen).mono ?_
    rintro e w1 ⟨rfl, b1⟩
    have S1 := Lib.hid (S0.out.below b1)
    clear b1
    go_wp2_with fail
    refine (awake_ok _ S1.out.t).mono ?_
    rintro e w2 ⟨rfl, b2⟩
    have S2 := Lib.hid (S1.out.below b2)
    clear b2
    go_wp2
    go_ret
    exact ⟨rfl, S2.out.k⟩
end Go.Proofs.YtikdgnfcckenmaaDoor
