/- Bits: BitsSearch returns true. -/
import Derived.Test.YtikdgnfcckenmaaDoorBAwake
import Derived.Test.YtikdgnfcckenmaaDoorPlainU
import Derived.Test.YtikdgnfcckenmaaDoorRefA
namespace Go.Proofs.YtikdgnfcckenmaaDoor
open Go.RowKit Go.Sort Go.Joins
attribute [local go_sem] cell_grow frozen_grow size_grow

/-- the bits b, in a box, in a later world -/
structure SAt (w : World) (N : Int) (a : Option Addr) (len cap : Nat) (ws : List Nat) (W : World) : Prop where
  b : AtBits W w.heap.size N a len cap
  s : SlK .u64 W a len ws
  t : Tab W
  k : Below w.heap.size w W
  l : w.heap.size < W.heap.size
theorem SAt.below {w : World} {N : Int} {a : Option Addr} {len cap : Nat} {ws : List Nat} {W W' : World} (h : SAt w N a len cap ws W) (hb : Below W.heap.size W W') : SAt w N a len cap ws W' :=
  ⟨h.b.below hb, h.s.below hb, h.t.below hb, h.k.trans (hb.mono (Nat.le_of_lt h.l)), Nat.lt_of_lt_of_le h.l hb.size⟩

section
variable {w : World} {n : Nat} {a : Option Addr} {len cap : Nat} {ws : List Nat} {W : World}
theorem sfit (S : SAt w n a len cap ws W) (hw : ∀ x ∈ ws, x < 18446744073709551616) (hc : chk n ws = 0) (m : Nat) (o : Option (Nat × Nat)) (h : fitR (gMax 0) m (runsL (look ws false) n) = o) (h1 : 1 ≤ m) (h2 : m ≤ 9223372036854775807) :
    Calls Tryd.prog 15 #[.agg #[.int .i64 n, .slice a len cap], .int .i64 m, .int .i64 0] W fun e w' => e = .returned (fitOut (gMax 0) o) ∧ SAt w n a len cap ws w' :=
  (bFit_ok n m 0 a len cap ws W S.t S.t.lt S.s hw hc h1 (Nat.zero_le _) h2).mono fun _ _ k => ⟨by rw [k.1, h], S.below k.2⟩
theorem sbest (S : SAt w n a len cap ws W) (hw : ∀ x ∈ ws, x < 18446744073709551616) (hc : chk n ws = 0) (m : Nat) (o : Nat × Nat) (h : bestF m (runsL (look ws false) n) = o) (h1 : 1 ≤ m) (h2 : m ≤ 9223372036854775807) :
    Calls Tryd.prog 17 #[.agg #[.int .i64 n, .slice a len cap], .int .i64 m] W fun e w' => e = .returned (bestOut o) ∧ SAt w n a len cap ws w' :=
  (bBest_ok n m a len cap ws W S.t S.t.lt S.s hw hc h1 h2).mono fun _ _ k => ⟨by rw [k.1, h], S.below k.2⟩
theorem sblock (S : SAt w n a len cap ws W) (hw : ∀ x ∈ ws, x < 18446744073709551616) (hc : chk n ws = 0) (k : Nat) (o : Option (Nat × Nat)) (h : fitR (gAl (2 ^ k)) (2 ^ k) (runsL (look ws false) n) = o) (h1 : k ≤ 12) :
    Calls Tryd.prog 19 #[.agg #[.int .i64 n, .slice a len cap], .int .i64 k] W fun e w' => e = .returned (fitOut (gAl (2 ^ k)) o) ∧ SAt w n a len cap ws w' :=
  (bBlock_ok n k a len cap ws W S.t S.t.lt S.s hw hc h1).mono fun _ _ k => ⟨by rw [k.1, h], S.below k.2⟩
theorem scount (S : SAt w n a len cap ws W) (hw : ∀ x ∈ ws, x < 18446744073709551616) (hc : chk n ws = 0) (x y : Nat) (hxy : x ≤ y) (hy : y ≤ n) (h : cnt (bat ws) x y = 0) :
    Calls Tryd.prog 22 #[.agg #[.int .i64 n, .slice a len cap], .int .i64 x, .int .i64 y] W fun e w' => e = .returned (.tuple #[.int .i64 0, .int .i64 0]) ∧ SAt w n a len cap ws w' := by
  obtain ⟨_, hn, hl, _⟩ := chk_zero hc
  have hp : prt n ws x y = 0 := prt_ok hc (by omega)
  refine (bCount_ok n x y a len cap ws W S.s hw (by have := S.s.length; omega)).mono fun _ _ k => ⟨k.1.trans (ret_two ?_ hp), S.below k.2⟩
  unfold cntV
  rw [if_pos hp, Int.toNat_natCast, Int.toNat_natCast, h]; rfl
theorem snext (S : SAt w n a len cap ws W) (hw : ∀ x ∈ ws, x < 18446744073709551616) (hc : chk n ws = 0) (x y : Nat) (hx : x ≤ n) (h : nxt (look ws true) x n = y) (hy : y < n) :
    Calls Tryd.prog 23 #[.agg #[.int .i64 n, .slice a len cap], .int .i64 x, .bool true] W fun e w' => e = .returned (.tuple #[.int .i64 y, .int .i64 0]) ∧ SAt w n a len cap ws w' := by
  obtain ⟨_, hn, hl, _⟩ := chk_zero hc
  have hp : prt n ws 0 x = 0 := prt_ok hc (by omega)
  refine (bNext_ok n x true a len cap ws W S.t S.s hw (by have := S.s.length; omega)).mono fun _ _ k => ⟨k.1.trans (ret_two ?_ ?_), S.below k.2⟩
  · unfold nextV
    rw [if_pos ⟨hp, by rw [Int.toNat_natCast, Int.toNat_natCast, h]; exact hy⟩, Int.toNat_natCast, Int.toNat_natCast, h]
  · unfold nextE
    rw [if_neg (by simp [hp]), if_pos (by rw [Int.toNat_natCast, Int.toNat_natCast, h]; exact hy)]
theorem fitOut0 (f : Nat × Nat) : fitOut (gMax 0) (some f) = .tuple #[.int .i64 (f.1 : Nat), .int .i64 0] := by
  show Value.tuple #[.int .i64 ((gMax 0 f : Nat) : Int), .int .i64 0] = _
  rw [gMax0]
theorem sawake (S : SAt w n a len cap ws W) : Calls Tryd.prog 14 #[] W fun e w' => e = .returned (.bool true) ∧ SAt w n a len cap ws w' :=
  (awake_ok W S.t).mono fun _ _ k => ⟨k.1, S.below k.2⟩
end

set_option maxRecDepth 100000 in
set_option maxHeartbeats 3200000 in
theorem law_search (N : Int) (sz od : Nat) (a : Option Addr) (len cap : Nat) (ws : List Nat) (w : World) (hT : Tab w) (hs : SlK .u64 w a len ws) (hw : ∀ x ∈ ws, x < 18446744073709551616) (hlen : len ≤ 9223372036854775807) (hsz : sz ≤ 65535) (hod : od ≤ 255) :
    Calls Tryd.prog 4 #[.agg #[.int .i64 N, .slice a len cap], .int .u16 sz, .int .u8 od] w fun e w' => e = .returned (.bool true) ∧ Below w.heap.size w w' := by
  have HT := Lib.hid hT
  clear hT
  by_cases hc : chk N ws = 0
  · obtain ⟨hn0, hn1, hn2, -⟩ := chk_zero hc
    obtain ⟨n, rfl⟩ := Int.eq_ofNat_of_zero_le hn0
    have HC := Lib.hid hc
    have HN := Lib.hid hn2
    clear hn2 hc
    obtain ⟨m, hm⟩ : ∃ m, 1 + sz = m := ⟨_, rfl⟩
    have hX : (1 : Int) + (sz : Int) = (m : Int) := by omega
    obtain ⟨k, hk⟩ : ∃ k, od % 13 = k := ⟨_, rfl⟩
    have hX2 : (od : Int) % 13 = (k : Int) := by omega
    have hm1 : 1 ≤ m := by omega
    have hm2 : m ≤ 65536 := by omega
    have hk2 : k ≤ 12 := by omega
    obtain ⟨S, hSd⟩ : ∃ S : Nat, 2 ^ k = S := ⟨_, rfl⟩
    have hS1 : 1 ≤ S := by rw [← hSd]; exact Nat.two_pow_pos k
    have hS2 : S ≤ 4096 := by rw [← hSd]; exact Nat.le_trans (Nat.pow_le_pow_right (by decide) hk2) (by decide)
    have hX3 : wrap64 (2 ^ k) = (S : Int) := by
      rw [← hSd, IntWalk.wrap64_in _ (by have : ((2 : Int) ^ k) = ((2 ^ k : Nat) : Int) := by simp
                                         rw [this, hSd]; omega)]
      simp
    have HSd := Lib.hid hSd
    have HM := Lib.hid hm
    have HK := Lib.hid hk
    clear hm hk hSd
    cases hf : fitR (gMax 0) m (runsL (look ws false) n) with
    | none =>
      have hb := search_none (by omega) hf
      have HF := Lib.hid hf
      have HBt := Lib.hid hb
      clear hf hb
      go_enter Tryd.func4, Tryd.ntmps4
      go_wp2_with fail
      refine (rCheck_ok n a len cap ws _ (hs.alloc _) hw hlen).mono ?_
      rintro e w1 ⟨rfl, b1⟩
      rw [HC.out]
      have S1 : Hid (SAt w n a len cap ws w1) := Lib.hid ((SAt.mk (AtBits.new w n a len cap _) (hs.alloc _) (HT.out.alloc _) (below_box0 _ _) (by simp)).below b1)
      have c0 := S1.out.b.n
      have c1 := S1.out.b.s
      clear b1
      go_wp2_with fail
      refine (sfit S1.out hw HC.out m none HF.out hm1 (by omega)).mono ?_
      rintro e w2 ⟨rfl, s2⟩
      have S2 := Lib.hid s2
      have c2 := S2.out.b.n
      have c3 := S2.out.b.s
      clear s2
      rw [show fitOut (gMax 0) none = .tuple #[.int .i64 0, .int .i64 4] from rfl]
      go_wp2_with fail
      refine (sbest S2.out hw HC.out m _ HBt.out hm1 (by omega)).mono ?_
      rintro e w3 ⟨rfl, s3⟩
      have S3 := Lib.hid s3
      have c4 := S3.out.b.n
      have c5 := S3.out.b.s
      clear s3
      rw [show bestOut (0, 4097) = .tuple #[.int .i64 0, .int .i64 4] from rfl]
      go_wp2_with fail
      cases hbk : fitR (gAl S) S (runsL (look ws false) n) with
      | none =>
        have HBk := Lib.hid hbk
        clear hbk
        refine (sblock S3.out hw HC.out k none (by rw [HSd.out]; exact HBk.out) hk2).mono ?_
        rintro e w4 ⟨rfl, s4⟩
        have S4 := Lib.hid s4
        clear s4
        rw [show fitOut (gAl (2 ^ k)) none = .tuple #[.int .i64 0, .int .i64 4] from rfl]
        go_wp2_with (go_at_call 14; refine (sawake S4.out).mono ?_; rintro e w5 ⟨rfl, s5⟩; have S5 := Lib.hid s5; clear s5)
        go_ret
        exact ⟨rfl, S5.out.k⟩
      | some q =>
        obtain ⟨q1, q2, q3, f, q4, q5⟩ := search_block hS1 hbk
        have HBk := Lib.hid hbk
        obtain ⟨v, hv⟩ : ∃ v, gAl S q = v := ⟨_, rfl⟩
        rw [hv] at q1 q2 q3 q5
        have HV := Lib.hid hv
        have HQ4 := Lib.hid q4
        have hmod : ((v : Int) % (S : Int) == 0) = true := by
          rw [show (v : Int) % (S : Int) = ((v % S : Nat) : Int) by simp, q2]; rfl
        have hle : decide (f.1 ≤ v) = true := by simpa using q5
        have HQ3 := Lib.hid q3
        clear hbk hv q4 q3 q2
        refine (sblock S3.out hw HC.out k (some q) (by rw [HSd.out]; exact HBk.out) hk2).mono ?_
        rintro e w4 ⟨rfl, s4⟩
        have S4 := Lib.hid s4
        have c6 := S4.out.b.n
        have c7 := S4.out.b.s
        clear s4
        rw [show fitOut (gAl (2 ^ k)) (some q) = .tuple #[.int .i64 v, .int .i64 0] by rw [HSd.out, ← HV.out]; rfl]
        go_wp2_with fail
        have H := scount S4.out hw HC.out v (v + S) (by omega) q1 HQ3.out
        rw [Int.natCast_add] at H
        refine H.mono ?_
        clear H
        rintro e w5 ⟨rfl, s5⟩
        have S5 := Lib.hid s5
        have c8 := S5.out.b.n
        have c9 := S5.out.b.s
        clear s5
        go_wp2_with fail
        refine (sfit S5.out hw HC.out S (some f) HQ4.out hS1 (by omega)).mono ?_
        rintro e w6 ⟨rfl, s6⟩
        have S6 := Lib.hid s6
        clear s6
        rw [fitOut0]
        go_wp2_with (go_at_call 14; refine (sawake S6.out).mono ?_; rintro e w5 ⟨rfl, s5⟩; have S7 := Lib.hid s5; clear s5)
        go_ret
        exact ⟨rfl, S7.out.k⟩
    | some r =>
      obtain ⟨c, hb, ⟨r1, r2⟩, ⟨p1, p2⟩, hrc, t1, t2⟩ := search_some (by omega) hf
      have hit := fun x (hx : x < r.1) => search_hit hm1 hf hx
      have HIT := Lib.hid hit
      have HF := Lib.hid hf
      have HBt := Lib.hid hb
      have hbo : bestOut c = .tuple #[.int .i64 (c.1 : Nat), .int .i64 0] := by unfold bestOut; rw [if_neg (by omega)]
      have HBO := Lib.hid hbo
      have HT1 := Lib.hid t1
      have HT2 := Lib.hid t2
      obtain ⟨A, hA⟩ : ∃ A, r.1 = A := ⟨_, rfl⟩
      have hd1 : decide (c.1 < A) = false := by simp; omega
      have HAA := Lib.hid hA
      rw [hA] at r1
      clear hf hb hbo t1 t2 hit hrc
      go_enter Tryd.func4, Tryd.ntmps4
      go_wp2_with fail
      refine (rCheck_ok n a len cap ws _ (hs.alloc _) hw hlen).mono ?_
      rintro e w1 ⟨rfl, b1⟩
      rw [HC.out]
      have S1 : Hid (SAt w n a len cap ws w1) := Lib.hid ((SAt.mk (AtBits.new w n a len cap _) (hs.alloc _) (HT.out.alloc _) (below_box0 _ _) (by simp)).below b1)
      have c0 := S1.out.b.n
      have c1 := S1.out.b.s
      clear b1
      go_wp2_with fail
      refine (sfit S1.out hw HC.out m (some r) HF.out hm1 (by omega)).mono ?_
      rintro e w2 ⟨rfl, s2⟩
      have S2 := Lib.hid s2
      have c2 := S2.out.b.n
      have c3 := S2.out.b.s
      clear s2
      rw [fitOut0, HAA.out]
      go_wp2_with fail
      refine (sbest S2.out hw HC.out m _ HBt.out hm1 (by omega)).mono ?_
      rintro e w3 ⟨rfl, s3⟩
      have S3 := Lib.hid s3
      have c4 := S3.out.b.n
      have c5 := S3.out.b.s
      clear s3
      rw [HBO.out]
      go_wp2_with fail
      have H := scount S3.out hw HC.out A (A + m) (by omega) (by omega) (by rw [← HAA.out]; exact HT1.out)
      rw [Int.natCast_add] at H
      refine H.mono ?_
      clear H
      rintro e w4 ⟨rfl, s4⟩
      have S4 := Lib.hid s4
      have c6 := S4.out.b.n
      have c7 := S4.out.b.s
      clear s4
      go_wp2_with fail
      have H := scount S4.out hw HC.out c.1 (c.1 + m) (by omega) (by omega) HT2.out
      rw [Int.natCast_add] at H
      refine H.mono ?_
      clear H
      rintro e w5 ⟨rfl, s5⟩
      have S5 := Lib.hid s5
      have c8 := S5.out.b.n
      have c9 := S5.out.b.s
      clear s5
      go_wp2_with fail
      go_loopw [17] (fun i wr => ∃ x : Nat, i = .int .i64 x ∧ x ≤ A ∧ Hid (SAt w n a len cap ws wr)) (fun i _ => A - (intOf i).toNat)
      case atStart => exact ⟨0, rfl, Nat.zero_le _, S5⟩
      case round =>
        obtain ⟨x, rfl, hx, S3⟩ := hrel
        have d4 := S3.out.b.n
        have d5 := S3.out.b.s
        by_cases hlt : x < A
        · have h1 := HIT.out x (by rw [HAA.out]; exact hlt)
          obtain ⟨y, hy⟩ : ∃ y, nxt (look ws true) x n = y := ⟨_, rfl⟩
          rw [hy] at h1
          have HY := Lib.hid hy
          have hdn : decide (x + m ≤ y) = false := by simp; omega
          have hdi : decide ((x : Int) + (m : Int) ≤ (y : Int)) = false := by simp; omega
          clear hy
          go_wp2_with fail
          refine (snext S3.out hw HC.out x y (by omega) HY.out (by omega)).mono ?_
          rintro e w6 ⟨rfl, s6⟩
          have S6 := Lib.hid s6
          clear s6
          go_wp2
          exact ⟨⟨x + 1, by simp, by omega, S6⟩, by simp [intOf]; omega⟩
        · go_wp2_with fail
          cases hbk : fitR (gAl S) S (runsL (look ws false) n) with
          | none =>
            have HBk := Lib.hid hbk
            clear hbk
            refine (sblock S3.out hw HC.out k none (by rw [HSd.out]; exact HBk.out) hk2).mono ?_
            rintro e w4 ⟨rfl, s4⟩
            have S4 := Lib.hid s4
            clear s4
            rw [show fitOut (gAl (2 ^ k)) none = .tuple #[.int .i64 0, .int .i64 4] from rfl]
            go_wp2_with (go_at_call 14; refine (sawake S4.out).mono ?_; rintro e w5 ⟨rfl, s5⟩; have S5 := Lib.hid s5; clear s5)
            go_ret
            exact ⟨rfl, S5.out.k⟩
          | some q =>
            obtain ⟨q1, q2, q3, f, q4, q5⟩ := search_block hS1 hbk
            have HBk := Lib.hid hbk
            obtain ⟨v, hv⟩ : ∃ v, gAl S q = v := ⟨_, rfl⟩
            rw [hv] at q1 q2 q3 q5
            have HV := Lib.hid hv
            have HQ4 := Lib.hid q4
            have hmod : ((v : Int) % (S : Int) == 0) = true := by
              rw [show (v : Int) % (S : Int) = ((v % S : Nat) : Int) by simp, q2]; rfl
            have hle : decide (f.1 ≤ v) = true := by simpa using q5
            have HQ3 := Lib.hid q3
            clear hbk hv q4 q3 q2
            refine (sblock S3.out hw HC.out k (some q) (by rw [HSd.out]; exact HBk.out) hk2).mono ?_
            rintro e w4 ⟨rfl, s4⟩
            have S4 := Lib.hid s4
            have c6 := S4.out.b.n
            have c7 := S4.out.b.s
            clear s4
            rw [show fitOut (gAl (2 ^ k)) (some q) = .tuple #[.int .i64 v, .int .i64 0] by rw [HSd.out, ← HV.out]; rfl]
            go_wp2_with fail
            have H := scount S4.out hw HC.out v (v + S) (by omega) q1 HQ3.out
            rw [Int.natCast_add] at H
            refine H.mono ?_
            clear H
            rintro e w5 ⟨rfl, s5⟩
            have S5 := Lib.hid s5
            have c8 := S5.out.b.n
            have c9 := S5.out.b.s
            clear s5
            go_wp2_with fail
            refine (sfit S5.out hw HC.out S (some f) HQ4.out hS1 (by omega)).mono ?_
            rintro e w6 ⟨rfl, s6⟩
            have S6 := Lib.hid s6
            clear s6
            rw [fitOut0]
            go_wp2_with (go_at_call 14; refine (sawake S6.out).mono ?_; rintro e w5 ⟨rfl, s5⟩; have S7 := Lib.hid s5; clear s5)
            go_ret
            exact ⟨rfl, S7.out.k⟩
  · have hne := bne0_true hc
    have HC2 := Lib.hid hc
    clear hc
    go_enter Tryd.func4, Tryd.ntmps4
    go_wp2_with fail
    refine (rCheck_ok N a len cap ws _ (hs.alloc _) hw hlen).mono ?_
    rintro e w1 ⟨rfl, b1⟩
    have HB1 := Lib.hid ((below_box0 w _).trans (b1.mono (by simp)))
    have X1 := Lib.hid ((HT.out.alloc _).below b1)
    clear b1
    go_wp2_with fail
    refine (awake_ok _ X1.out).mono ?_
    rintro e w2 ⟨rfl, b2⟩
    have HB2 := Lib.hid (HB1.out.trans (b2.mono HB1.out.size))
    clear b2
    go_wp2
    go_ret
    exact ⟨rfl, HB2.out⟩
end Go.Proofs.YtikdgnfcckenmaaDoor
