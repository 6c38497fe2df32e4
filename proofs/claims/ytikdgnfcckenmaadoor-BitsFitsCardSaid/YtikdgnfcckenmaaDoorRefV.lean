/- The reference for bits: Best. -/
import Derived.Test.YtikdgnfcckenmaaDoorRefU
namespace Go.Proofs.YtikdgnfcckenmaaDoor
open Go.RowKit Go.Sort Go.Joins
attribute [local go_sem] cell_grow frozen_grow size_grow

/-- what Best returns -/
def bstE (N : Int) (ws : List Nat) (m : Int) : Int := if chk N ws ≠ 0 then chk N ws else if m < 1 then 2 else if 4096 < (bestF m.toNat (runsL (look ws false) N.toNat)).2 then 4 else 0
def bstV (N : Int) (ws : List Nat) (m : Int) : Int := if bstE N ws m = 0 then (((bestF m.toNat (runsL (look ws false) N.toNat)).1 : Nat) : Int) else 0
theorem bst_good {n m : Nat} {ws : List Nat} (hc : chk n ws = 0) (hm : 1 ≤ m) : bestOut (bestF m (runsL (look ws false) n)) = .tuple #[.int .i64 (bstV n ws m), .int .i64 (bstE n ws m)] := by
  have hE : bstE n ws m = if 4096 < (bestF m (runsL (look ws false) n)).2 then 4 else 0 := by
    unfold bstE
    rw [if_neg (by simpa using hc), if_neg (by omega)]; rfl
  unfold bstV bestOut
  rw [hE, Int.toNat_natCast, Int.toNat_natCast]
  by_cases h : 4096 < (bestF m (runsL (look ws false) n)).2
  · simp [h]
  · simp [h]
theorem rl_get {p : Nat → Bool} {n k : Nat} (h : k < (runsL p n).length) : ((runsL p n).getD k (0, 0)).1 < ((runsL p n).getD k (0, 0)).2 ∧ ((runsL p n).getD k (0, 0)).2 ≤ n := by
  have hm : (runsL p n).getD k (0, 0) ∈ runsL p n := by
    rw [List.getD_eq_getElem?_getD, List.getElem?_eq_getElem h]; exact List.getElem_mem h
  exact ⟨(runsL_mem hm).1, (runsL_mem hm).2.1⟩

set_option maxRecDepth 100000 in
set_option maxHeartbeats 3200000 in
theorem rBest_ok (N m : Int) (a : Option Addr) (len cap : Nat) (ws : List Nat) (w : World) (hs : SlK .u64 w a len ws) (hw : ∀ x ∈ ws, x < 18446744073709551616) (hlen : len ≤ 9223372036854775807) (hm63 : m ≤ 9223372036854775807) :
    Calls Tryd.prog 18 #[.agg #[.int .i64 N, .slice a len cap], .int .i64 m] w fun e w' => e = .returned (.tuple #[.int .i64 (bstV N ws m), .int .i64 (bstE N ws m)]) ∧ Below w.heap.size w w' := by
  by_cases hc : chk N ws = 0
  · have HC := Lib.hid hc
    obtain ⟨hN0, hN, hl, -⟩ := chk_zero hc
    obtain ⟨n, rfl⟩ := Int.eq_ofNat_of_zero_le hN0
    have hn : n ≤ 4096 := by omega
    by_cases hm : m < 1
    · have E : Hid (bstE n ws m = 2) := Lib.hid (by unfold bstE; rw [if_neg (by simpa using hc), if_pos hm])
      have V : Hid (bstV n ws m = 0) := Lib.hid (by unfold bstV; rw [E.out]; rfl)
      clear hc hl
      go_enter Tryd.func18, Tryd.ntmps18
      go_wp2_with fail
      refine (r_check (RAt.new hs _) hw hlen).mono ?_
      rintro e w1 ⟨rfl, r1⟩
      rw [HC.out]
      have R1 := Lib.hid r1
      clear r1
      go_wp2
      go_ret2
      exact ⟨ret_two V.out.symm E.out.symm, R1.out.k⟩
    · obtain ⟨m, rfl⟩ := Int.eq_ofNat_of_zero_le (by omega : 0 ≤ m)
      have hmd : decide ((m : Int) < 1) = false := by simpa using hm
      have HG := Lib.hid (bst_good (n := n) (m := m) hc (by omega))
      have hL := hs.length
      have HL : Hid (len = (n + 63) / 64) := Lib.hid (by omega)
      clear hc hl hm hL
      go_enter Tryd.func18, Tryd.ntmps18
      go_wp2_with fail
      refine (r_check (RAt.new hs _) hw hlen).mono ?_
      rintro e w1 ⟨rfl, r1⟩
      have c0 := r1.b.n
      have c1 := r1.b.s
      rw [HC.out]
      have R1 := Lib.hid r1
      clear r1
      go_wp2_with fail
      refine (rList_ok n a len cap ws _ R1.out.s hw hn HL.out).mono ?_
      rintro e w2 ⟨v, rfl, h1, b2⟩
      obtain ⟨va, vc, rfl⟩ := own_slice h1
      have R2 := Lib.hid (R1.out.below b2)
      have HB := Lib.hid (SlB.of_own h1)
      clear h1 b2
      go_wp2_with fail
      refine (rruns_ok n (bat ws) false va vc _ HB.out hn).mono ?_
      rintro e w3 ⟨v, rfl, h1, b3⟩
      have hl1 := runsL_length (look ws false) n
      have hget := fun k => rl_get (p := look ws false) (n := n) (k := k)
      obtain ⟨L, hLd⟩ : ∃ L, runsL (look ws false) n = L := ⟨_, rfl⟩
      have h2 : w3.ownsRow w2.heap.size 43 2 v L.length (rcells L) := by rw [← hLd]; exact h1
      rw [hLd] at hget hl1
      obtain ⟨ra, rc, rfl, h3⟩ := RunsR.of_own h2
      have HR := Lib.hid h3
      have R3 := Lib.hid (R2.out.below b3)
      have HLd := Lib.hid hLd
      have HGET := Lib.hid hget
      clear h1 b3 h2 h3 hLd hget
      go_wp2
      obtain ⟨ln, hln⟩ : ∃ ln, L.length = ln := ⟨_, rfl⟩
      rw [hln]
      rw [hln] at hl1
      have HLN := Lib.hid hln
      clear hln
      go_loopw [8, 9] (fun b x wr => ∃ (k : Nat) (bi : Int), b = .int .i64 bi ∧ x = .int .i64 k ∧ k ≤ ln ∧ -1 ≤ bi ∧ bi < ln ∧ Hid (BestAt m L k bi) ∧ Hid (∃ d, wr = w3.drewN d)) (fun _ x _ => ln - (intOf x).toNat)
      case atStart => exact ⟨0, -1, rfl, rfl, Nat.zero_le _, by omega, by omega, Lib.hid (BestAt.start m L), Lib.hid ⟨0, rfl⟩⟩
      case round =>
        obtain ⟨k, bi, rfl, rfl, hk, hb1, hb2, HBE, HD⟩ := hrel
        obtain ⟨d, hd⟩ := HD.out
        have HD1 := Lib.hid hd
        have hr := HR.out.below (below_draw w3 d)
        rw [← hd] at hr
        have R4 := Lib.hid (R3.out.below (below_draw w3 d))
        clear hd
        by_cases hlt : k < ln
        · obtain ⟨gb, go, rfl, hc⟩ := hr.cells.resolve_left (by have := HLN.out; omega)
          obtain ⟨c2, c3⟩ := hc k (by have := HLN.out; omega)
          obtain ⟨g1, g2⟩ := HGET.out k (by rw [HLN.out]; exact hlt)
          obtain ⟨f, hf⟩ : ∃ f, (L.getD k (0, 0)).1 = f := ⟨_, rfl⟩
          obtain ⟨t, ht⟩ : ∃ t, (L.getD k (0, 0)).2 = t := ⟨_, rfl⟩
          rw [hf] at c2 g1
          rw [ht] at c3 g1 g2
          have HF := Lib.hid hf
          have HTT := Lib.hid ht
          have hlti : (k : Int) < (ln : Int) := by omega
          have hk0 : (0 : Int) ≤ (k : Int) := by omega
          have hkl : k < L.length := by rw [HLN.out]; exact hlt
          have HKL := Lib.hid hkl
          clear hf ht hkl
          by_cases hsz : m ≤ t - f
          · have hszd : decide ((m : Int) ≤ (t : Int) - (f : Int)) = true := by simp; omega
            by_cases hb0 : bi < 0
            · obtain rfl : bi = -1 := by omega
              have hbd : decide ((-1 : Int) < 0) = true := rfl
              clear hc hr c0 c1
              go_wp2
              go_quiet (fail)
              go_wp2
              go_roundw
              case rel => exact ⟨k + 1, k, rfl, by go_num, by omega, by omega, by omega, Lib.hid (HBE.out.first HKL.out (by rw [HF.out, HTT.out]; exact hsz) (by rw [HTT.out]; omega)), Lib.hid (drewN_of HD1.out _)⟩
              case measure => simp [intOf]; omega
            · obtain ⟨i, rfl⟩ := Int.eq_ofNat_of_zero_le (by omega : 0 ≤ bi)
              have hbd : decide ((i : Int) < 0) = false := by simp
              obtain ⟨c4, c5⟩ := hc i (by have := HLN.out; omega)
              obtain ⟨g3, g4⟩ := HGET.out i (by rw [HLN.out]; omega)
              obtain ⟨f', hf⟩ : ∃ f, (L.getD i (0, 0)).1 = f := ⟨_, rfl⟩
              obtain ⟨t', ht⟩ : ∃ t, (L.getD i (0, 0)).2 = t := ⟨_, rfl⟩
              rw [hf] at c4 g3
              rw [ht] at c5 g3 g4
              have HF2 := Lib.hid hf
              have HTT2 := Lib.hid ht
              have hii : (i : Int) < (ln : Int) := by omega
              have hi0 : (0 : Int) ≤ (i : Int) := by omega
              clear hf ht hc hr c0 c1
              by_cases hbt : t - f < t' - f'
              · have hbtd : decide ((t : Int) - (f : Int) < (t' : Int) - (f' : Int)) = true := by simp; omega
                go_wp2
                go_quiet (fail)
                go_wp2
                go_roundw
                case rel => exact ⟨k + 1, k, rfl, by go_num, by omega, by omega, by omega, Lib.hid (HBE.out.better HKL.out (by rw [HF.out, HTT.out]; exact hsz) (by rw [HTT.out]; omega) (by rw [HF.out, HTT.out, HF2.out, HTT2.out]; exact hbt)), Lib.hid (drewN_of HD1.out _)⟩
                case measure => simp [intOf]; omega
              · have hbtd : decide ((t : Int) - (f : Int) < (t' : Int) - (f' : Int)) = false := by simp; omega
                go_wp2
                go_quiet (fail)
                go_wp2
                go_roundw
                case rel => exact ⟨k + 1, i, rfl, by go_num, by omega, by omega, by omega, Lib.hid (HBE.out.worse HKL.out (by rw [HF.out, HTT.out, HF2.out, HTT2.out]; exact hbt)), Lib.hid (drewN_of HD1.out _)⟩
                case measure => simp [intOf]; omega
          · have hszd : decide ((m : Int) ≤ (t : Int) - (f : Int)) = false := by simp; omega
            clear hc hr c0 c1
            go_wp2
            go_quiet (fail)
            go_wp2
            go_roundw
            case rel => exact ⟨k + 1, bi, rfl, by go_num, by omega, by omega, by omega, Lib.hid (HBE.out.no HKL.out (by rw [HF.out, HTT.out]; exact hsz)), Lib.hid (drewN_of HD1.out _)⟩
            case measure => simp [intOf]; omega
        · have hkn : k = ln := by omega
          subst hkn
          have hfin : L.take k = L := List.take_of_length_le (by rw [HLN.out]; omega)
          by_cases hb0 : bi < 0
          · obtain rfl : bi = -1 := by omega
            have hbd : decide ((-1 : Int) < 0) = true := rfl
            have HE : Hid (bestF m L = (0, 4097)) := Lib.hid (by
              rcases HBE.out with ⟨_, h2⟩ | ⟨i, h1, _⟩
              · rwa [hfin] at h2
              · omega)
            clear hfin hr
            go_wp2
            go_ret2
            refine ⟨?_, by rw [HD1.out]; exact R4.out.k⟩
            have hg := HG.out
            rw [HLd.out, HE.out] at hg
            rw [← hg]; rfl
          · obtain ⟨i, rfl⟩ := Int.eq_ofNat_of_zero_le (by omega : 0 ≤ bi)
            have hbd : decide ((i : Int) < 0) = false := by simp
            have hQ : bestF m L = L.getD i (0, 0) ∧ (L.getD i (0, 0)).2 ≤ 4096 := by
              rcases HBE.out with ⟨h1, _⟩ | ⟨j, h1, h2, h3, h4⟩
              · omega
              · obtain rfl : i = j := by omega
                rw [hfin] at h3
                exact ⟨h3, h4⟩
            have HQ := Lib.hid hQ
            obtain ⟨gb, go, rfl, hc⟩ := hr.cells.resolve_left (by have := HLN.out; omega)
            obtain ⟨c4, c5⟩ := hc i (by have := HLN.out; omega)
            obtain ⟨f', hf⟩ : ∃ f, (L.getD i (0, 0)).1 = f := ⟨_, rfl⟩
            rw [hf] at c4
            have HF2 := Lib.hid hf
            have hii : (i : Int) < (k : Int) := by omega
            have hi0 : (0 : Int) ≤ (i : Int) := by omega
            clear hfin hr hc hf hQ
            go_wp2
            go_ret2
            refine ⟨?_, by rw [HD1.out]; exact R4.out.k⟩
            have hg := HG.out
            rw [HLd.out, HQ.out.1] at hg
            rw [← hg]
            unfold bestOut
            rw [if_neg (by have := HQ.out.2; omega), HF2.out]; rfl
  · have hcb := bne0_true hc
    have E : Hid (bstE N ws m = chk N ws) := Lib.hid (by unfold bstE; rw [if_pos hc])
    have V : Hid (bstV N ws m = 0) := Lib.hid (by unfold bstV; rw [E.out, if_neg hc])
    clear hc
    go_enter Tryd.func18, Tryd.ntmps18
    go_wp2_with fail
    refine (r_check (RAt.new hs _) hw hlen).mono ?_
    rintro e w1 ⟨rfl, r1⟩
    have R1 := Lib.hid r1
    clear r1
    go_wp2
    go_ret2
    exact ⟨ret_two V.out.symm E.out.symm, R1.out.k⟩
end Go.Proofs.YtikdgnfcckenmaaDoor
