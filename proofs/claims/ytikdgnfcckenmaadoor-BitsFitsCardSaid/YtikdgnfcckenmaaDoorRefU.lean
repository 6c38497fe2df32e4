/- The reference for bits: Block, Best. -/
import Derived.Test.YtikdgnfcckenmaaDoorRefT
namespace Go.Proofs.YtikdgnfcckenmaaDoor
open Go.RowKit Go.Sort Go.Joins
attribute [local go_sem] cell_grow frozen_grow size_grow

/-- what Block returns -/
def blkE (N : Int) (ws : List Nat) (k : Int) : Int := if chk N ws ≠ 0 then chk N ws else if k < 0 ∨ 12 < k then 7 else if fitR (gAl (2 ^ k.toNat)) (2 ^ k.toNat) (runsL (look ws false) N.toNat) = none then 4 else 0
def blkV (N : Int) (ws : List Nat) (k : Int) : Int := if blkE N ws k = 0 then (match fitR (gAl (2 ^ k.toNat)) (2 ^ k.toNat) (runsL (look ws false) N.toNat) with | some r => ((gAl (2 ^ k.toNat) r : Nat) : Int) | none => 0) else 0
theorem blk_good {n k : Nat} {ws : List Nat} (hc : chk n ws = 0) (hk : k ≤ 12) : fitOut (gAl (2 ^ k)) (fitR (gAl (2 ^ k)) (2 ^ k) (runsL (look ws false) n)) = .tuple #[.int .i64 (blkV n ws k), .int .i64 (blkE n ws k)] := by
  have hE : blkE n ws k = if fitR (gAl (2 ^ k)) (2 ^ k) (runsL (look ws false) n) = none then 4 else 0 := by
    unfold blkE
    rw [if_neg (by simpa using hc), if_neg (by omega)]; rfl
  unfold blkV
  rw [hE]
  simp only [Int.toNat_natCast]
  cases fitR (gAl (2 ^ k)) (2 ^ k) (runsL (look ws false) n) with
  | none => first | rfl | simp [fitOut]
  | some r => first | rfl | simp [fitOut]

set_option maxRecDepth 100000 in
set_option maxHeartbeats 1600000 in
theorem rBlock_ok (N k : Int) (a : Option Addr) (len cap : Nat) (ws : List Nat) (w : World) (hs : SlK .u64 w a len ws) (hw : ∀ x ∈ ws, x < 18446744073709551616) (hlen : len ≤ 9223372036854775807) :
    Calls Tryd.prog 20 #[.agg #[.int .i64 N, .slice a len cap], .int .i64 k] w fun e w' => e = .returned (.tuple #[.int .i64 (blkV N ws k), .int .i64 (blkE N ws k)]) ∧ Below w.heap.size w w' := by
  by_cases hc : chk N ws = 0
  · have HC := Lib.hid hc
    obtain ⟨hN0, hN, hl, -⟩ := chk_zero hc
    obtain ⟨n, rfl⟩ := Int.eq_ofNat_of_zero_le hN0
    have hn : n ≤ 4096 := by omega
    by_cases hk : k < 0 ∨ 12 < k
    · have E : Hid (blkE n ws k = 7) := Lib.hid (by unfold blkE; rw [if_neg (by simpa using hc), if_pos hk])
      have V : Hid (blkV n ws k = 0) := Lib.hid (by unfold blkV; rw [E.out]; rfl)
      clear hc hl
      by_cases h0 : k < 0
      all_goals
        have h1 : ¬ k < 0 → 12 < k := fun h => by omega
        first | (have h2 := h1 h0; clear h1 hk) | (clear h1 hk)
        go_enter Tryd.func20, Tryd.ntmps20
        go_wp2_with fail
        refine (r_check (RAt.new hs _) hw hlen).mono ?_
        rintro e w1 ⟨rfl, r1⟩
        rw [HC.out]
        have R1 := Lib.hid r1
        clear r1
        go_wp2
        go_ret2
        exact ⟨ret_two V.out.symm E.out.symm, R1.out.k⟩
    · obtain ⟨k, rfl⟩ := Int.eq_ofNat_of_zero_le (by omega : 0 ≤ k)
      have hk12 : k ≤ 12 := by omega
      have HG := blk_good hc hk12
      have hk0 : decide ((k : Int) < 0) = false := by simp
      have hk1 : decide (12 < k) = false := by simp; omega
      obtain ⟨S, hSd⟩ : ∃ S : Nat, 2 ^ k = S := ⟨_, rfl⟩
      rw [hSd] at HG
      replace HG := Lib.hid HG
      have hS1 : 1 ≤ S := by rw [← hSd]; exact Nat.two_pow_pos k
      have hS2 : S ≤ 4096 := by rw [← hSd]; exact Nat.le_trans (Nat.pow_le_pow_right (by decide) hk12) (by decide)
      have hX3 : wrap64 (2 ^ k) = (S : Int) := by
        rw [← hSd, IntWalk.wrap64_in _ (by have : ((2 : Int) ^ k) = ((2 ^ k : Nat) : Int) := by simp
                                           rw [this, hSd]; omega)]
        simp
      have hL := hs.length
      have HL : Hid (len = (n + 63) / 64) := Lib.hid (by omega)
      clear hc hl hk hL hSd
      go_enter Tryd.func20, Tryd.ntmps20
      go_wp2_with fail
      refine (r_check (RAt.new hs _) hw hlen).mono ?_
      rintro e w1 ⟨rfl, r1⟩
      have c0 := r1.b.n
      have c1 := r1.b.s
      rw [HC.out]
      have R1 := Lib.hid r1
      clear r1
      go_wp2_with fail
      refine (rList_ok n a len cap ws _ R1.out.s hw hn HL.out).mono ?_
      rintro e w2 ⟨v, rfl, h1, b2⟩
      obtain ⟨va, vc, rfl⟩ := own_slice h1
      have R2 := Lib.hid (R1.out.below b2)
      have HB := Lib.hid (SlB.of_own h1)
      clear h1 b2
      go_wp2
      rw [hX3]
      go_loopw [9] (fun x wr => ∃ i j : Nat, i ≤ 8192 ∧ x = .int .i64 i ∧ Hid (i = j * S) ∧ Hid (∀ j', j' < j → ¬ frP (look ws false) n (j' * S) S) ∧ wr = w2) (fun x _ => n - (intOf x).toNat)
      case atStart => exact ⟨0, 0, by omega, rfl, Lib.hid (by omega), Lib.hid (fun j h1 => by omega), rfl⟩
      case round =>
        obtain ⟨i, j, hi, rfl, HJ, HP, rfl⟩ := hrel
        by_cases hlt : i < n
        · have hltb : (i : Int) < (n : Int) := by omega
          obtain ⟨x, hx⟩ : ∃ x, frB (bat ws) n i S = x := ⟨_, rfl⟩
          have HX := Lib.hid hx
          clear hx
          cases x with
          | true =>
            have hF : frP (look ws false) n (j * S) S := by rw [look_false, ← HJ.out]; exact frB_iff.1 HX.out
            obtain ⟨r, hr, hg⟩ := block_some hS1 hF HP.out
            have HR := Lib.hid hr
            have HGI := Lib.hid hg
            clear hr hg hF
            go_wp2_with (go_at_call 52; refine (free_ok n i S (bat ws) va vc _ HB.out hn (by omega) (by omega)).mono ?_; rintro e w3 ⟨rfl, rfl⟩; rw [HX.out])
            go_ret2
            have hgo := HG.out
            rw [HR.out] at hgo
            refine ⟨?_, R2.out.k⟩
            rw [← hgo]
            show _ = Ending.returned (.tuple #[.int .i64 ((gAl S r : Nat) : Int), .int .i64 0])
            rw [HGI.out, ← HJ.out]; rfl
          | false =>
            have hF : Hid (¬ frP (look ws false) n (j * S) S) := Lib.hid (by rw [look_false, ← HJ.out]; intro h; have := frB_iff.2 h; rw [HX.out] at this; cases this)
            go_wp2_with (go_at_call 52; refine (free_ok n i S (bat ws) va vc _ HB.out hn (by omega) (by omega)).mono ?_; rintro e w3 ⟨rfl, rfl⟩; rw [HX.out])
            exact ⟨⟨i + S, j + 1, by omega, by simp, Lib.hid (by rw [HJ.out, Nat.succ_mul]), Lib.hid (fun j' h1 => by
              by_cases hji : j' = j
              · rw [hji]; exact hF.out
              · exact HP.out j' (by omega)), by simp⟩, by simp [intOf]; omega⟩
        · have HN := Lib.hid (block_none (p := look ws false) (n := n) (S := S) (k := j) hS1 (by rw [← HJ.out]; omega) HP.out)
          go_wp2
          go_ret2
          have hgo := HG.out
          rw [HN.out] at hgo
          exact ⟨by rw [← hgo]; rfl, R2.out.k⟩
  · have hcb := bne0_true hc
    have E : Hid (blkE N ws k = chk N ws) := Lib.hid (by unfold blkE; rw [if_pos hc])
    have V : Hid (blkV N ws k = 0) := Lib.hid (by unfold blkV; rw [E.out, if_neg hc])
    clear hc
    go_enter Tryd.func20, Tryd.ntmps20
    go_wp2_with fail
    refine (r_check (RAt.new hs _) hw hlen).mono ?_
    rintro e w1 ⟨rfl, r1⟩
    have R1 := Lib.hid r1
    clear r1
    go_wp2
    go_ret2
    exact ⟨ret_two V.out.symm E.out.symm, R1.out.k⟩
end Go.Proofs.YtikdgnfcckenmaaDoor
