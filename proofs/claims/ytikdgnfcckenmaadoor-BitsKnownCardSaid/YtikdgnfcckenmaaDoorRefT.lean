/- The reference for bits: free, Fit, Block, Best. -/
import Derived.Test.YtikdgnfcckenmaaDoorRefS
import Derived.Test.YtikdgnfcckenmaaDoorPlainY
namespace Go.Proofs.YtikdgnfcckenmaaDoor
open Go.RowKit Go.Sort Go.Joins
attribute [local go_sem] cell_grow frozen_grow size_grow

/-- is it free? (of a list of bits; clear ones are looked for) -/
def frB (p : Nat → Bool) (n i m : Nat) : Bool := decide (i + m ≤ n) && (List.range m).all fun j => !p (i + j)
theorem frB_iff {p : Nat → Bool} {n i m : Nat} : frB p n i m = true ↔ frP (fun j => !p j) n i m := by
  unfold frB frP
  rw [Bool.and_eq_true, decide_eq_true_eq, List.all_eq_true]
  constructor
  · rintro ⟨h1, h2⟩
    refine ⟨h1, fun j hj hk => ?_⟩
    have := h2 (j - i) (List.mem_range.2 (by omega))
    rwa [show i + (j - i) = j by omega] at this
  · rintro ⟨h1, h2⟩
    exact ⟨h1, fun j hj => h2 (i + j) (by omega) (by have := List.mem_range.1 hj; omega)⟩

set_option maxRecDepth 100000 in
set_option maxHeartbeats 1600000 in
theorem free_ok (n i m : Nat) (p : Nat → Bool) (a : Option Addr) (cap : Nat) (w : World) (hs : SlB w a n p) (hn : n ≤ 4096) (hi : i ≤ 100000) (hm : m ≤ 100000) :
    Calls Tryd.prog 52 #[.slice a n cap, .int .i64 i, .int .i64 m] w fun e w' => e = .returned (.bool (frB p n i m)) ∧ w = w' := by
  have HS := Lib.hid hs
  clear hs
  by_cases h1 : n < i + m
  · have hd : decide ((n : Int) < (i : Int) + (m : Int)) = true := by simp; omega
    have R : Hid (frB p n i m = false) := Lib.hid (by unfold frB; rw [decide_eq_false (by omega)]; rfl)
    clear h1
    go_enter Tryd.func52, Tryd.ntmps52
    go_wp2
    go_ret
    exact ⟨by rw [R.out]; rfl, rfl⟩
  · have hd : decide ((n : Int) < (i : Int) + (m : Int)) = false := by simp; omega
    go_enter Tryd.func52, Tryd.ntmps52
    go_wp2
    go_loop [7] (fun x => ∃ k : Nat, i ≤ k ∧ k ≤ i + m ∧ x = .int .i64 k ∧ Hid (∀ j, i ≤ j → j < k → p j = false)) (fun x => i + m - (intOf x).toNat)
    case atStart => exact ⟨i, Nat.le_refl _, by omega, rfl, Lib.hid (fun j h1 h2 => by omega)⟩
    case round =>
      obtain ⟨k, hk1, hk2, rfl, HP⟩ := hrel
      by_cases hlt : k < i + m
      · have hlti : decide ((k : Int) < (i : Int) + (m : Int)) = true := by simp; omega
        obtain ⟨b, o, rfl, hc⟩ := HS.out.resolve_left (by omega)
        have hck := hc k (by omega)
        have hkn : (k : Int) < (n : Int) := by omega
        have hk0 : (0 : Int) ≤ (k : Int) := by omega
        clear hc
        by_cases hp : p k = true
        · have R : Hid (frB p n i m = false) := Lib.hid (by
            cases e : frB p n i m with
            | false => rfl
            | true => have := (frB_iff.1 e).2 k hk1 hlt; dsimp only at this; rw [hp] at this; cases this)
          rw [hp] at hck
          clear hp
          go_wp2
          go_ret
          exact ⟨by rw [R.out]; rfl, rfl⟩
        · have hpf : p k = false := by simpa using hp
          have HF := Lib.hid hpf
          rw [hpf] at hck
          clear hp hpf
          go_wp2
          go_round
          case rel => exact ⟨k + 1, by omega, by omega, by go_num, Lib.hid (fun j h1 h2 => by
            by_cases hjk : j = k
            · rw [hjk]; exact HF.out
            · exact HP.out j h1 (by omega))⟩
          case measure => simp [intOf]; omega
      · have hlti : decide ((k : Int) < (i : Int) + (m : Int)) = false := by simp; omega
        have R : Hid (frB p n i m = true) := Lib.hid (frB_iff.2 ⟨by omega, fun j h1 h2 => by show (!p j) = true; rw [HP.out j h1 (by omega)]; rfl⟩)
        go_wp2
        go_ret
        exact ⟨by rw [R.out]; rfl, rfl⟩

/-- what Fit returns -/
def fitE (N : Int) (ws : List Nat) (m fr : Int) : Int := if chk N ws ≠ 0 then chk N ws else if m < 1 then 2 else if fr < 0 ∨ N < fr then 7 else if fitR (gMax fr.toNat) m.toNat (runsL (look ws false) N.toNat) = none then 4 else 0
def fitV (N : Int) (ws : List Nat) (m fr : Int) : Int := if fitE N ws m fr = 0 then (match fitR (gMax fr.toNat) m.toNat (runsL (look ws false) N.toNat) with | some r => ((gMax fr.toNat r : Nat) : Int) | none => 0) else 0
theorem fit_good {n m fr : Nat} {ws : List Nat} (hc : chk n ws = 0) (hm : 1 ≤ m) (hf : fr ≤ n) : fitOut (gMax fr) (fitR (gMax fr) m (runsL (look ws false) n)) = .tuple #[.int .i64 (fitV n ws m fr), .int .i64 (fitE n ws m fr)] := by
  have hE : fitE n ws m fr = if fitR (gMax fr) m (runsL (look ws false) n) = none then 4 else 0 := by
    unfold fitE
    rw [if_neg (by simpa using hc), if_neg (by omega), if_neg (by omega)]; rfl
  unfold fitV
  rw [hE]
  simp only [Int.toNat_natCast]
  cases fitR (gMax fr) m (runsL (look ws false) n) with
  | none => first | rfl | simp [fitOut]
  | some r => first | rfl | simp [fitOut]

set_option maxRecDepth 100000 in
set_option maxHeartbeats 1600000 in
theorem rFit_ok (N m fr : Int) (a : Option Addr) (len cap : Nat) (ws : List Nat) (w : World) (hs : SlK .u64 w a len ws) (hw : ∀ x ∈ ws, x < 18446744073709551616) (hlen : len ≤ 9223372036854775807) (hm63 : m ≤ 9223372036854775807) :
    Calls Tryd.prog 16 #[.agg #[.int .i64 N, .slice a len cap], .int .i64 m, .int .i64 fr] w fun e w' => e = .returned (.tuple #[.int .i64 (fitV N ws m fr), .int .i64 (fitE N ws m fr)]) ∧ Below w.heap.size w w' := by
  by_cases hc : chk N ws = 0
  · have HC := Lib.hid hc
    obtain ⟨hN0, hN, hl, -⟩ := chk_zero hc
    obtain ⟨n, rfl⟩ := Int.eq_ofNat_of_zero_le hN0
    have hn : n ≤ 4096 := by omega
    by_cases hm : m < 1
    · have E : Hid (fitE n ws m fr = 2) := Lib.hid (by unfold fitE; rw [if_neg (by simpa using hc), if_pos hm])
      have V : Hid (fitV n ws m fr = 0) := Lib.hid (by unfold fitV; rw [E.out]; rfl)
      clear hc hl
      go_enter Tryd.func16, Tryd.ntmps16
      go_wp2_with fail
      refine (r_check (RAt.new hs _) hw hlen).mono ?_
      rintro e w1 ⟨rfl, r1⟩
      rw [HC.out]
      have R1 := Lib.hid r1
      clear r1
      go_wp2
      go_ret2
      exact ⟨ret_two V.out.symm E.out.symm, R1.out.k⟩
    · obtain ⟨m, rfl⟩ := Int.eq_ofNat_of_zero_le (by omega : 0 ≤ m)
      have hm1 : 1 ≤ m := by omega
      have hmd : decide ((m : Int) < 1) = false := by simp; omega
      by_cases hf : fr < 0 ∨ (n : Int) < fr
      · have E : Hid (fitE n ws m fr = 7) := Lib.hid (by unfold fitE; rw [if_neg (by simpa using hc), if_neg hm, if_pos hf])
        have V : Hid (fitV n ws m fr = 0) := Lib.hid (by unfold fitV; rw [E.out]; rfl)
        clear hc hl hm
        by_cases h0 : fr < 0
        all_goals
          have h1 : ¬ fr < 0 → (n : Int) < fr := fun h => by omega
          first | (have h2 := h1 h0; clear h1 hf) | (clear h1 hf)
          go_enter Tryd.func16, Tryd.ntmps16
          go_wp2_with fail
          refine (r_check (RAt.new hs _) hw hlen).mono ?_
          rintro e w1 ⟨rfl, r1⟩
          have c0 := r1.b.n
          have c1 := r1.b.s
          rw [HC.out]
          have R1 := Lib.hid r1
          clear r1
          go_wp2
          go_ret2
          exact ⟨ret_two V.out.symm E.out.symm, R1.out.k⟩
      · obtain ⟨fr, rfl⟩ := Int.eq_ofNat_of_zero_le (by omega : 0 ≤ fr)
        have hfn : fr ≤ n := by omega
        have HG := Lib.hid (fit_good hc hm1 hfn)
        have hf0 : decide ((fr : Int) < 0) = false := by simp
        have hf1 : decide (n < fr) = false := by simp; omega
        have hL := hs.length
        have HL : Hid (len = (n + 63) / 64) := Lib.hid (by omega)
        clear hc hl hm hf hL
        go_enter Tryd.func16, Tryd.ntmps16
        go_wp2_with fail
        refine (r_check (RAt.new hs _) hw hlen).mono ?_
        rintro e w1 ⟨rfl, r1⟩
        have c0 := r1.b.n
        have c1 := r1.b.s
        rw [HC.out]
        have R1 := Lib.hid r1
        clear r1
        go_wp2_with fail
        refine (rList_ok n a len cap ws _ R1.out.s hw hn HL.out).mono ?_
        rintro e w2 ⟨v, rfl, h1, b2⟩
        obtain ⟨va, vc, rfl⟩ := own_slice h1
        have R2 := Lib.hid (R1.out.below b2)
        have HB := Lib.hid (SlB.of_own h1)
        clear h1 b2
        go_wp2
        go_loop [10] (fun x => ∃ i : Nat, fr ≤ i ∧ i ≤ n ∧ x = .int .i64 i ∧ Hid (∀ j, fr ≤ j → j < i → ¬ frP (look ws false) n j m)) (fun x => n - (intOf x).toNat)
        case atStart => exact ⟨fr, Nat.le_refl _, hfn, rfl, Lib.hid (fun j h1 h2 => by omega)⟩
        case round =>
          obtain ⟨i, hi1, hi2, rfl, HP⟩ := hrel
          by_cases hlt : i < n
          · have hltb : decide (i < n) = true := by simpa using hlt
            by_cases hmn : m ≤ n
            · have hmb : decide (m ≤ n) = true := by simpa using hmn
              obtain ⟨x, hx⟩ : ∃ x, frB (bat ws) n i m = x := ⟨_, rfl⟩
              have HX := Lib.hid hx
              clear hx
              cases x with
              | true =>
                have hF : frP (look ws false) n i m := by rw [look_false]; exact frB_iff.1 HX.out
                obtain ⟨r, hr, hg⟩ := fit_some hm1 hi1 hF HP.out
                have HR := Lib.hid hr
                have HGI := Lib.hid hg
                clear hr hg hF
                go_wp2_with (go_at_call 52; refine (free_ok n i m (bat ws) va vc _ HB.out hn (by omega) (by omega)).mono ?_; rintro e w3 ⟨rfl, rfl⟩; rw [HX.out])
                go_ret2
                have hgo := HG.out
                rw [HR.out] at hgo
                refine ⟨?_, R2.out.k⟩
                rw [← hgo]
                show _ = Ending.returned (.tuple #[.int .i64 ((gMax fr r : Nat) : Int), .int .i64 0])
                rw [HGI.out]; rfl
              | false =>
                have hF : Hid (¬ frP (look ws false) n i m) := Lib.hid (by rw [look_false]; intro h; have := frB_iff.2 h; rw [HX.out] at this; cases this)
                go_wp2_with (go_at_call 52; refine (free_ok n i m (bat ws) va vc _ HB.out hn (by omega) (by omega)).mono ?_; rintro e w3 ⟨rfl, rfl⟩; rw [HX.out])
                go_round
                case rel => exact ⟨i + 1, by omega, by omega, by go_num, Lib.hid (fun j h1 h2 => by
                  by_cases hji : j = i
                  · rw [hji]; exact hF.out
                  · exact HP.out j h1 (by omega))⟩
                case measure => simp [intOf]; omega
            · have hmb : decide (m ≤ n) = false := by simpa using hmn
              have HN := Lib.hid (fit_none (p := look ws false) (n := n) (m := m) (fr := fr) (fun j h1 h2 h3 => by have := h3.1; omega) hm1)
              go_wp2
              go_ret2
              have hgo := HG.out
              rw [HN.out] at hgo
              exact ⟨by rw [← hgo]; rfl, R2.out.k⟩
          · have hltb : decide (i < n) = false := by simpa using hlt
            have HN := Lib.hid (fit_none (p := look ws false) (n := n) (m := m) (fr := fr) (fun j h1 h2 h3 => HP.out j h1 (by omega) h3) hm1)
            go_wp2
            go_ret2
            have hgo := HG.out
            rw [HN.out] at hgo
            exact ⟨by rw [← hgo]; rfl, R2.out.k⟩
  · have hcb := bne0_true hc
    have E : Hid (fitE N ws m fr = chk N ws) := Lib.hid (by unfold fitE; rw [if_pos hc])
    have V : Hid (fitV N ws m fr = 0) := Lib.hid (by unfold fitV; rw [E.out, if_neg hc])
    clear hc
    go_enter Tryd.func16, Tryd.ntmps16
    go_wp2_with fail
    refine (r_check (RAt.new hs _) hw hlen).mono ?_
    rintro e w1 ⟨rfl, r1⟩
    have R1 := Lib.hid r1
    clear r1
    go_wp2
    go_ret2
    exact ⟨ret_two V.out.symm E.out.symm, R1.out.k⟩

/-- what Block returns -/
def blkE (N : Int) (ws : List Nat) (k : Int) : Int := if chk N ws ≠ 0 then chk N ws else if k < 0 ∨ 12 < k then 7 else if fitR (gAl (2 ^ k.toNat)) (2 ^ k.toNat) (runsL (look ws false) N.toNat) = none then 4 else 0
def blkV (N : Int) (ws : List Nat) (k : Int) : Int := if blkE N ws k = 0 then (match fitR (gAl (2 ^ k.toNat)) (2 ^ k.toNat) (runsL (look ws false) N.toNat) with | some r => ((gAl (2 ^ k.toNat) r : Nat) : Int) | none => 0) else 0
theorem blk_good {n k : Nat} {ws : List Nat} (hc : chk n ws = 0) (hk : k ≤ 12) : fitOut (gAl (2 ^ k)) (fitR (gAl (2 ^ k)) (2 ^ k) (runsL (look ws false) n)) = .tuple #[.int .i64 (blkV n ws k), .int .i64 (blkE n ws k)] := by
  have hE : blkE n ws k = if fitR (gAl (2 ^ k)) (2 ^ k) (runsL (look ws false) n) = none then 4 else 0 := by
    unfold blkE
    rw [if_neg (by simpa using hc), if_neg (by omega)]; rfl
  unfold blkV
  rw [hE]
  simp only [Int.toNat_natCast]
  cases fitR (gAl (2 ^ k)) (2 ^ k) (runsL (look ws false) n) with
  | none => first | rfl | simp [fitOut]
  | some r => first | rfl | simp [fitOut]

set_option maxRecDepth 100000 in
set_option maxHeartbeats 1600000 in
theorem rBlock_ok (N k : Int) (a : Option Addr) (len cap : Nat) (ws : List Nat) (w : World) (hs : SlK .u64 w a len ws) (hw : ∀ x ∈ ws, x < 18446744073709551616) (hlen : len ≤ 9223372036854775807) :
    Calls Tryd.prog 20 #[.agg #[.int .i64 N, .slice a len cap], .int .i64 k] w fun e w' => e = .returned (.tuple #[.int .i64 (blkV N ws k), .int .i64 (blkE N ws k)]) ∧ Below w.heap.size w w' := by
  by_cases hc : chk N ws = 0
  · have HC := Lib.hid hc
    obtain ⟨hN0, hN, hl, -⟩ := chk_zero hc
    obtain ⟨n, rfl⟩ := Int.eq_ofNat_of_zero_le hN0
    have hn : n ≤ 4096 := by omega
    by_cases hk : k < 0 ∨ 12 < k
    · have E : Hid (blkE n ws k = 7) := Lib.hid (by unfold blkE; rw [if_neg (by simpa using hc), if_pos hk])
      have V : Hid (blkV n ws k = 0) := Lib.hid (by unfold blkV; rw [E.out]; rfl)
      clear hc hl
      by_cases h0 : k < 0
      all_goals
        have h1 : ¬ k < 0 → 12 < k := fun h => by omega
        first | (have h2 := h1 h0; clear h1 hk) | (clear h1 hk)
        go_enter Tryd.func20, Tryd.ntmps20
        go_wp2_with fail
        refine (r_check (RAt.new hs _) hw hlen).mono ?_
        rintro e w1 ⟨rfl, r1⟩
        rw [HC.out]
        have R1 := Lib.hid r1
        clear r1
        go_wp2
        go_ret2
        exact ⟨ret_two V.out.symm E.out.symm, R1.out.k⟩
    · obtain ⟨k, rfl⟩ := Int.eq_ofNat_of_zero_le (by omega : 0 ≤ k)
      have hk12 : k ≤ 12 := by omega
      have HG := blk_good hc hk12
      have hk0 : decide ((k : Int) < 0) = false := by simp
      have hk1 : decide (12 < k) = false := by simp; omega
      obtain ⟨S, hSd⟩ : ∃ S : Nat, 2 ^ k = S := ⟨_, rfl⟩
      rw [hSd] at HG
      replace HG := Lib.hid HG
      have hS1 : 1 ≤ S := by rw [← hSd]; exact Nat.two_pow_pos k
      have hS2 : S ≤ 4096 := by rw [← hSd]; exact Nat.le_trans (Nat.pow_le_pow_right (by decide) hk12) (by decide)
      have hX3 : wrap64 (2 ^ k) = (S : Int) := by
        rw [← hSd, IntWalk.wrap64_in _ (by have : ((2 : Int) ^ k) = ((2 ^ k : Nat) : Int) := by simp
                                           rw [this, hSd]; omega)]
        simp
      have hL := hs.length
      have HL : Hid (len = (n + 63) / 64) := Lib.hid (by omega)
      clear hc hl hk hL hSd
      go_enter Tryd.func20, Tryd.ntmps20
      go_wp2_with fail
      refine (r_check (RAt.new hs _) hw hlen).mono ?_
      rintro e w1 ⟨rfl, r1⟩
      have c0 := r1.b.n
      have c1 := r1.b.s
      rw [HC.out]
      have R1 := Lib.hid r1
      clear r1
      go_wp2_with fail
      refine (rList_ok n a len cap ws _ R1.out.s hw hn HL.out).mono ?_
      rintro e w2 ⟨v, rfl, h1, b2⟩
      obtain ⟨va, vc, rfl⟩ := own_slice h1
      have R2 := Lib.hid (R1.out.below b2)
      have HB := Lib.hid (SlB.of_own h1)
      clear h1 b2
      go_wp2
      rw [hX3]
      go_loopw [9] (fun x wr => ∃ i j : Nat, i ≤ 8192 ∧ x = .int .i64 i ∧ Hid (i = j * S) ∧ Hid (∀ j', j' < j → ¬ frP (look ws false) n (j' * S) S) ∧ wr = w2) (fun x _ => n - (intOf x).toNat)
      case atStart => exact ⟨0, 0, by omega, rfl, Lib.hid (by omega), Lib.hid (fun j h1 => by omega), rfl⟩
      case round =>
        obtain ⟨i, j, hi, rfl, HJ, HP, rfl⟩ := hrel
        by_cases hlt : i < n
        · have hltb : (i : Int) < (n : Int) := by omega
          obtain ⟨x, hx⟩ : ∃ x, frB (bat ws) n i S = x := ⟨_, rfl⟩
          have HX := Lib.hid hx
          clear hx
          cases x with
          | true =>
            have hF : frP (look ws false) n (j * S) S := by rw [look_false, ← HJ.out]; exact frB_iff.1 HX.out
            obtain ⟨r, hr, hg⟩ := block_some hS1 hF HP.out
            have HR := Lib.hid hr
            have HGI := Lib.hid hg
            clear hr hg hF
            go_wp2_with (go_at_call 52; refine (free_ok n i S (bat ws) va vc _ HB.out hn (by omega) (by omega)).mono ?_; rintro e w3 ⟨rfl, rfl⟩; rw [HX.out])
            go_ret2
            have hgo := HG.out
            rw [HR.out] at hgo
            refine ⟨?_, R2.out.k⟩
            rw [← hgo]
            show _ = Ending.returned (.tuple #[.int .i64 ((gAl S r : Nat) : Int), .int .i64 0])
            rw [HGI.out, ← HJ.out]; rfl
          | false =>
            have hF : Hid (¬ frP (look ws false) n (j * S) S) := Lib.hid (by rw [look_false, ← HJ.out]; intro h; have := frB_iff.2 h; rw [HX.out] at this; cases this)
            go_wp2_with (go_at_call 52; refine (free_ok n i S (bat ws) va vc _ HB.out hn (by omega) (by omega)).mono ?_; rintro e w3 ⟨rfl, rfl⟩; rw [HX.out])
            exact ⟨⟨i + S, j + 1, by omega, by simp, Lib.hid (by rw [HJ.out, Nat.succ_mul]), Lib.hid (fun j' h1 => by
              by_cases hji : j' = j
              · rw [hji]; exact hF.out
              · exact HP.out j' (by omega)), by simp⟩, by simp [intOf]; omega⟩
        · have HN := Lib.hid (block_none (p := look ws false) (n := n) (S := S) (k := j) hS1 (by rw [← HJ.out]; omega) HP.out)
          go_wp2
          go_ret2
          have hgo := HG.out
          rw [HN.out] at hgo
          exact ⟨by rw [← hgo]; rfl, R2.out.k⟩
  · have hcb := bne0_true hc
    have E : Hid (blkE N ws k = chk N ws) := Lib.hid (by unfold blkE; rw [if_pos hc])
    have V : Hid (blkV N ws k = 0) := Lib.hid (by unfold blkV; rw [E.out, if_neg hc])
    clear hc
    go_enter Tryd.func20, Tryd.ntmps20
    go_wp2_with fail
    refine (r_check (RAt.new hs _) hw hlen).mono ?_
    rintro e w1 ⟨rfl, r1⟩
    have R1 := Lib.hid r1
    clear r1
    go_wp2
    go_ret2
    exact ⟨ret_two V.out.symm E.out.symm, R1.out.k⟩

/-- what Best returns -/
def bstE (N : Int) (ws : List Nat) (m : Int) : Int := if chk N ws ≠ 0 then chk N ws else if m < 1 then 2 else if 4096 < (bestF m.toNat (runsL (look ws false) N.toNat)).2 then 4 else 0
def bstV (N : Int) (ws : List Nat) (m : Int) : Int := if bstE N ws m = 0 then (((bestF m.toNat (runsL (look ws false) N.toNat)).1 : Nat) : Int) else 0
theorem bst_good {n m : Nat} {ws : List Nat} (hc : chk n ws = 0) (hm : 1 ≤ m) : bestOut (bestF m (runsL (look ws false) n)) = .tuple #[.int .i64 (bstV n ws m), .int .i64 (bstE n ws m)] := by
  have hE : bstE n ws m = if 4096 < (bestF m (runsL (look ws false) n)).2 then 4 else 0 := by
    unfold bstE
    rw [if_neg (by simpa using hc), if_neg (by omega)]; rfl
  unfold bstV bestOut
  rw [hE, Int.toNat_natCast, Int.toNat_natCast]
  by_cases h : 4096 < (bestF m (runsL (look ws false) n)).2
  · simp [h]
  · simp [h]
theorem rl_get {p : Nat → Bool} {n k : Nat} (h : k < (runsL p n).length) : ((runsL p n).getD k (0, 0)).1 < ((runsL p n).getD k (0, 0)).2 ∧ ((runsL p n).getD k (0, 0)).2 ≤ n := by
  have hm : (runsL p n).getD k (0, 0) ∈ runsL p n := by
    rw [List.getD_eq_getElem?_getD, List.getElem?_eq_getElem h]; exact List.getElem_mem h
  exact ⟨(runsL_mem hm).1, (runsL_mem hm).2.1⟩

set_option maxRecDepth 100000 in
set_option maxHeartbeats 3200000 in
theorem rBest_ok (N m : Int) (a : Option Addr) (len cap : Nat) (ws : List Nat) (w : World) (hs : SlK .u64 w a len ws) (hw : ∀ x ∈ ws, x < 18446744073709551616) (hlen : len ≤ 9223372036854775807) (hm63 : m ≤ 9223372036854775807) :
    Calls Tryd.prog 18 #[.agg #[.int .i64 N, .slice a len cap], .int .i64 m] w fun e w' => e = .returned (.tuple #[.int .i64 (bstV N ws m), .int .i64 (bstE N ws m)]) ∧ Below w.heap.size w w' := by
  by_cases hc : chk N ws = 0
  · have HC := Lib.hid hc
    obtain ⟨hN0, hN, hl, -⟩ := chk_zero hc
    obtain ⟨n, rfl⟩ := Int.eq_ofNat_of_zero_le hN0
    have hn : n ≤ 4096 := by omega
    by_cases hm : m < 1
    · have E : Hid (bstE n ws m = 2) := Lib.hid (by unfold bstE; rw [if_neg (by simpa using hc), if_pos hm])
      have V : Hid (bstV n ws m = 0) := Lib.hid (by unfold bstV; rw [E.out]; rfl)
      clear hc hl
      go_enter Tryd.func18, Tryd.ntmps18
      go_wp2_with fail
      refine (r_check (RAt.new hs _) hw hlen).mono ?_
      rintro e w1 ⟨rfl, r1⟩
      rw [HC.out]
      have R1 := Lib.hid r1
      clear r1
      go_wp2
      go_ret2
      exact ⟨ret_two V.out.symm E.out.symm, R1.out.k⟩
    · obtain ⟨m, rfl⟩ := Int.eq_ofNat_of_zero_le (by omega : 0 ≤ m)
      have hmd : decide ((m : Int) < 1) = false := by simpa using hm
      have HG := Lib.hid (bst_good (n := n) (m := m) hc (by omega))
      have hL := hs.length
      have HL : Hid (len = (n + 63) / 64) := Lib.hid (by omega)
      clear hc hl hm hL
      go_enter Tryd.func18, Tryd.ntmps18
      go_wp2_with fail
      refine (r_check (RAt.new hs _) hw hlen).mono ?_
      rintro e w1 ⟨rfl, r1⟩
      have c0 := r1.b.n
      have c1 := r1.b.s
      rw [HC.out]
      have R1 := Lib.hid r1
      clear r1
      go_wp2_with fail
      refine (rList_ok n a len cap ws _ R1.out.s hw hn HL.out).mono ?_
      rintro e w2 ⟨v, rfl, h1, b2⟩
      obtain ⟨va, vc, rfl⟩ := own_slice h1
      have R2 := Lib.hid (R1.out.below b2)
      have HB := Lib.hid (SlB.of_own h1)
      clear h1 b2
      go_wp2_with fail
      refine (rruns_ok n (bat ws) false va vc _ HB.out hn).mono ?_
      rintro e w3 ⟨v, rfl, h1, b3⟩
      have hl1 := runsL_length (look ws false) n
      have hget := fun k => rl_get (p := look ws false) (n := n) (k := k)
      obtain ⟨L, hLd⟩ : ∃ L, runsL (look ws false) n = L := ⟨_, rfl⟩
      have h2 : w3.ownsRow w2.heap.size 43 2 v L.length (rcells L) := by rw [← hLd]; exact h1
      rw [hLd] at hget hl1
      obtain ⟨ra, rc, rfl, h3⟩ := RunsR.of_own h2
      have HR := Lib.hid h3
      have R3 := Lib.hid (R2.out.below b3)
      have HLd := Lib.hid hLd
      have HGET := Lib.hid hget
      clear h1 b3 h2 h3 hLd hget
      go_wp2
      obtain ⟨ln, hln⟩ : ∃ ln, L.length = ln := ⟨_, rfl⟩
      rw [hln]
      rw [hln] at hl1
      have HLN := Lib.hid hln
      clear hln
      go_loopw [8, 9] (fun b x wr => ∃ (k : Nat) (bi : Int), b = .int .i64 bi ∧ x = .int .i64 k ∧ k ≤ ln ∧ -1 ≤ bi ∧ bi < ln ∧ Hid (BestAt m L k bi) ∧ Hid (∃ d, wr = w3.drewN d)) (fun _ x _ => ln - (intOf x).toNat)
      case atStart => exact ⟨0, -1, rfl, rfl, Nat.zero_le _, by omega, by omega, Lib.hid (BestAt.start m L), Lib.hid ⟨0, rfl⟩⟩
      case round =>
        obtain ⟨k, bi, rfl, rfl, hk, hb1, hb2, HBE, HD⟩ := hrel
        obtain ⟨d, hd⟩ := HD.out
        have HD1 := Lib.hid hd
        have hr := HR.out.below (below_draw w3 d)
        rw [← hd] at hr
        have R4 := Lib.hid (R3.out.below (below_draw w3 d))
        clear hd
        by_cases hlt : k < ln
        · obtain ⟨gb, go, rfl, hc⟩ := hr.cells.resolve_left (by have := HLN.out; omega)
          obtain ⟨c2, c3⟩ := hc k (by have := HLN.out; omega)
          obtain ⟨g1, g2⟩ := HGET.out k (by rw [HLN.out]; exact hlt)
          obtain ⟨f, hf⟩ : ∃ f, (L.getD k (0, 0)).1 = f := ⟨_, rfl⟩
          obtain ⟨t, ht⟩ : ∃ t, (L.getD k (0, 0)).2 = t := ⟨_, rfl⟩
          rw [hf] at c2 g1
          rw [ht] at c3 g1 g2
          have HF := Lib.hid hf
          have HTT := Lib.hid ht
          have hlti : (k : Int) < (ln : Int) := by omega
          have hk0 : (0 : Int) ≤ (k : Int) := by omega
          have hkl : k < L.length := by rw [HLN.out]; exact hlt
          have HKL := Lib.hid hkl
          clear hf ht hkl
          by_cases hsz : m ≤ t - f
          · have hszd : decide ((m : Int) ≤ (t : Int) - (f : Int)) = true := by simp; omega
            by_cases hb0 : bi < 0
            · obtain rfl : bi = -1 := by omega
              have hbd : decide ((-1 : Int) < 0) = true := rfl
              clear hc hr c0 c1
              go_wp2
              go_quiet (fail)
              go_wp2
              go_roundw
              case rel => exact ⟨k + 1, k, rfl, by go_num, by omega, by omega, by omega, Lib.hid (HBE.out.first HKL.out (by rw [HF.out, HTT.out]; exact hsz) (by rw [HTT.out]; omega)), Lib.hid (drewN_of HD1.out _)⟩
              case measure => simp [intOf]; omega
            · obtain ⟨i, rfl⟩ := Int.eq_ofNat_of_zero_le (by omega : 0 ≤ bi)
              have hbd : decide ((i : Int) < 0) = false := by simp
              obtain ⟨c4, c5⟩ := hc i (by have := HLN.out; omega)
              obtain ⟨g3, g4⟩ := HGET.out i (by rw [HLN.out]; omega)
              obtain ⟨f', hf⟩ : ∃ f, (L.getD i (0, 0)).1 = f := ⟨_, rfl⟩
              obtain ⟨t', ht⟩ : ∃ t, (L.getD i (0, 0)).2 = t := ⟨_, rfl⟩
              rw [hf] at c4 g3
              rw [ht] at c5 g3 g4
              have HF2 := Lib.hid hf
              have HTT2 := Lib.hid ht
              have hii : (i : Int) < (ln : Int) := by omega
              have hi0 : (0 : Int) ≤ (i : Int) := by omega
              clear hf ht hc hr c0 c1
              by_cases hbt : t - f < t' - f'
              · have hbtd : decide ((t : Int) - (f : Int) < (t' : Int) - (f' : Int)) = true := by simp; omega
                go_wp2
                go_quiet (fail)
                go_wp2
                go_roundw
                case rel => exact ⟨k + 1, k, rfl, by go_num, by omega, by omega, by omega, Lib.hid (HBE.out.better HKL.out (by rw [HF.out, HTT.out]; exact hsz) (by rw [HTT.out]; omega) (by rw [HF.out, HTT.out, HF2.out, HTT2.out]; exact hbt)), Lib.hid (drewN_of HD1.out _)⟩
                case measure => simp [intOf]; omega
              · have hbtd : decide ((t : Int) - (f : Int) < (t' : Int) - (f' : Int)) = false := by simp; omega
                go_wp2
                go_quiet (fail)
                go_wp2
                go_roundw
                case rel => exact ⟨k + 1, i, rfl, by go_num, by omega, by omega, by omega, Lib.hid (HBE.out.worse HKL.out (by rw [HF.out, HTT.out, HF2.out, HTT2.out]; exact hbt)), Lib.hid (drewN_of HD1.out _)⟩
                case measure => simp [intOf]; omega
          · have hszd : decide ((m : Int) ≤ (t : Int) - (f : Int)) = false := by simp; omega
            clear hc hr c0 c1
            go_wp2
            go_quiet (fail)
            go_wp2
            go_roundw
            case rel => exact ⟨k + 1, bi, rfl, by go_num, by omega, by omega, by omega, Lib.hid (HBE.out.no HKL.out (by rw [HF.out, HTT.out]; exact hsz)), Lib.hid (drewN_of HD1.out _)⟩
            case measure => simp [intOf]; omega
        · have hkn : k = ln := by omega
          subst hkn
          have hfin : L.take k = L := List.take_of_length_le (by rw [HLN.out]; omega)
          by_cases hb0 : bi < 0
          · obtain rfl : bi = -1 := by omega
            have hbd : decide ((-1 : Int) < 0) = true := rfl
            have HE : Hid (bestF m L = (0, 4097)) := Lib.hid (by
              rcases HBE.out with ⟨_, h2⟩ | ⟨i, h1, _⟩
              · rwa [hfin] at h2
              · omega)
            clear hfin hr
            go_wp2
            go_ret2
            refine ⟨?_, by rw [HD1.out]; exact R4.out.k⟩
            have hg := HG.out
            rw [HLd.out, HE.out] at hg
            rw [← hg]; rfl
          · obtain ⟨i, rfl⟩ := Int.eq_ofNat_of_zero_le (by omega : 0 ≤ bi)
            have hbd : decide ((i : Int) < 0) = false := by simp
            have hQ : bestF m L = L.getD i (0, 0) ∧ (L.getD i (0, 0)).2 ≤ 4096 := by
              rcases HBE.out with ⟨h1, _⟩ | ⟨j, h1, h2, h3, h4⟩
              · omega
              · obtain rfl : i = j := by omega
                rw [hfin] at h3
                exact ⟨h3, h4⟩
            have HQ := Lib.hid hQ
            obtain ⟨gb, go, rfl, hc⟩ := hr.cells.resolve_left (by have := HLN.out; omega)
            obtain ⟨c4, c5⟩ := hc i (by have := HLN.out; omega)
            obtain ⟨f', hf⟩ : ∃ f, (L.getD i (0, 0)).1 = f := ⟨_, rfl⟩
            rw [hf] at c4
            have HF2 := Lib.hid hf
            have hii : (i : Int) < (k : Int) := by omega
            have hi0 : (0 : Int) ≤ (i : Int) := by omega
            clear hfin hr hc hf hQ
            go_wp2
            go_ret2
            refine ⟨?_, by rw [HD1.out]; exact R4.out.k⟩
            have hg := HG.out
            rw [HLd.out, HQ.out.1] at hg
            rw [← hg]
            unfold bestOut
            rw [if_neg (by have := HQ.out.2; omega), HF2.out]; rfl
  · have hcb := bne0_true hc
    have E : Hid (bstE N ws m = chk N ws) := Lib.hid (by unfold bstE; rw [if_pos hc])
    have V : Hid (bstV N ws m = 0) := Lib.hid (by unfold bstV; rw [E.out, if_neg hc])
    clear hc
    go_enter Tryd.func18, Tryd.ntmps18
    go_wp2_with fail
    refine (r_check (RAt.new hs _) hw hlen).mono ?_
    rintro e w1 ⟨rfl, r1⟩
    have R1 := Lib.hid r1
    clear r1
    go_wp2
    go_ret2
    exact ⟨ret_two V.out.symm E.out.symm, R1.out.k⟩
end Go.Proofs.YtikdgnfcckenmaaDoor
