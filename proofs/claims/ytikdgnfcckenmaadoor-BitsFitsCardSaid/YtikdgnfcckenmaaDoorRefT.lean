/- The reference for bits: free, Fit, Block. -/
import Derived.Test.YtikdgnfcckenmaaDoorRefS
import Derived.Test.YtikdgnfcckenmaaDoorPlainY
namespace Go.Proofs.YtikdgnfcckenmaaDoor
open Go.RowKit Go.Sort Go.Joins
attribute [local go_sem] cell_grow frozen_grow size_grow

/-- is it free? (of a list of bits; clear ones are looked for) -/
def frB (p : Nat → Bool) (n i m : Nat) : Bool := decide (i + m ≤ n) && (List.range m).all fun j => !p (i + j)
theorem frB_iff {p : Nat → Bool} {n i m : Nat} : frB p n i m = true ↔ frP (fun j => !p j) n i m := by
  unfold frB frP
  rw [Bool.and_eq_true, decide_eq_true_eq, List.all_eq_true]
  constructor
  · rintro ⟨h1, h2⟩
    refine ⟨h1, fun j hj hk => ?_⟩
    have := h2 (j - i) (List.mem_range.2 (by omega))
    rwa [show i + (j - i) = j by omega] at this
  · rintro ⟨h1, h2⟩
    exact ⟨h1, fun j hj => h2 (i + j) (by omega) (by have := List.mem_range.1 hj; omega)⟩

set_option maxRecDepth 100000 in
set_option maxHeartbeats 1600000 in
theorem free_ok (n i m : Nat) (p : Nat → Bool) (a : Option Addr) (cap : Nat) (w : World) (hs : SlB w a n p) (hn : n ≤ 4096) (hi : i ≤ 100000) (hm : m ≤ 100000) :
    Calls Tryd.prog 52 #[.slice a n cap, .int .i64 i, .int .i64 m] w fun e w' => e = .returned (.bool (frB p n i m)) ∧ w = w' := by
  have HS := Lib.hid hs
  clear hs
  by_cases h1 : n < i + m
  · have hd : decide ((n : Int) < (i : Int) + (m : Int)) = true := by simp; omega
    have R : Hid (frB p n i m = false) := Lib.hid (by unfold frB; rw [decide_eq_false (by omega)]; rfl)
    clear h1
    go_enter Tryd.func52, Tryd.ntmps52
    go_wp2
    go_ret
    exact ⟨by rw [R.out]; rfl, rfl⟩
  · have hd : decide ((n : Int) < (i : Int) + (m : Int)) = false := by simp; omega
    go_enter Tryd.func52, Tryd.ntmps52
    go_wp2
    go_loop [7] (fun x => ∃ k : Nat, i ≤ k ∧ k ≤ i + m ∧ x = .int .i64 k ∧ Hid (∀ j, i ≤ j → j < k → p j = false)) (fun x => i + m - (intOf x).toNat)
    case atStart => exact ⟨i, Nat.le_refl _, by omega, rfl, Lib.hid (fun j h1 h2 => by omega)⟩
    case round =>
      obtain ⟨k, hk1, hk2, rfl, HP⟩ := hrel
      by_cases hlt : k < i + m
      · have hlti : decide ((k : Int) < (i : Int) + (m : Int)) = true := by simp; omega
        obtain ⟨b, o, rfl, hc⟩ := HS.out.resolve_left (by omega)
        have hck := hc k (by omega)
        have hkn : (k : Int) < (n : Int) := by omega
        have hk0 : (0 : Int) ≤ (k : Int) := by omega
        clear hc
        by_cases hp : p k = true
        · have R : Hid (frB p n i m = false) := Lib.hid (by
            cases e : frB p n i m with
            | false => rfl
            | true => have := (frB_iff.1 e).2 k hk1 hlt; dsimp only at this; rw [hp] at this; cases this)
          rw [hp] at hck
          clear hp
          go_wp2
          go_ret
          exact ⟨by rw [R.out]; rfl, rfl⟩
        · have hpf : p k = false := by simpa using hp
          have HF := Lib.hid hpf
          rw [hpf] at hck
          clear hp hpf
          go_wp2
          go_round
          case rel => exact ⟨k + 1, by omega, by omega, by go_num, Lib.hid (fun j h1 h2 => by
            by_cases hjk : j = k
            · rw [hjk]; exact HF.out
            · exact HP.out j h1 (by omega))⟩
          case measure => simp [intOf]; omega
      · have hlti : decide ((k : Int) < (i : Int) + (m : Int)) = false := by simp; omega
        have R : Hid (frB p n i m = true) := Lib.hid (frB_iff.2 ⟨by omega, fun j h1 h2 => by show (!p j) = true; rw [HP.out j h1 (by omega)]; rfl⟩)
        go_wp2
        go_ret
        exact ⟨by rw [R.out]; rfl, rfl⟩

/-- what Fit returns -/
def fitE (N : Int) (ws : List Nat) (m fr : Int) : Int := if chk N ws ≠ 0 then chk N ws else if m < 1 then 2 else if fr < 0 ∨ N < fr then 7 else if fitR (gMax fr.toNat) m.toNat (runsL (look ws false) N.toNat) = none then 4 else 0
def fitV (N : Int) (ws : List Nat) (m fr : Int) : Int := if fitE N ws m fr = 0 then (match fitR (gMax fr.toNat) m.toNat (runsL (look ws false) N.toNat) with | some r => ((gMax fr.toNat r : Nat) : Int) | none => 0) else 0
theorem fit_good {n m fr : Nat} {ws : List Nat} (hc : chk n ws = 0) (hm : 1 ≤ m) (hf : fr ≤ n) : fitOut (gMax fr) (fitR (gMax fr) m (runsL (look ws false) n)) = .tuple #[.int .i64 (fitV n ws m fr), .int .i64 (fitE n ws m fr)] := by
  have hE : fitE n ws m fr = if fitR (gMax fr) m (runsL (look ws false) n) = none then 4 else 0 := by
    unfold fitE
    rw [if_neg (by simpa using hc), if_neg (by omega), if_neg (by omega)]; rfl
  unfold fitV
  rw [hE]
  simp only [Int.toNat_natCast]
  cases fitR (gMax fr) m (runsL (look ws false) n) with
  | none => first | rfl | simp [fitOut]
  | some r => first | rfl | simp [fitOut]

set_option maxRecDepth 100000 in
set_option maxHeartbeats 1600000 in
theorem rFit_ok (N m fr : Int) (a : Option Addr) (len cap : Nat) (ws : List Nat) (w : World) (hs : SlK .u64 w a len ws) (hw : ∀ x ∈ ws, x < 18446744073709551616) (hlen : len ≤ 9223372036854775807) (hm63 : m ≤ 9223372036854775807) :
    Calls Tryd.prog 16 #[.agg #[.int .i64 N, .slice a len cap], .int .i64 m, .int .i64 fr] w fun e w' => e = .returned (.tuple #[.int .i64 (fitV N ws m fr), .int .i64 (fitE N ws m fr)]) ∧ Below w.heap.size w w' := by
  by_cases hc : chk N ws = 0
  · have HC := Lib.hid hc
    obtain ⟨hN0, hN, hl, -⟩ := chk_zero hc
    obtain ⟨n, rfl⟩ := Int.eq_ofNat_of_zero_le hN0
    have hn : n ≤ 4096 := by omega
    by_cases hm : m < 1
    · have E : Hid (fitE n ws m fr = 2) := Lib.hid (by unfold fitE; rw [if_neg (by simpa using hc), if_pos hm])
      have V : Hid (fitV n ws m fr = 0) := Lib.hid (by unfold fitV; rw [E.out]; rfl)
      clear hc hl
      go_enter Tryd.func16, Tryd.ntmps16
      go_wp2_with fail
      refine (r_check (RAt.new hs _) hw hlen).mono ?_
      rintro e w1 ⟨rfl, r1⟩
      rw [HC.out]
      have R1 := Lib.hid r1
      clear r1
      go_wp2
      go_ret2
      exact ⟨ret_two V.out.symm E.out.symm, R1.out.k⟩
    · obtain ⟨m, rfl⟩ := Int.eq_ofNat_of_zero_le (by omega : 0 ≤ m)
      have hm1 : 1 ≤ m := by omega
      have hmd : decide ((m : Int) < 1) = false := by simp; omega
      by_cases hf : fr < 0 ∨ (n : Int) < fr
      · have E : Hid (fitE n ws m fr = 7) := Lib.hid (by unfold fitE; rw [if_neg (by simpa using hc), if_neg hm, if_pos hf])
        have V : Hid (fitV n ws m fr = 0) := Lib.hid (by unfold fitV; rw [E.out]; rfl)
        clear hc hl hm
        by_cases h0 : fr < 0
        all_goals
          have h1 : ¬ fr < 0 → (n : Int) < fr := fun h => by omega
          first | (have h2 := h1 h0; clear h1 hf) | (clear h1 hf)
          go_enter Tryd.func16, Tryd.ntmps16
          go_wp2_with fail
          refine (r_check (RAt.new hs _) hw hlen).mono ?_
          rintro e w1 ⟨rfl, r1⟩
          have c0 := r1.b.n
          have c1 := r1.b.s
          rw [HC.out]
          have R1 := Lib.hid r1
          clear r1
          go_wp2
          go_ret2
          exact ⟨ret_two V.out.symm E.out.symm, R1.out.k⟩
      · obtain ⟨fr, rfl⟩ := Int.eq_ofNat_of_zero_le (by omega : 0 ≤ fr)
        have hfn : fr ≤ n := by omega
        have HG := Lib.hid (fit_good hc hm1 hfn)
        have hf0 : decide ((fr : Int) < 0) = false := by simp
        have hf1 : decide (n < fr) = false := by simp; omega
        have hL := hs.length
        have HL : Hid (len = (n + 63) / 64) := Lib.hid (by omega)
        clear hc hl hm hf hL
        go_enter Tryd.func16, Tryd.ntmps16
        go_wp2_with fail
        refine (r_check (RAt.new hs _) hw hlen).mono ?_
        rintro e w1 ⟨rfl, r1⟩
        have c0 := r1.b.n
        have c1 := r1.b.s
        rw [HC.out]
        have R1 := Lib.hid r1
        clear r1
        go_wp2_with fail
        refine (rList_ok n a len cap ws _ R1.out.s hw hn HL.out).mono ?_
        rintro e w2 ⟨v, rfl, h1, b2⟩
        obtain ⟨va, vc, rfl⟩ := own_slice h1
        have R2 := Lib.hid (R1.out.below b2)
        have HB := Lib.hid (SlB.of_own h1)
        clear h1 b2
        go_wp2
        go_loop [10] (fun x => ∃ i : Nat, fr ≤ i ∧ i ≤ n ∧ x = .int .i64 i ∧ Hid (∀ j, fr ≤ j → j < i → ¬ frP (look ws false) n j m)) (fun x => n - (intOf x).toNat)
        case atStart => exact ⟨fr, Nat.le_refl _, hfn, rfl, Lib.hid (fun j h1 h2 => by omega)⟩
        case round =>
          obtain ⟨i, hi1, hi2, rfl, HP⟩ := hrel
          by_cases hlt : i < n
          · have hltb : decide (i < n) = true := by simpa using hlt
            by_cases hmn : m ≤ n
            · have hmb : decide (m ≤ n) = true := by simpa using hmn
              obtain ⟨x, hx⟩ : ∃ x, frB (bat ws) n i m = x := ⟨_, rfl⟩
              have HX := Lib.hid hx
              clear hx
              cases x with
              | true =>
                have hF : frP (look ws false) n i m := by rw [look_false]; exact frB_iff.1 HX.out
                obtain ⟨r, hr, hg⟩ := fit_some hm1 hi1 hF HP.out
                have HR := Lib.hid hr
                have HGI := Lib.hid hg
                clear hr hg hF
                go_wp2_with (go_at_call 52; refine (free_ok n i m (bat ws) va vc _ HB.out hn (by omega) (by omega)).mono ?_; rintro e w3 ⟨rfl, rfl⟩; rw [HX.out])
                go_ret2
                have hgo := HG.out
                rw [HR.out] at hgo
                refine ⟨?_, R2.out.k⟩
                rw [← hgo]
                show _ = Ending.returned (.tuple #[.int .i64 ((gMax fr r : Nat) : Int), .int .i64 0])
                rw [HGI.out]; rfl
              | false =>
                have hF : Hid (¬ frP (look ws false) n i m) := Lib.hid (by rw [look_false]; intro h; have := frB_iff.2 h; rw [HX.out] at this; cases this)
                go_wp2_with (go_at_call 52; refine (free_ok n i m (bat ws) va vc _ HB.out hn (by omega) (by omega)).mono ?_; rintro e w3 ⟨rfl, rfl⟩; rw [HX.out])
                go_round
                case rel => exact ⟨i + 1, by omega, by omega, by go_num, Lib.hid (fun j h1 h2 => by
                  by_cases hji : j = i
                  · rw [hji]; exact hF.out
                  · exact HP.out j h1 (by omega))⟩
                case measure => simp [intOf]; omega
            · have hmb : decide (m ≤ n) = false := by simpa using hmn
              have HN := Lib.hid (fit_none (p := look ws false) (n := n) (m := m) (fr := fr) (fun j h1 h2 h3 => by have := h3.1; omega) hm1)
              go_wp2
              go_ret2
              have hgo := HG.out
              rw [HN.out] at hgo
              exact ⟨by rw [← hgo]; rfl, R2.out.k⟩
          · have hltb : decide (i < n) = false := by simpa using hlt
            have HN := Lib.hid (fit_none (p := look ws false) (n := n) (m := m) (fr := fr) (fun j h1 h2 h3 => HP.out j h1 (by omega) h3) hm1)
            go_wp2
            go_ret2
            have hgo := HG.out
            rw [HN.out] at hgo
            exact ⟨by rw [← hgo]; rfl, R2.out.k⟩
  · have hcb := bne0_true hc
    have E : Hid (fitE N ws m fr = chk N ws) := Lib.hid (by unfold fitE; rw [if_pos hc])
    have V : Hid (fitV N ws m fr = 0) := Lib.hid (by unfold fitV; rw [E.out, if_neg hc])
    clear hc
    go_enter Tryd.func16, Tryd.ntmps16
    go_wp2_with fail
    refine (r_check (RAt.new hs _) hw hlen).mono ?_
    rintro e w1 ⟨rfl, r1⟩
    have R1 := Lib.hid r1
    clear r1
    go_wp2
    go_ret2
    exact ⟨ret_two V.out.symm E.out.symm, R1.out.k⟩
end Go.Proofs.YtikdgnfcckenmaaDoor
