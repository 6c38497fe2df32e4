/- Clocks: the place of a name in a plan: find. -/
import Derived.Test.YtmgpdaljminipaaDoorC9N
import Derived.Test.YtmgpdaljminipaaDoorShelf
import Derived.Deep.Cut
namespace Go.Proofs.YtmgpdaljminipaaDoor
open Go.RowKit Go.Sort Go.Joins Go.Shelf
attribute [local go_sem] cell_grow frozen_grow size_grow Oper.semAt_some
theorem cmp_list : ∀ (a b : List UInt8), decide (Lib.compareBytes a b < 0) = decide (a < b) ∧ (Lib.compareBytes a b == 0) = decide (a = b)
  | [], [] => by simp [Lib.compareBytes]
  | _ :: _, [] => by simp [Lib.compareBytes]
  | [], _ :: _ => by simp [Lib.compareBytes]
  | x :: a, y :: b => by
    have ih := cmp_list a b
    rw [Lib.compareBytes]
    simp only [List.cons_lt_cons_iff, List.cons.injEq]
    by_cases h1 : x < y
    · simp [h1, UInt8.ne_of_lt h1]
    · by_cases h2 : y < x
      · have h3 : ¬ x = y := fun e => by subst e; exact h1 h2
        simp [h1, h2, h3]
      · have h3 : x = y := UInt8.le_antisymm (UInt8.not_lt.1 h2) (UInt8.not_lt.1 h1)
        simp [h1, h2, h3, ih.1, ih.2]
theorem cmp_ways (a b : ByteArray) : decide (Lib.compareBytes a.data.toList b.data.toList < 0) = nlt a b ∧ (Lib.compareBytes a.data.toList b.data.toList == 0) = decide (a = b) := by
  obtain ⟨h1, h2⟩ := cmp_list a.data.toList b.data.toList
  refine ⟨h1, h2.trans ?_⟩
  by_cases h : a = b
  · subst h; simp
  · rw [decide_eq_false h, decide_eq_false]
    exact fun e => h (ba_ext e)
set_option maxRecDepth 100000 in
theorem find1_ok (x : Al) (s : ByteArray) (w : World) : Calls Tryd.prog 57 #[aV x, .string s] w fun e w' => ∃ r : Int, e = .returned (.int .i64 r) ∧ decide (r < 0) = nlt x.1 s ∧ (r == 0) = decide (x.1 = s) ∧ Below w.heap.size w w' := by
  have HB := Lib.hid (below_box0 w (.cells #[.string x.1, .int .i64 x.2.1, .int .i64 x.2.2] 50))
  have HC := Lib.hid (Tryd.strings_Compare x.1 s)
  obtain ⟨h1, h2⟩ := cmp_ways x.1 s
  obtain ⟨r, hr⟩ : ∃ r, Lib.compareBytes x.1.data.toList s.data.toList = r := ⟨_, rfl⟩
  rw [hr] at HC h1 h2
  have H1 := Lib.hid h1
  have H2 := Lib.hid h2
  clear h1 h2 hr
  go_enter Tryd.func57, Tryd.ntmps57
  go_wp2_with fail
  refine (HC.out _).mono ?_
  rintro e w1 ⟨rfl, rfl⟩
  go_wp2
  go_ret
  exact ⟨r, rfl, H1.out, H2.out, HB.out⟩
/-- the place of a name -/
def lowI (n : Nat) (R : Nat → Al) (s : ByteArray) : Nat := nxt (fun j => !nlt (R j).1 s) 0 n
theorem low_eq {n i : Nat} {R : Nat → Al} {s : ByteArray} (hi : i ≤ n) (h1 : ∀ k, k < i → nlt (R k).1 s = true) (h2 : ∀ k, i ≤ k → k < n → nlt (R k).1 s = false) : i = lowI n R s :=
  (nxt_eq (Nat.zero_le _) (Nat.zero_le _) hi (fun k _ hk => by simp [h1 k hk]) (fun h => by simp [h2 i (Nat.le_refl _) h])).symm
section
variable {w : World} {a : Option Addr} {n c : Nat} {R : Nat → Al}
set_option maxRecDepth 100000 in
set_option maxHeartbeats 3200000 in
theorem bsf_ok (hS : SlA w a n R) (hP : PlOk n R) (s : ByteArray) :
    Calls Tryd.prog 56 #[.slice a n c, .string s, .func (.func 57) #[] #[]] w fun e w' => e = .returned (.tuple #[.int .i64 (lowI n R s), .bool (decide (lowI n R s < n) && decide ((R (lowI n R s)).1 = s))]) ∧ Below w.heap.size w w' := by
  have hn50 := hP.n50
  have HS := Lib.hid hS
  have HP := Lib.hid hP
  have eg : ∀ args w, (callFunc 57 args).run Tryd.prog w = .ok (.enter 57 args) w := enters_of Tryd.func57 (by kernel_rfl) rfl
  clear hS hP
  go_enter Tryd.func56, Tryd.ntmps56
  go_wp2
  go_loopw [9, 10] (fun o p wr => ∃ i j : Nat, o = .int .i64 i ∧ p = .int .i64 j ∧ i ≤ j ∧ j ≤ n ∧ Hid (∀ k, k < i → nlt (R k).1 s = true) ∧ Hid (∀ k, j ≤ k → k < n → nlt (R k).1 s = false) ∧ Hid (Below w.heap.size w wr)) (fun o p _ => (intOf p).toNat - (intOf o).toNat)
  case atStart => exact ⟨0, n, rfl, rfl, Nat.zero_le _, Nat.le_refl _, Lib.hid (fun k hk => by omega), Lib.hid (fun k h1 h2 => by omega), Lib.hid (Below.refl _ _)⟩
  case round =>
    obtain ⟨i, j, rfl, rfl, hij, hjn, HA, HZ, HB⟩ := hrel
    by_cases hlt : i < j
    · obtain ⟨h, hh⟩ : ∃ h : Nat, (i + j) / 2 = h := ⟨_, rfl⟩
      have hh1 : i ≤ h := by omega
      have hh2 : h < j := by omega
      obtain ⟨b, o, rfl, g0, g1, g2⟩ := (HS.out.below HB.out).at_ (show h < n by omega)
      have hbl := World.block_lt_of_cell? _ _ g0
      dsimp only at hbl
      have hI : ((i : Int) + (j : Int)) / 2 = (h : Int) := by omega
      have HC := Lib.hid (find1_ok (R h) s wr)
      have hhi : (h : Int) < (n : Int) := by omega
      have hh0 : (0 : Int) ≤ (h : Int) := by omega
      clear hh
      cases hnl : nlt (R h).1 s
      all_goals
        rw [hnl] at HC
        have HN := Lib.hid hnl
        clear hnl
        go_wp2_with (go_at_fn 57; refine HC.out.mono ?_; rintro e' w1 ⟨r, rfl, hr1, _, b1⟩; have HB1 := Lib.hid (below_tr HB.out b1); clear b1)
      · go_roundw
        case rel => exact ⟨i, h, rfl, rfl, hh1, by omega, HA, Lib.hid (fun k h1 h2 => by
          by_cases ek : k = h
          · rw [ek]; exact HN.out
          · cases hk : nlt (R k).1 s with
            | false => rfl
            | true => have := nlt_tr (HP.out.up h k (by omega) h2) hk; rw [HN.out] at this; cases this), HB1⟩
        case measure => simp [intOf]; omega
      · go_roundw
        case rel => exact ⟨h + 1, j, by go_num, rfl, by omega, hjn, Lib.hid (fun k h1 => by
          by_cases ek : k = h
          · rw [ek]; exact HN.out
          · exact nlt_tr (HP.out.up k h (by omega) (by omega)) HN.out), HZ, HB1⟩
        case measure => simp [intOf]; omega
    · obtain rfl : i = j := by omega
      have hlow := low_eq (by omega) HA.out HZ.out
      have HL := Lib.hid hlow
      clear hlow
      by_cases hin : i < n
      · obtain ⟨b, o, rfl, g0, g1, g2⟩ := (HS.out.below HB.out).at_ hin
        have hbl := World.block_lt_of_cell? _ _ g0
        dsimp only at hbl
        have hhi : (i : Int) < (n : Int) := by omega
        have hh0 : (0 : Int) ≤ (i : Int) := by omega
        have HC := Lib.hid (find1_ok (R i) s wr)
        go_wp2_with (go_at_fn 57; refine HC.out.mono ?_; rintro e' w1 ⟨r, rfl, _, hr2, b1⟩; have HB1 := Lib.hid (below_tr HB.out b1); clear b1)
        go_ret2
        refine ⟨?_, HB1.out⟩
        rw [← HL.out, decide_eq_true hin, Bool.true_and]
        rfl
      · have hni : decide ((i : Int) < (n : Int)) = false := decide_eq_false (by omega)
        go_wp2
        go_ret2
        refine ⟨?_, HB.out⟩
        rw [← HL.out, decide_eq_false hin, Bool.false_and]
        rfl
theorem find_ok (hS : SlA w a n R) (hP : PlOk n R) (s : ByteArray) :
    Calls Tryd.prog 39 #[pV a n c, .string s] w fun e w' => e = .returned (.tuple #[.int .i64 (lowI n R s), .bool (decide (lowI n R s < n) && decide ((R (lowI n R s)).1 = s))]) ∧ Below w.heap.size w w' := by
  have b0 := below_box0 w (.cells #[.slice a n c] 44)
  have HB0 := Lib.hid b0
  have HF := Lib.hid (bsf_ok (c := c) (hS.below b0) hP s)
  obtain ⟨i, hi⟩ : ∃ i, lowI n R s = i := ⟨_, rfl⟩
  rw [hi] at HF ⊢
  obtain ⟨q, hq⟩ : ∃ q, (decide (i < n) && decide ((R i).1 = s)) = q := ⟨_, rfl⟩
  rw [hq] at HF ⊢
  clear b0 hS hi hq
  go_enter Tryd.func39, Tryd.ntmps39
  go_wp2_with fail
  refine HF.out.mono ?_
  rintro e w1 ⟨rfl, b1⟩
  have HB1 := Lib.hid (below_tr HB0.out b1)
  clear b1
  go_wp2
  go_ret2
  exact ⟨rfl, HB1.out⟩
end
end Go.Proofs.YtmgpdaljminipaaDoor
