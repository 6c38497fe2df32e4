/- Clocks: the checks of an alarm and of a plan: program and reference. | Clocks: Count, Set, Age; plans that are not examined. | A range over a function whose iterator knows what the loop keeps: the loop's invariant I is told to the iterator, and the iterator tells the loop's body G of what it hands over. No program. -/
import Derived.Test.YtjceahbikdncmaaDoorPZ3
import Derived.Test.YtjceahbikdncmaaDoorPZ1
import Derived.RangeFuncNested
import Derived.RangeFuncBound
import Derived.RangeFuncCalls
import Derived.RangeFuncLeaves
namespace Go.Proofs.YtjceahbikdncmaaDoor
open Go.RowKit Go.Sort Go.Joins
attribute [local go_sem] cell_grow frozen_grow size_grow
theorem alE_ways' {C : Int → Prop} (x : Al) (h1 : nmB x.1 = false → C 6) (h2 : nmB x.1 = true → tmB x.2.1 = false → C 7) (h3 : nmB x.1 = true → tmB x.2.1 = true → tmB x.2.2 = false → C 7) (h4 : nmB x.1 = true → tmB x.2.1 = true → tmB x.2.2 = true → C 0) : C (alE x) := by
  unfold alE
  cases e1 : nmB x.1
  · exact h1 e1
  · cases e2 : tmB x.2.1
    · simpa using h2 e1 e2
    · cases e3 : tmB x.2.2
      · simpa using h3 e1 e2 e3
      · simpa using h4 e1 e2 e3
set_option maxRecDepth 100000 in
set_option maxHeartbeats 1600000 in
theorem checkAlarm_ok (x : Al) (hx : x.1.size ≤ 9223372036854775807) (w : World) :
    Calls Tryd.prog 41 #[aV x] w fun e w' => e = .returned (.int .i64 (alE x)) ∧ Below w.heap.size w w' := by
  have HB := Lib.hid (below_box0 w (.cells #[.string x.1, .int .i64 x.2.1, .int .i64 x.2.2] 47))
  have HN := Lib.hid (name_ok x.1 hx)
  have HT1 := Lib.hid (isTime_ok x.2.1)
  have HT2 := Lib.hid (isTime_ok x.2.2)
  refine alE_ways' (C := fun r => Calls Tryd.prog 41 #[aV x] w fun e w' => e = .returned (.int .i64 r) ∧ Below w.heap.size w w') x (fun e1 => ?_) (fun e1 e2 => ?_) (fun e1 e2 e3 => ?_) (fun e1 e2 e3 => ?_)
  all_goals
    rw [e1] at HN
    try rw [e2] at HT1
    try rw [e3] at HT2
    obtain ⟨s, t, p⟩ := x
    dsimp only at HN HT1 HT2 HB hx
    try clear e3
    try clear e2
    clear e1
    go_enter Tryd.func41, Tryd.ntmps41
    go_wp2_with (first | (go_at_call 54; refine (HN.out _).mono ?_; rintro e w1 ⟨rfl, rfl⟩) | (go_at_call 38; first | ((with_reducible refine (HT1.out _).mono ?_); rintro e w1 ⟨rfl, rfl⟩) | ((with_reducible refine (HT2.out _).mono ?_); rintro e w1 ⟨rfl, rfl⟩)))
    go_ret
    exact ⟨rfl, HB.out⟩
set_option maxRecDepth 100000 in
set_option maxHeartbeats 1600000 in
theorem ralarm_ok (x : Al) (hx : x.1.size ≤ 9223372036854775807) (w : World) :
    Calls Tryd.prog 42 #[aV x] w fun e w' => e = .returned (.int .i64 (alE x)) ∧ Below w.heap.size w w' := by
  have HB := Lib.hid (below_box0 w (.cells #[.string x.1, .int .i64 x.2.1, .int .i64 x.2.2] 47))
  have HN := Lib.hid (rname_ok x.1 hx)
  have HT1 := Lib.hid (rtime_ok x.2.1)
  have HT2 := Lib.hid (rtime_ok x.2.2)
  refine alE_ways' (C := fun r => Calls Tryd.prog 42 #[aV x] w fun e w' => e = .returned (.int .i64 r) ∧ Below w.heap.size w w') x (fun e1 => ?_) (fun e1 e2 => ?_) (fun e1 e2 e3 => ?_) (fun e1 e2 e3 => ?_)
  all_goals
    rw [e1] at HN
    try rw [e2] at HT1
    try rw [e3] at HT2
    obtain ⟨s, t, p⟩ := x
    dsimp only at HN HT1 HT2 HB hx
    try clear e3
    try clear e2
    clear e1
    go_enter Tryd.func42, Tryd.ntmps42
    go_wp2_with (first | (go_at_call 55; refine (HN.out _).mono ?_; rintro e w1 ⟨rfl, rfl⟩) | (go_at_call 35; first | ((with_reducible refine (HT1.out _).mono ?_); rintro e w1 ⟨rfl, rfl⟩) | ((with_reducible refine (HT2.out _).mono ?_); rintro e w1 ⟨rfl, rfl⟩)))
    go_ret
    exact ⟨rfl, HB.out⟩
/-- the value of a plan -/
abbrev pV (a : Option Addr) (n c : Nat) : Value := .agg #[.slice a n c]
/-- the last name before a place -/
def lastN (R : Nat → Al) (k : Nat) : ByteArray := if k = 0 then ⟨#[]⟩ else (R (k - 1)).1
theorem str_eq (a b : ByteArray) : (a.toList == b.toList) = decide (a = b) := by
  rw [Bool.eq_iff_iff]
  simp only [beq_iff_eq, decide_eq_true_eq]
  constructor
  · intro h; rw [Lib.toList_data, Lib.toList_data] at h; exact ba_ext h
  · intro h; rw [h]
theorem bless_eq : ∀ (x y : List UInt8), Op.bytesLess x y = decide (x < y)
  | [], [] => by simp [Op.bytesLess]
  | _ :: _, [] => by simp [Op.bytesLess]
  | [], _ :: _ => by simp [Op.bytesLess]
  | a :: x, b :: y => by
    have ih := bless_eq x y
    rw [Op.bytesLess, ih]
    simp only [List.cons_lt_cons_iff]
    by_cases h1 : a < b <;> by_cases h2 : a = b <;> by_cases h3 : x < y <;> simp [h1, h2, h3]
theorem str_lt (a b : ByteArray) : Op.bytesLess a.toList b.toList = nlt a b := by
  rw [bless_eq, Lib.toList_data, Lib.toList_data]; rfl
/-- the ways in which a place of a plan is judged -/
theorem er_ways {R : Nat → Al} {k : Nat} (hn : alE (R k) = 0 → nmB (R k).1 = true) :
    (alE (R k) ≠ 0 ∧ erA R k = alE (R k)) ∨
    (alE (R k) = 0 ∧ ((R k).1.toList == (lastN R k).toList) = true ∧ 0 < k ∧ erA R k = 8) ∨
    (alE (R k) = 0 ∧ ((R k).1.toList == (lastN R k).toList) = false ∧ Op.bytesLess (R k).1.toList (lastN R k).toList = true ∧ 0 < k ∧ erA R k = 6) ∨
    (alE (R k) = 0 ∧ ((R k).1.toList == (lastN R k).toList) = false ∧ Op.bytesLess (R k).1.toList (lastN R k).toList = false ∧ erA R k = 0) := by
  rw [str_eq, str_lt]
  by_cases h0 : alE (R k) = 0
  · right
    unfold lastN
    by_cases hk : k = 0
    · subst hk
      right; right
      have hs := nmB_size (hn h0)
      rw [if_pos rfl]
      refine ⟨h0, ?_, ?_, ?_⟩
      · rw [decide_eq_false_iff_not]; intro e; rw [e] at hs; have : (⟨#[]⟩ : ByteArray).size = 0 := rfl; omega
      · unfold nlt; simp
      · unfold erA; rw [if_neg (by simpa using h0), if_neg (fun hh => absurd hh.1 (Nat.lt_irrefl 0)), if_neg (fun hh => absurd hh.1 (Nat.lt_irrefl 0))]
    · rw [if_neg hk]
      by_cases h1 : (R k).1 = (R (k - 1)).1
      · left
        refine ⟨h0, by simpa using h1, by omega, ?_⟩
        unfold erA; rw [if_neg (by simpa using h0), if_pos ⟨by omega, h1⟩]
      · right
        have e1 : decide ((R k).1 = (R (k - 1)).1) = false := by simpa using h1
        cases h2 : nlt (R k).1 (R (k - 1)).1
        · right
          refine ⟨h0, e1, rfl, ?_⟩
          unfold erA; rw [if_neg (by simpa using h0), if_neg (fun hh => h1 hh.2), if_neg (by simp [h2])]
        · left
          refine ⟨h0, e1, rfl, by omega, ?_⟩
          unfold erA; rw [if_neg (by simpa using h0), if_neg (fun hh => h1 hh.2), if_pos ⟨by omega, h2⟩]
  · left
    refine ⟨h0, ?_⟩
    unfold erA; rw [if_pos h0]
section
variable {w : World} {a : Option Addr} {n c : Nat} {R : Nat → Al}
set_option maxRecDepth 100000 in
set_option maxHeartbeats 1600000 in
theorem check_ok (hS : SlA w a n R) (hn : n ≤ 9223372036854775807) (hR : ∀ j, j < n → AlB (R j)) :
    Calls Tryd.prog 25 #[pV a n c] w fun e w' => e = .returned (.tuple #[.int .i64 (cI n R), .int .i64 (cE n R)]) ∧ Below w.heap.size w w' := by
  have HB0 := Lib.hid (below_box0 w (.cells #[.slice a n c] 24))
  by_cases hl : 50 < n
  · have d : decide ((50 : Int) < (n : Int)) = true := by simp; omega
    have HP := Lib.hid (c_long (R := R) hl)
    clear hS hl hR
    go_enter Tryd.func25, Tryd.ntmps25
    go_wp2
    go_ret2
    exact ⟨ret_two HP.out.1 HP.out.2, HB0.out⟩
  · have d : decide ((50 : Int) < (n : Int)) = false := by simp; omega
    have HL := Lib.hid hl
    have HS := Lib.hid hS
    have HR := Lib.hid hR
    clear hS hl hR
    go_enter Tryd.func25, Tryd.ntmps25
    go_wp2
    go_loopw [4, 15] (fun s i wr => ∃ k : Nat, i = .int .i64 k ∧ k ≤ n ∧ s = .string (lastN R k) ∧ Hid (Below w.heap.size w wr) ∧ Hid (∀ j, j < k → erA R j = 0)) (fun _ i _ => n - (intOf i).toNat)
    case atStart => exact ⟨0, rfl, Nat.zero_le _, rfl, HB0, Lib.hid (fun j hj => by omega)⟩
    case round =>
      obtain ⟨k, rfl, hk, rfl, HB, HA⟩ := hrel
      clear HB0
      by_cases hlt : k < n
      · obtain ⟨b, o, rfl, g0, g1, g2⟩ := (HS.out.below HB.out).at_ hlt
        have hbl := World.block_lt_of_cell? _ _ g0
        dsimp only at hbl
        have hml : maxLen ≤ 9223372036854775807 := by decide
        have HC := Lib.hid (checkAlarm_ok (R k) (Nat.le_trans (HR.out k hlt).1 hml))
        have hways := er_ways (R := R) (k := k) (fun h => (alE_zero h).1)
        obtain ⟨e, he⟩ : ∃ e, alE (R k) = e := ⟨_, rfl⟩
        rw [he] at HC hways
        have hnext : lastN R (k + 1) = (R k).1 := by unfold lastN; rw [if_neg (by omega), Nat.add_sub_cancel]
        have HNX := Lib.hid hnext
        obtain ⟨ln, hln⟩ : ∃ ln, lastN R k = ln := ⟨_, rfl⟩
        rw [hln] at hways ⊢
        clear he hml hnext hln
        rcases hways with ⟨h0, her⟩ | ⟨h0, q1, hpos, her⟩ | ⟨h0, q1, q2, hpos, her⟩ | ⟨h0, q1, q2, her⟩
        all_goals
          have HER := Lib.hid her
          clear her
          first
            | (have d0 : (e != 0) = true := bne0_true h0
               have H0 := Lib.hid h0
               clear h0)
            | (subst h0)
          go_wp2_with fail
          refine (HC.out _).mono ?_
          rintro e' w1 ⟨rfl, b1⟩
          have hz1 : wr.heap.size < w1.heap.size := by have := b1.size; simp at this; omega
          have k0 : w1.cell? ⟨wr.heap.size, 0, none⟩ = some (.string (R k).1) := cell_later b1 (by simp [go_sem])
          have HB1 := Lib.hid (HB.out.trans (((below_box0 _ _).trans (b1.mono (by simp))).mono HB.out.size))
          clear b1
          go_wp2
          first
            | (go_roundw
               case rel => exact ⟨k + 1, by go_num, by omega, by rw [HNX.out], HB1, Lib.hid (fun j hj => by
                 by_cases ej : j = k
                 · rw [ej]; exact HER.out
                 · exact HA.out j (by omega))⟩
               case measure => simp [intOf]; omega)
            | (go_ret2
               have := c_bad HL.out hlt (by rw [HER.out]; first | exact H0.out | decide) HA.out
               exact ⟨ret_two this.1 (by rw [← this.2, HER.out]), HB1.out⟩)
      · obtain rfl : k = n := by omega
        go_wp2
        go_ret2
        have := c_good HL.out HA.out
        exact ⟨ret_two this.1 this.2, HB.out⟩
end
end Go.Proofs.YtjceahbikdncmaaDoor

namespace Go.Proofs.YtjceahbikdncmaaDoor
open Go.RowKit Go.Sort Go.Joins
attribute [local go_sem] cell_grow frozen_grow size_grow
/-- the ways in which an alarm is counted -/
theorem cnt_ways {a : Int × Int} (h : AlOk a) {u : Int} (h0 : 0 ≤ u) (h1 : u ≤ 1000000000000) :
    (decide (u < a.1) = true ∧ decide (a.1 ≤ u) = false ∧ cntA a u = 0) ∨
    (decide (u < a.1) = false ∧ decide (a.1 ≤ u) = true ∧ (a.2 == 0) = true ∧ decide (0 < a.2) = false ∧ cntA a u = 1) ∨
    (∃ q : Int, decide (u < a.1) = false ∧ decide (a.1 ≤ u) = true ∧ (a.2 == 0) = false ∧ decide (0 < a.2) = true ∧ (u - a.1) / a.2 = q ∧ 1 ≤ a.2 ∧ a.2 ≤ 1000000000000 ∧ a.1 ≤ u ∧ 0 ≤ q ∧ q ≤ 1000000000000 ∧ 0 ≤ (q + 1) * a.2 ∧ (q + 1) * a.2 ≤ 2000000000000 ∧ cntA a u = q + 1) := by
  have a0 := h.a0
  have e0 := h.e0
  have e1 := h.e1
  unfold MT at e1
  unfold cntA
  by_cases g1 : u < a.1
  · exact .inl ⟨by simpa using g1, by simp; omega, if_pos g1⟩
  rw [if_neg g1]
  by_cases g2 : a.2 = 0
  · exact .inr (.inl ⟨by simpa using g1, by simp; omega, by simpa using g2, by simp; omega, if_pos g2⟩)
  rw [if_neg g2]
  have k1 : 0 ≤ (u - a.1) / a.2 := Int.ediv_nonneg (by omega) (by omega)
  have k2 : (u - a.1) / a.2 * a.2 ≤ u - a.1 := Int.ediv_mul_le _ g2
  have k4 : (u - a.1) / a.2 * 1 ≤ (u - a.1) / a.2 * a.2 := Int.mul_le_mul_of_nonneg_left (by omega) k1
  have em : ((u - a.1) / a.2 + 1) * a.2 = (u - a.1) / a.2 * a.2 + a.2 := by rw [Int.add_mul, Int.one_mul]
  exact .inr (.inr ⟨_, by simpa using g1, by simp; omega, by simpa using g2, by simp; omega, rfl, by omega, by omega, by omega, k1, by omega, by omega, by omega, rfl⟩)
theorem MT_eq : MT = 1000000000000 := rfl
section
variable {w : World} {a : Option Addr} {n c : Nat} {R : Nat → Al}
set_option maxRecDepth 100000 in
set_option maxHeartbeats 3200000 in
theorem count_ok (hS : SlA w a n R) (hn : n ≤ 9223372036854775807) (hR : ∀ j, j < n → AlB (R j)) (u : Int) :
    Calls Tryd.prog 13 #[pV a n c, .int .i64 u] w fun e w' => e = .returned (.tuple #[.int .i64 (ctV n R u), .int .i64 (ctE n R u)]) ∧ Below w.heap.size w w' := by
  have b0 := below_box0 w (.cells #[.slice a n c] 24)
  have HB0 := Lib.hid b0
  have HS := Lib.hid (hS.below b0)
  have HC := Lib.hid (check_ok (c := c) HS.out hn hR)
  have HT := Lib.hid (isTime_ok u)
  obtain ⟨p, hp⟩ : ∃ p, cE n R = p := ⟨_, rfl⟩
  clear b0 hS hR
  by_cases h0 : p = 0
  · subst h0
    cases ht : tmB u
    · have HV : Hid (ctV n R u = 0 ∧ ctE n R u = 7) := Lib.hid (by
        have he : ctE n R u = 7 := by unfold ctE; rw [if_neg (by simpa using hp), if_neg (by simp [ht])]
        exact ⟨by unfold ctV; rw [he, if_neg (by decide)], he⟩)
      rw [hp] at HC
      rw [ht] at HT
      clear hp ht
      go_enter Tryd.func13, Tryd.ntmps13
      go_wp2_with fail
      refine HC.out.mono ?_
      rintro e w1 ⟨rfl, b1⟩
      have HB1 := Lib.hid (below_tr HB0.out b1)
      clear b1
      go_wp2_with (go_at_call 38; refine (HT.out _).mono ?_; rintro e w2 ⟨rfl, rfl⟩)
      go_ret2
      exact ⟨ret_two HV.out.1.symm HV.out.2.symm, HB1.out⟩
    · have hu := tmB_yes.1 ht
      have hct := ctE_of hp hu.1 hu.2
      have HV : Hid (ctV n R u = sumA R u n ∧ ctE n R u = 0) := Lib.hid ⟨by unfold ctV; rw [if_pos hct], hct⟩
      have HO := Lib.hid (cE_zero hp)
      have hn50 := HO.out.n50
      obtain ⟨hu0, hu1⟩ := hu
      rw [hp] at HC
      rw [ht] at HT
      clear hp ht hct
      go_enter Tryd.func13, Tryd.ntmps13
      go_wp2_with fail
      refine HC.out.mono ?_
      rintro e w1 ⟨rfl, b1⟩
      have k0 : w1.cell? ⟨w.heap.size, 0, none⟩ = some (.slice a n c) := cell_later b1 (by simp [go_sem])
      have HB1 := Lib.hid (below_tr HB0.out b1)
      have HS1 := Lib.hid (HS.out.below b1)
      clear b1
      go_wp2_with (go_at_call 38; refine (HT.out _).mono ?_; rintro e w2 ⟨rfl, rfl⟩)
      clear k0
      go_loopw [8, 25] (fun s i wr => ∃ k : Nat, ∃ y : Int, i = .int .i64 k ∧ k ≤ n ∧ s = .int .i64 y ∧ 0 ≤ y ∧ y ≤ 1000000000001 * (k : Int) ∧ Hid (y = sumA R u k) ∧ Hid (Below w1.heap.size w1 wr)) (fun _ i _ => n - (intOf i).toNat)
      case atStart => exact ⟨0, 0, rfl, Nat.zero_le _, rfl, Int.le_refl _, by simp, Lib.hid rfl, Lib.hid (Below.refl _ _)⟩
      case round =>
        obtain ⟨k, y, rfl, hk, rfl, hy0, hy1, HY, HB⟩ := hrel
        by_cases hlt : k < n
        · obtain ⟨b, o, rfl, g0, g1, g2⟩ := (HS1.out.below HB.out).at_ hlt
          have hbl := World.block_lt_of_cell? _ _ g0
          dsimp only at hbl
          have hal := HO.out.ok k hlt
          have a0 := hal.a0
          have a1 := hal.a1
          rw [MT_eq] at a1
          have hw := cnt_ways hal hu0 hu1
          have hs : sumA R u (k + 1) = y + cntA (R k).2 u := by rw [HY.out]; rfl
          have hge := cntA_ge hal (u := u) (by rw [MT_eq]; exact hu1)
          have HSu := Lib.hid (And.intro hs hge)
          clear hal hs hge
          rcases hw with ⟨d1, _, hv⟩ | ⟨d1, _, d2, _, hv⟩ | ⟨q, d1, _, d2, _, d3, e1, e2, e3, e4, e5, e6, e7, hv⟩
          all_goals
            have HVa := Lib.hid hv
            clear hv
            go_wp2
            go_roundw
            case rel => exact ⟨k + 1, _, by go_num, by omega, rfl, by omega, by omega, Lib.hid (by have e1 := HSu.out.1; rw [HVa.out] at e1; omega), Lib.hid (HB.out.trans ((below_box0 _ _).mono HB.out.size))⟩
            case measure => simp [intOf]; omega
        · obtain rfl : k = n := by omega
          go_wp2
          go_ret2
          exact ⟨ret_two (by rw [HV.out.1, HY.out]) HV.out.2.symm, HB1.out.trans (HB.out.mono HB1.out.size)⟩
  · have d0 : (p != 0) = true := bne0_true h0
    have HV : Hid (ctV n R u = 0 ∧ ctE n R u = p) := Lib.hid (by
      have he : ctE n R u = p := by unfold ctE; rw [if_pos (by rw [hp]; exact h0), hp]
      exact ⟨by unfold ctV; rw [he, if_neg h0], he⟩)
    rw [hp] at HC
    clear hp h0
    go_enter Tryd.func13, Tryd.ntmps13
    go_wp2_with fail
    refine HC.out.mono ?_
    rintro e w1 ⟨rfl, b1⟩
    have HB1 := Lib.hid (below_tr HB0.out b1)
    clear b1
    go_wp2
    go_ret2
    exact ⟨ret_two HV.out.1.symm HV.out.2.symm, HB1.out⟩
end
/-- what Set answers -/
def setE (x t : Int) : Int := if tmB x = false then 2 else if tmB t = false then 7 else 0
def setV (x t : Int) : Int := if setE x t = 0 then max x t else 0
set_option maxRecDepth 100000 in
set_option maxHeartbeats 1600000 in
theorem set_ok (x t : Int) (w : World) :
    Calls Tryd.prog 17 #[.agg #[.int .i64 x], .int .i64 t] w fun e w' => e = .returned (.tuple #[.agg #[.int .i64 (setV x t)], .int .i64 (setE x t)]) ∧ Below w.heap.size w w' := by
  have HT1 := Lib.hid (isTime_ok x)
  have HT2 := Lib.hid (isTime_ok t)
  have HB : Hid (Below w.heap.size w ((w.alloc (.cells #[.int .i64 x] 38)).alloc (.cells #[.int .i64 0] 38))) := Lib.hid (((Below.refl _ w).alloc (Nat.le_refl _) _).alloc (by simp) _)
  obtain ⟨e, he⟩ : ∃ e, setE x t = e := ⟨_, rfl⟩
  obtain ⟨v, hv⟩ : ∃ v, setV x t = v := ⟨_, rfl⟩
  have hc : (tmB x = false ∧ e = 2 ∧ v = 0) ∨ (tmB x = true ∧ tmB t = false ∧ e = 7 ∧ v = 0) ∨ (tmB x = true ∧ tmB t = true ∧ decide (x < t) = true ∧ e = 0 ∧ t = v) ∨ (tmB x = true ∧ tmB t = true ∧ decide (x < t) = false ∧ e = 0 ∧ x = v) := by
    unfold setV at hv
    rw [he] at hv
    unfold setE at he
    cases e1 : tmB x
    · rw [e1] at he; simp at he; subst he; simp at hv; exact .inl ⟨rfl, rfl, hv.symm⟩
    · cases e2 : tmB t
      · rw [e1, e2] at he; simp at he; subst he; simp at hv; exact .inr (.inl ⟨rfl, rfl, rfl, hv.symm⟩)
      · rw [e1, e2] at he; simp at he; subst he; simp at hv
        by_cases h : x < t
        · exact .inr (.inr (.inl ⟨rfl, rfl, by simpa using h, rfl, by omega⟩))
        · exact .inr (.inr (.inr ⟨rfl, rfl, by simpa using h, rfl, by omega⟩))
  rw [he, hv]
  clear he hv
  rcases hc with ⟨e1, rfl, rfl⟩ | ⟨e1, e2, rfl, rfl⟩ | ⟨e1, e2, d, rfl, rfl⟩ | ⟨e1, e2, d, rfl, rfl⟩
  all_goals
    rw [e1] at HT1
    clear e1
    first
      | (rw [e2] at HT2; clear e2)
      | skip
    go_enter Tryd.func17, Tryd.ntmps17
    go_wp2_with (go_at_call 38; first | ((with_reducible refine (HT1.out _).mono ?_); rintro e w1 ⟨rfl, rfl⟩) | ((with_reducible refine (HT2.out _).mono ?_); rintro e w1 ⟨rfl, rfl⟩))
    first
      | exact bodyPost_ret (v := .tuple #[.agg #[.int .i64 0], .int .i64 2]) (by simp [results, Tryd.results17, go_sem]) rfl ⟨rfl, ((Below.refl _ w).alloc (Nat.le_refl _) _).alloc (by simp) _⟩
      | exact bodyPost_ret (v := .tuple #[.agg #[.int .i64 0], .int .i64 7]) (by simp [results, Tryd.results17, go_sem]) rfl ⟨rfl, ((Below.refl _ w).alloc (Nat.le_refl _) _).alloc (by simp) _⟩
      | exact bodyPost_ret (v := .tuple #[.agg #[.int .i64 t], .int .i64 0]) (by simp [results, Tryd.results17, go_sem]) rfl ⟨rfl, ((Below.refl _ w).alloc (Nat.le_refl _) _).alloc (by simp) _⟩
      | exact bodyPost_ret (v := .tuple #[.agg #[.int .i64 x], .int .i64 0]) (by simp [results, Tryd.results17, go_sem]) rfl ⟨rfl, ((Below.refl _ w).alloc (Nat.le_refl _) _).alloc (by simp) _⟩
/-- what Age answers -/
def ageE (x t : Int) : Int := if tmB x = false then 2 else if t < 0 ∨ x < t then 7 else 0
def ageV (x t : Int) : Int := if ageE x t = 0 then x - t else 0
set_option maxRecDepth 100000 in
set_option maxHeartbeats 1600000 in
theorem age_ok (x t : Int) (w : World) :
    Calls Tryd.prog 18 #[.agg #[.int .i64 x], .int .i64 t] w fun e w' => e = .returned (.tuple #[.int .i64 (ageV x t), .int .i64 (ageE x t)]) ∧ Below w.heap.size w w' := by
  have HT1 := Lib.hid (isTime_ok x)
  have HB := Lib.hid (below_box0 w (.cells #[.int .i64 x] 38))
  obtain ⟨e, he⟩ : ∃ e, ageE x t = e := ⟨_, rfl⟩
  obtain ⟨v, hv⟩ : ∃ v, ageV x t = v := ⟨_, rfl⟩
  have hc : (tmB x = false ∧ e = 2 ∧ v = 0) ∨ (tmB x = true ∧ decide (t < 0) = true ∧ e = 7 ∧ v = 0) ∨ (tmB x = true ∧ decide (t < 0) = false ∧ decide (x < t) = true ∧ e = 7 ∧ v = 0) ∨ (tmB x = true ∧ decide (t < 0) = false ∧ decide (x < t) = false ∧ e = 0 ∧ v = x - t ∧ 0 ≤ t ∧ t ≤ x ∧ x ≤ 1000000000000) := by
    unfold ageV at hv
    rw [he] at hv
    unfold ageE at he
    cases e1 : tmB x
    · rw [e1] at he; simp at he; subst he; simp at hv; exact .inl ⟨rfl, rfl, hv.symm⟩
    · rw [e1, if_neg (by decide)] at he
      have hb := tmB_yes.1 e1
      by_cases h1 : t < 0
      · rw [if_pos (.inl h1)] at he; subst he; simp at hv; exact .inr (.inl ⟨rfl, by simpa using h1, rfl, hv.symm⟩)
      · by_cases h2 : x < t
        · rw [if_pos (.inr h2)] at he; subst he; simp at hv; exact .inr (.inr (.inl ⟨rfl, by simpa using h1, by simpa using h2, rfl, hv.symm⟩))
        · rw [if_neg (by omega)] at he; subst he; simp at hv; exact .inr (.inr (.inr ⟨rfl, by simpa using h1, by simpa using h2, rfl, hv.symm, by omega, by omega, hb.2⟩))
  rw [he, hv]
  clear he hv
  rcases hc with ⟨e1, rfl, rfl⟩ | ⟨e1, d1, rfl, rfl⟩ | ⟨e1, d1, d2, rfl, rfl⟩ | ⟨e1, d1, d2, rfl, rfl, d3, d4, d5⟩
  all_goals
    rw [e1] at HT1
    clear e1
    go_enter Tryd.func18, Tryd.ntmps18
    go_wp2_with (go_at_call 38; (with_reducible refine (HT1.out _).mono ?_); rintro e w1 ⟨rfl, rfl⟩)
    go_ret2
    exact ⟨rfl, HB.out⟩
section
variable {w : World} {a : Option Addr} {n c : Nat} {R : Nat → Al}
/-- a plan that is not examined -/
def farB (n : Nat) (R : Nat → Al) : Bool := decide (60 < n) || (List.range n).any (fun i => decide (100 < (R i).1.size))
theorem farB_long {n : Nat} {R : Nat → Al} (h : 60 < n) : farB n R = true := by unfold farB; simp [h]
theorem farB_name {n : Nat} {R : Nat → Al} {i : Nat} (hi : i < n) (h : 100 < (R i).1.size) : farB n R = true := by
  unfold farB
  rw [show (List.range n).any (fun i => decide (100 < (R i).1.size)) = true from List.any_eq_true.2 ⟨i, List.mem_range.2 hi, by simpa using h⟩]
  simp
theorem farB_no {n : Nat} {R : Nat → Al} (h : ¬ 60 < n) (k : ∀ i, i < n → (R i).1.size ≤ 100) : farB n R = false := by
  unfold farB
  rw [show (List.range n).any (fun i => decide (100 < (R i).1.size)) = false from ?_]
  · simpa using h
  · rw [Bool.eq_false_iff]
    intro hh
    obtain ⟨i, hi, hj⟩ := List.any_eq_true.1 hh
    have := k i (List.mem_range.1 hi)
    simp at hj
    omega
set_option maxRecDepth 100000 in
set_option maxHeartbeats 1600000 in
theorem far_ok (hS : SlA w a n R) (hn : n ≤ 9223372036854775807) (hR : ∀ j, j < n → AlB (R j)) :
    Calls Tryd.prog 9 #[pV a n c] w fun e w' => e = .returned (.bool (farB n R)) ∧ Below w.heap.size w w' := by
  have b0 := below_box0 w (.cells #[.slice a n c] 24)
  have HB0 := Lib.hid b0
  by_cases hl : 60 < n
  · have d : decide ((60 : Int) < (n : Int)) = true := by simp; omega
    have HF := Lib.hid (farB_long (R := R) hl)
    clear hS hl hR b0
    go_enter Tryd.func9, Tryd.ntmps9
    go_wp2
    go_ret
    exact ⟨ret_bool HF.out.symm, HB0.out⟩
  · have d : decide ((60 : Int) < (n : Int)) = false := by simp; omega
    have HL := Lib.hid hl
    have HS := Lib.hid (hS.below b0)
    have HR := Lib.hid hR
    clear hS hl hR b0
    go_enter Tryd.func9, Tryd.ntmps9
    go_wp2
    obtain ⟨W, hW⟩ : ∃ W, w.alloc (.cells #[.slice a n c] 24) = W := ⟨_, rfl⟩
    have c0 : W.cell? ⟨w.heap.size, 0, none⟩ = some (.slice a n c) := by rw [← hW]; simp [go_sem]
    rw [hW] at HB0 HS ⊢
    clear hW
    go_loop [3] (fun i => ∃ k : Nat, i = .int .i64 k ∧ k ≤ n ∧ Hid (∀ j, j < k → (R j).1.size ≤ 100)) (fun i => n - (intOf i).toNat)
    case atStart => exact ⟨0, rfl, Nat.zero_le _, Lib.hid (fun j hj => by omega)⟩
    case round =>
      obtain ⟨k, rfl, hk, HA⟩ := hrel
      by_cases hlt : k < n
      · obtain ⟨b, o, rfl, g0, g1, g2⟩ := HS.out.at_ hlt
        have hml : maxLen ≤ 9223372036854775807 := by decide
        have hsz := Nat.le_trans (HR.out k hlt).1 hml
        by_cases h1 : 100 < (R k).1.size
        · have d1 : decide ((100 : Int) < ((R k).1.size : Int)) = true := by simp; omega
          have HF := Lib.hid (farB_name hlt h1)
          clear h1 hml
          go_wp2
          go_ret
          exact ⟨ret_bool HF.out.symm, HB0.out⟩
        · have d1 : decide ((100 : Int) < ((R k).1.size : Int)) = false := by simp; omega
          have H1 := Lib.hid h1
          clear h1 hml
          go_wp2
          go_round
          case rel => exact ⟨k + 1, by go_num, by omega, Lib.hid (fun j hj => by
            by_cases ej : j = k
            · rw [ej]; have := H1.out; omega
            · exact HA.out j (by omega))⟩
          case measure => simp [intOf]; omega
      · obtain rfl : k = n := by omega
        go_wp2
        go_ret
        exact ⟨ret_bool (farB_no HL.out HA.out).symm, HB0.out⟩
end
end Go.Proofs.YtjceahbikdncmaaDoor

namespace Go.Proofs.YtjceahbikdncmaaDoor
open Go.RowKit

/-- what an iterator promises to a loop that keeps I -/
def SeqI {α : Type} (F : Fence) (n : Nat) (P : Program) (gf : Nat) (lb : Array Value) (encs : α → Array Value) (I : List α → World → Prop) (G : List α → α → Prop) (S : List α → Prop) (w : World) : Prop :=
  ∀ (l : Nat) (J Jx : List α → World → Prop) (W : World), Below w.heap.size w W → AbidesFrom W.heap.size J → AbidesFrom W.heap.size Jx → (∀ pre W1, J pre W1 → I pre W1) →
    (∀ pre x W1, J pre W1 → G pre x → YieldAt F (n - 1) P l (encs x) W1 fun e W' => (e = .returned (.bool true) ∧ J (pre ++ [x]) W') ∨ (e = .returned (.bool false) ∧ Jx (pre ++ [x]) W')) →
    J [] W →
    CallsIn F n P gf (#[.func (.yield l) #[] #[]] ++ lb) W fun e W' => (∃ v, e = .returned v) ∧ ((∃ xs, S xs ∧ J xs W') ∨ (∃ pre, Jx pre W'))

/-- how a round may end -/
abbrev roundPost {α : Type} (B : Nat) (I : List α → World → Prop) (Ix : Code → List α → World → Prop) (xs : List α) (W : World) : Exit → Act → World → Prop := ownPostG B (fun _ _ => True) I Ix xs W

theorem wpIn_iter {α : Type} {F : Fence} {n : Nat} {P : Program} {g : Operand} {ps : Array Tmp} {assign body : Code} {Q : Exit → Act → World → Prop} {a : Act} {w : World}
    (hro : F.round = none) (h1 : 1 ≤ n) {gf : Nat} {lb : Array Value} (hg : a.eval g = .func (.func gf) #[] lb) (hFg : F.fn gf) (eg : ∀ args w, (callFunc gf args).run P w = .ok (.enter gf args) w)
    {encs : α → Array Value} {G : List α → α → Prop} {S : List α → Prop} (I : List α → World → Prop) (hseq : SeqI F (n - 1) P gf lb encs I G S w)
    (hps : ∀ x, (encs x).size = ps.size) (Ix : Code → List α → World → Prop) (hI : OwnFrom w.heap.size I) (hIx : ∀ c, OwnFrom w.heap.size (Ix c)) (h0 : I [] w) (Ax : α → Act → World → Prop) (hAx : ∀ x a', OwnFrom w.heap.size (fun (_ : Unit) W => Ax x a' W))
    (hassign : ∀ (l : Nat) (pre : List α) (x : α) (W : World) (K : Act → World → Prop), I pre W → G pre x → (∀ a' W', KeepsFrom w.heap.size W W' → I pre W' → Ax x a' W' → K a' W') →
      assign.wpIn (F.inRound l) (n - 1 - 1) P (Exit.then K (fun _ _ _ => False)) { tmps := (ps.zip (encs x)).foldl (fun t (p, v) => t.setIfInBounds p v) a.tmps, defers := [] } W)
    (hbody : ∀ (l : Nat) (pre : List α) (x : α) (a' : Act) (W : World), w.heap.size ≤ l → I pre W → Ax x a' W → G pre x → body.wpIn (F.inRound l) (n - 1 - 1) P (roundPost w.heap.size I Ix (pre ++ [x]) W) a' W)
    (hdone : ∀ (D : Nat) (xs : List α) (W : World), w.heap.size ≤ D → S xs → I xs W → W.heap[D]? = some (.deferred (some [])) → Q .normal { a with defers := { target := .collected D, args := #[] } :: a.defers } W)
    (hstop : ∀ (D : Nat) (c : Code) (pre : List α) (W : World), w.heap.size ≤ D → Ix c pre W → W.heap[D]? = some (.deferred (some [])) → c.wpIn F n P Q { a with defers := { target := .collected D, args := #[] } :: a.defers } W) :
    (Code.rangeFunc g ps assign body).wpIn F n P Q a w := by
  refine wpIn_rangeFunc fun fn hfn => ?_
  rw [hro]
  obtain ⟨rec, hrec⟩ : ∃ rec : LoopState → Option Code → Loop, rec = fun st pe => { state := st, pending := pe, fn, tmps := a.tmps, params := ps, assign, body, defers := w.heap.size } := ⟨_, rfl⟩
  obtain ⟨W1, hW1⟩ : ∃ W1, (w.alloc (.deferred (some []))).alloc (.loop (rec .ready none)) = W1 := ⟨_, rfl⟩
  have hL1 : W1.heap[w.heap.size + 1]? = some (.loop (rec .ready none)) := by
    rw [← hW1]; have := World.alloc_heap_new (w.alloc (.deferred (some []))) (.loop (rec .ready none)); rwa [World.size_alloc] at this
  have hK1 : W1.heap[w.heap.size]? = some (.deferred (some [])) := by
    rw [← hW1]; exact (Below.heap_alloc _ _ _ (by simp)).trans (World.alloc_heap_new w _)
  have hI1 : I [] W1 := by rw [← hW1]; exact hI.alloc _ (hI.alloc _ h0)
  have hb1 : Below w.heap.size w W1 := by
    rw [← hW1]; exact ((Below.refl _ w).alloc (Nat.le_refl _) _).alloc (by simp) _
  have hs1 : w.heap.size ≤ W1.heap.size := hb1.size
  refine ⟨w.heap.size + 1, [{ target := .collected w.heap.size, args := #[] }], W1, { target := .fn (.func gf) lb, args := #[.func (.yield (w.heap.size + 1)) #[] #[]] }, W1, gf,
    #[.func (.yield (w.heap.size + 1)) #[] #[]] ++ lb, W1, ?_, ?_, ?_, ?_, fun _ => h1, ?_⟩
  · rw [← hW1, hrec]; exact run_enterLoop_outer _ _ _ _ _
  · simp only [resolve, hg]
    simp [go_sem]
  · intro f' hf'; simp [Target.leads] at hf'; subst hf'; exact hFg
  · simp [invoke, go_sem, eg]
  · have hnw : ∀ {A : World} {row : Option Nat}, (∀ r, row = some r → W1.heap.size ≤ r ∧ ∃ o : Obj, A.heap[r]? = some o ∧ o.isWalk = true) → (∀ r, row = some r → w.heap.size ≤ r ∧ ∃ o : Obj, A.heap[r]? = some o ∧ o.isCells = false) :=
      fun hr r e => by obtain ⟨hB, o, ho, hw⟩ := hr r e; exact ⟨Nat.le_trans hs1 hB, o, ho, Obj.not_cells_of_walk hw⟩
    refine (hseq (w.heap.size + 1)
      (fun pre W => I pre W ∧ W.heap[w.heap.size + 1]? = some (.loop (rec .ready none)) ∧ W.heap[w.heap.size]? = some (.deferred (some [])))
      (fun pre W => ∃ c, Ix c pre W ∧ W.heap[w.heap.size + 1]? = some (.loop (rec .done (some c))) ∧ W.heap[w.heap.size]? = some (.deferred (some [])))
      W1 hb1
      (fun s A B row hs hg' hr => ⟨hI s A B row hs.1 hg' (hnw hr), (grownBy_keeps hg' (fun r e => (hr r e).2) hs.2.1 rfl).trans hs.2.1, (grownBy_keeps hg' (fun r e => (hr r e).2) hs.2.2 rfl).trans hs.2.2⟩)
      (fun s A B row hs hg' hr => by
        obtain ⟨c, hc, hl, hk⟩ := hs
        exact ⟨c, hIx c s A B row hc hg' (hnw hr), (grownBy_keeps hg' (fun r e => (hr r e).2) hl rfl).trans hl, (grownBy_keeps hg' (fun r e => (hr r e).2) hk rfl).trans hk⟩)
      (fun _ _ h => h.1) ?_ ⟨hI1, hL1, hK1⟩).mono ?_
    · rintro pre x W ⟨hi, hl, hk⟩ hG
      have hy := run_yield (P := P) (args := encs x) hl (by rw [hrec]; exact hps x)
      rw [hrec] at hy
      refine ⟨fn, _, assign, body, hy, roundIn_of_wpIn hfn (hassign _ pre x W _ hi hG ?_)⟩
      clear hy
      intro a' Wa hkfa hia hax
      have hl := hkfa.same _ _ (Nat.le_succ _) hl rfl
      have hk := hkfa.same _ _ (Nat.le_refl _) hk rfl
      have hlt : w.heap.size + 1 < Wa.heap.size := (Array.getElem?_eq_some_iff.1 hl).1
      refine ⟨_, run_beginRound hl (by rw [hrec]), ?_⟩
      have hl2 : (Wa.putObj (w.heap.size + 1) (.loop { rec .ready none with state := .busy })).heap[w.heap.size + 1]? = some (.loop { rec .ready none with state := .busy }) := World.putObj_heap_same hlt
      have hk2 : (Wa.putObj (w.heap.size + 1) (.loop { rec .ready none with state := .busy })).heap[w.heap.size]? = some (.deferred (some [])) := (World.putObj_heap_other (by omega)).trans hk
      refine wpIn_mono (hbody _ pre x a' _ (Nat.le_succ _) (hI.putObj _ hia (Nat.le_succ _) hl rfl) ((hAx x a').putObj (s := ()) _ hax (Nat.le_succ _) hl rfl) hG) ?_
      have fin : ∀ (jump : Option Code) (W3 : World), KeepsFrom w.heap.size (Wa.putObj (w.heap.size + 1) (.loop { rec .ready none with state := .busy })) W3 →
          (Instr.endRound (w.heap.size + 1) jump).run P W3 = .ok (.bool jump.isNone) (W3.putObj (w.heap.size + 1) (.loop (rec (if jump.isNone then .ready else .done) jump))) ∧
          W3.heap[w.heap.size + 1]? = some (.loop { rec .ready none with state := .busy }) ∧
          (W3.putObj (w.heap.size + 1) (.loop (rec (if jump.isNone then .ready else .done) jump))).heap[w.heap.size + 1]? = some (.loop (rec (if jump.isNone then .ready else .done) jump)) ∧
          (W3.putObj (w.heap.size + 1) (.loop (rec (if jump.isNone then .ready else .done) jump))).heap[w.heap.size]? = some (.deferred (some [])) := fun jump W3 hk3 => by
        have hl3 := hk3.same _ _ (Nat.le_succ _) hl2 rfl
        have := run_endRound (P := P) jump hl3
        rw [hrec] at this ⊢
        exact ⟨this, by rw [hrec] at hl3; exact hl3, World.putObj_heap_same (Array.getElem?_eq_some_iff.1 hl3).1, (World.putObj_heap_other (by omega)).trans (hk3.same _ _ (Nat.le_refl _) hk2 rfl)⟩
      rintro e a3 W3 hp
      cases e with
      | normal =>
        obtain ⟨hk3, -, hi3⟩ := hp
        obtain ⟨hr, hl3, hl4, hk4⟩ := fin none W3 hk3
        exact ⟨_, _, hr, .inl ⟨rfl, hI.putObj _ hi3 (Nat.le_succ _) hl3 rfl, hl4, hk4⟩⟩
      | ret =>
        obtain ⟨hk3, hi3⟩ := hp
        obtain ⟨hr, hl3, hl4, hk4⟩ := fin (some .ret) W3 hk3
        exact ⟨_, _, hr, .inr ⟨rfl, .ret, (hIx _).putObj _ hi3 (Nat.le_succ _) hl3 rfl, hl4, hk4⟩⟩
      | exit id =>
        obtain ⟨hk3, hi3⟩ := hp
        obtain ⟨hr, hl3, hl4, hk4⟩ := fin (some (.exit id)) W3 hk3
        exact ⟨_, _, hr, .inr ⟨rfl, .exit id, (hIx _).putObj _ hi3 (Nat.le_succ _) hl3 rfl, hl4, hk4⟩⟩
      | goto t =>
        obtain ⟨hk3, hi3⟩ := hp
        obtain ⟨hr, hl3, hl4, hk4⟩ := fin (some (.goto t)) W3 hk3
        exact ⟨_, _, hr, .inr ⟨rfl, .goto t, (hIx _).putObj _ hi3 (Nat.le_succ _) hl3 rfl, hl4, hk4⟩⟩
      | panic ch => exact hp.elim
      | outgrown => exact hp.elim
    · rintro e W2 ⟨⟨v, rfl⟩, (⟨xs, hS, hi, hl, hk⟩ | ⟨pre, c, hi, hl, hk⟩)⟩
      · exact ⟨none, _, by have := run_endLoop (P := P) hl (by rw [hrec]; simp); rw [hrec] at this; exact this, hdone _ xs _ (Nat.le_refl _) hS (hI.putObj _ hi (Nat.le_succ _) hl rfl) ((World.putObj_heap_other (by omega)).trans hk)⟩
      · exact ⟨some c, _, by have := run_endLoop (P := P) hl (by rw [hrec]; simp); rw [hrec] at this; exact this, hstop _ c pre _ (Nat.le_refl _) ((hIx c).putObj _ hi (Nat.le_succ _) hl rfl) ((World.putObj_heap_other (by omega)).trans hk)⟩
/-- .. where the assigned variables lie in the frame -/
theorem wpIn_iter_moves {α : Type} {F : Fence} {n : Nat} {P : Program} {g : Operand} {ps : Array Tmp} {assign body : Code} {Q : Exit → Act → World → Prop} {a : Act} {w : World}
    (hro : F.round = none) (h1 : 1 ≤ n) {gf : Nat} {lb : Array Value} (hg : a.eval g = .func (.func gf) #[] lb) (hFg : F.fn gf) (eg : ∀ args w, (callFunc gf args).run P w = .ok (.enter gf args) w)
    {encs : α → Array Value} {G : List α → α → Prop} {S : List α → Prop} (I : List α → World → Prop) (hseq : SeqI F (n - 1) P gf lb encs I G S w)
    (hps : ∀ x, (encs x).size = ps.size) (Ix : Code → List α → World → Prop) (hI : OwnFrom w.heap.size I) (hIx : ∀ c, OwnFrom w.heap.size (Ix c)) (h0 : I [] w) (A1 : Act → α → Act)
    (hassign : ∀ (l : Nat) (x : α) (W : World) (K : Act → World → Prop), K (A1 a x) W →
      assign.wpIn (F.inRound l) (n - 1 - 1) P (Exit.then K (fun _ _ _ => False)) { tmps := (ps.zip (encs x)).foldl (fun t (p, v) => t.setIfInBounds p v) a.tmps, defers := [] } W)
    (hbody : ∀ (l : Nat) (pre : List α) (x : α) (W : World), w.heap.size ≤ l → I pre W → G pre x → body.wpIn (F.inRound l) (n - 1 - 1) P (roundPost w.heap.size I Ix (pre ++ [x]) W) (A1 a x) W)
    (hdone : ∀ (D : Nat) (xs : List α) (W : World), w.heap.size ≤ D → S xs → I xs W → W.heap[D]? = some (.deferred (some [])) → Q .normal { a with defers := { target := .collected D, args := #[] } :: a.defers } W)
    (hstop : ∀ (D : Nat) (c : Code) (pre : List α) (W : World), w.heap.size ≤ D → Ix c pre W → W.heap[D]? = some (.deferred (some [])) → c.wpIn F n P Q { a with defers := { target := .collected D, args := #[] } :: a.defers } W) :
    (Code.rangeFunc g ps assign body).wpIn F n P Q a w :=
  wpIn_iter hro h1 hg hFg eg I hseq hps Ix hI hIx h0 (fun x a' _ => a' = A1 a x) (fun _ _ _ _ _ _ h _ _ => h)
    (fun l _ x W _ hi _ hK => hassign l x W _ (hK _ _ (KeepsFrom.refl _ _) hi rfl)) (fun l pre x a' W hl hi ha hG => by subst ha; exact hbody l pre x W hl hi hG) hdone hstop
end Go.Proofs.YtjceahbikdncmaaDoor
