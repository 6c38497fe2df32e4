/- Clocks: the checks of an alarm and of a plan: program and reference. -/
import Derived.Test.YtmgpdaljminipaaDoorC9A
namespace Go.Proofs.YtmgpdaljminipaaDoor
open Go.RowKit Go.Sort Go.Joins
attribute [local go_sem] cell_grow frozen_grow size_grow
theorem alE_ways' {C : Int → Prop} (x : Al) (h1 : nmB x.1 = false → C 6) (h2 : nmB x.1 = true → tmB x.2.1 = false → C 7) (h3 : nmB x.1 = true → tmB x.2.1 = true → tmB x.2.2 = false → C 7) (h4 : nmB x.1 = true → tmB x.2.1 = true → tmB x.2.2 = true → C 0) : C (alE x) := by
  unfold alE
  cases e1 : nmB x.1
  · exact h1 e1
  · cases e2 : tmB x.2.1
    · simpa using h2 e1 e2
    · cases e3 : tmB x.2.2
      · simpa using h3 e1 e2 e3
      · simpa using h4 e1 e2 e3
set_option maxRecDepth 100000 in
set_option maxHeartbeats 1600000 in
theorem checkAlarm_ok (x : Al) (hx : x.1.size ≤ 9223372036854775807) (w : World) :
    Calls Tryd.prog 38 #[aV x] w fun e w' => e = .returned (.int .i64 (alE x)) ∧ Below w.heap.size w w' := by
  have HB := Lib.hid (below_box0 w (.cells #[.string x.1, .int .i64 x.2.1, .int .i64 x.2.2] 50))
  have HN := Lib.hid (name_ok x.1 hx)
  have HT1 := Lib.hid (isTime_ok x.2.1)
  have HT2 := Lib.hid (isTime_ok x.2.2)
  refine alE_ways' (C := fun r => Calls Tryd.prog 38 #[aV x] w fun e w' => e = .returned (.int .i64 r) ∧ Below w.heap.size w w') x (fun e1 => ?_) (fun e1 e2 => ?_) (fun e1 e2 e3 => ?_) (fun e1 e2 e3 => ?_)
  all_goals
    rw [e1] at HN
    try rw [e2] at HT1
    try rw [e3] at HT2
    obtain ⟨s, t, p⟩ := x
    dsimp only at HN HT1 HT2 HB hx
    try clear e3
    try clear e2
    clear e1
    go_enter Tryd.func38, Tryd.ntmps38
    go_wp2_with (first | (go_at_call 55; refine (HN.out _).mono ?_; rintro e w1 ⟨rfl, rfl⟩) | (go_at_call 22; first | ((with_reducible refine (HT1.out _).mono ?_); rintro e w1 ⟨rfl, rfl⟩) | ((with_reducible refine (HT2.out _).mono ?_); rintro e w1 ⟨rfl, rfl⟩)))
    go_ret
    exact ⟨rfl, HB.out⟩
/-- the value of a plan -/
abbrev pV (a : Option Addr) (n c : Nat) : Value := .agg #[.slice a n c]
/-- the last name before a place -/
def lastN (R : Nat → Al) (k : Nat) : ByteArray := if k = 0 then ⟨#[]⟩ else (R (k - 1)).1
theorem str_eq (a b : ByteArray) : (a.toList == b.toList) = decide (a = b) := by
  rw [Bool.eq_iff_iff]
  simp only [beq_iff_eq, decide_eq_true_eq]
  constructor
  · intro h; rw [Lib.toList_data, Lib.toList_data] at h; exact ba_ext h
  · intro h; rw [h]
theorem bless_eq : ∀ (x y : List UInt8), Op.bytesLess x y = decide (x < y)
  | [], [] => by simp [Op.bytesLess]
  | _ :: _, [] => by simp [Op.bytesLess]
  | [], _ :: _ => by simp [Op.bytesLess]
  | a :: x, b :: y => by
    have ih := bless_eq x y
    rw [Op.bytesLess, ih]
    simp only [List.cons_lt_cons_iff]
    by_cases h1 : a < b <;> by_cases h2 : a = b <;> by_cases h3 : x < y <;> simp [h1, h2, h3]
theorem str_lt (a b : ByteArray) : Op.bytesLess a.toList b.toList = nlt a b := by
  rw [bless_eq, Lib.toList_data, Lib.toList_data]; rfl
/-- the ways in which a place of a plan is judged -/
theorem er_ways {R : Nat → Al} {k : Nat} (hn : alE (R k) = 0 → nmB (R k).1 = true) :
    (alE (R k) ≠ 0 ∧ erA R k = alE (R k)) ∨
    (alE (R k) = 0 ∧ ((R k).1.toList == (lastN R k).toList) = true ∧ 0 < k ∧ erA R k = 8) ∨
    (alE (R k) = 0 ∧ ((R k).1.toList == (lastN R k).toList) = false ∧ Op.bytesLess (R k).1.toList (lastN R k).toList = true ∧ 0 < k ∧ erA R k = 6) ∨
    (alE (R k) = 0 ∧ ((R k).1.toList == (lastN R k).toList) = false ∧ Op.bytesLess (R k).1.toList (lastN R k).toList = false ∧ erA R k = 0) := by
  rw [str_eq, str_lt]
  by_cases h0 : alE (R k) = 0
  · right
    unfold lastN
    by_cases hk : k = 0
    · subst hk
      right; right
      have hs := nmB_size (hn h0)
      rw [if_pos rfl]
      refine ⟨h0, ?_, ?_, ?_⟩
      · rw [decide_eq_false_iff_not]; intro e; rw [e] at hs; have : (⟨#[]⟩ : ByteArray).size = 0 := rfl; omega
      · unfold nlt; simp
      · unfold erA; rw [if_neg (by simpa using h0), if_neg (fun hh => absurd hh.1 (Nat.lt_irrefl 0)), if_neg (fun hh => absurd hh.1 (Nat.lt_irrefl 0))]
    · rw [if_neg hk]
      by_cases h1 : (R k).1 = (R (k - 1)).1
      · left
        refine ⟨h0, by simpa using h1, by omega, ?_⟩
        unfold erA; rw [if_neg (by simpa using h0), if_pos ⟨by omega, h1⟩]
      · right
        have e1 : decide ((R k).1 = (R (k - 1)).1) = false := by simpa using h1
        cases h2 : nlt (R k).1 (R (k - 1)).1
        · right
          refine ⟨h0, e1, rfl, ?_⟩
          unfold erA; rw [if_neg (by simpa using h0), if_neg (fun hh => h1 hh.2), if_neg (by simp [h2])]
        · left
          refine ⟨h0, e1, rfl, by omega, ?_⟩
          unfold erA; rw [if_neg (by simpa using h0), if_neg (fun hh => h1 hh.2), if_pos ⟨by omega, h2⟩]
  · left
    refine ⟨h0, ?_⟩
    unfold erA; rw [if_pos h0]
section
variable {w : World} {a : Option Addr} {n c : Nat} {R : Nat → Al}
set_option maxRecDepth 100000 in
set_option maxHeartbeats 1600000 in
theorem check_ok (hS : SlA w a n R) (hn : n ≤ 9223372036854775807) (hR : ∀ j, j < n → AlB (R j)) :
    Calls Tryd.prog 36 #[pV a n c] w fun e w' => e = .returned (.tuple #[.int .i64 (cI n R), .int .i64 (cE n R)]) ∧ Below w.heap.size w w' := by
  have HB0 := Lib.hid (below_box0 w (.cells #[.slice a n c] 44))
  by_cases hl : 50 < n
  · have d : decide ((50 : Int) < (n : Int)) = true := by simp; omega
    have HP := Lib.hid (c_long (R := R) hl)
    clear hS hl hR
    go_enter Tryd.func36, Tryd.ntmps36
    go_wp2
    go_ret2
    exact ⟨ret_two HP.out.1 HP.out.2, HB0.out⟩
  · have d : decide ((50 : Int) < (n : Int)) = false := by simp; omega
    have HL := Lib.hid hl
    have HS := Lib.hid hS
    have HR := Lib.hid hR
    clear hS hl hR
    go_enter Tryd.func36, Tryd.ntmps36
    go_wp2
    go_loopw [4, 15] (fun s i wr => ∃ k : Nat, i = .int .i64 k ∧ k ≤ n ∧ s = .string (lastN R k) ∧ Hid (Below w.heap.size w wr) ∧ Hid (∀ j, j < k → erA R j = 0)) (fun _ i _ => n - (intOf i).toNat)
    case atStart => exact ⟨0, rfl, Nat.zero_le _, rfl, HB0, Lib.hid (fun j hj => by omega)⟩
    case round =>
      obtain ⟨k, rfl, hk, rfl, HB, HA⟩ := hrel
      clear HB0
      by_cases hlt : k < n
      · obtain ⟨b, o, rfl, g0, g1, g2⟩ := (HS.out.below HB.out).at_ hlt
        have hbl := World.block_lt_of_cell? _ _ g0
        dsimp only at hbl
        have hml : maxLen ≤ 9223372036854775807 := by decide
        have HC := Lib.hid (checkAlarm_ok (R k) (Nat.le_trans (HR.out k hlt).1 hml))
        have hways := er_ways (R := R) (k := k) (fun h => (alE_zero h).1)
        obtain ⟨e, he⟩ : ∃ e, alE (R k) = e := ⟨_, rfl⟩
        rw [he] at HC hways
        have hnext : lastN R (k + 1) = (R k).1 := by unfold lastN; rw [if_neg (by omega), Nat.add_sub_cancel]
        have HNX := Lib.hid hnext
        obtain ⟨ln, hln⟩ : ∃ ln, lastN R k = ln := ⟨_, rfl⟩
        rw [hln] at hways ⊢
        clear he hml hnext hln
        rcases hways with ⟨h0, her⟩ | ⟨h0, q1, hpos, her⟩ | ⟨h0, q1, q2, hpos, her⟩ | ⟨h0, q1, q2, her⟩
        all_goals
          have HER := Lib.hid her
          clear her
          first
            | (have d0 : (e != 0) = true := bne0_true h0
               have H0 := Lib.hid h0
               clear h0)
            | (subst h0)
          go_wp2_with fail
          refine (HC.out _).mono ?_
          rintro e' w1 ⟨rfl, b1⟩
          have hz1 : wr.heap.size < w1.heap.size := by have := b1.size; simp at this; omega
          have k0 : w1.cell? ⟨wr.heap.size, 0, none⟩ = some (.string (R k).1) := cell_later b1 (by simp [go_sem])
          have HB1 := Lib.hid (HB.out.trans (((below_box0 _ _).trans (b1.mono (by simp))).mono HB.out.size))
          clear b1
          go_wp2
          first
            | (go_roundw
               case rel => exact ⟨k + 1, by go_num, by omega, by rw [HNX.out], HB1, Lib.hid (fun j hj => by
                 by_cases ej : j = k
                 · rw [ej]; exact HER.out
                 · exact HA.out j (by omega))⟩
               case measure => simp [intOf]; omega)
            | (go_ret2
               have := c_bad HL.out hlt (by rw [HER.out]; first | exact H0.out | decide) HA.out
               exact ⟨ret_two this.1 (by rw [← this.2, HER.out]), HB1.out⟩)
      · obtain rfl : k = n := by omega
        go_wp2
        go_ret2
        have := c_good HL.out HA.out
        exact ⟨ret_two this.1 this.2, HB.out⟩
end
end Go.Proofs.YtmgpdaljminipaaDoor
