/- Clocks: names and times: program and reference. -/
import Derived.Test.YtmgpdaljminipaaDoorC9Mem
import Derived.Test.YtmgpdaljminipaaDoorC9PlainC
namespace Go.Proofs.YtmgpdaljminipaaDoor
open Go.RowKit Go.Sort Go.Joins
attribute [local go_sem] cell_grow frozen_grow size_grow

theorem letter_bits : ∀ c : Nat, c < 256 → (decide (97 ≤ bits BinOp.or IntKind.u8 (c : Int) 32) && decide (bits BinOp.or IntKind.u8 (c : Int) 32 ≤ 122)) = letB c := by decide +kernel
theorem letter_ok (c : Nat) (hc : c < 256) (w : World) : Calls Tryd.prog 70 #[.int .u8 (c : Int)] w fun e w' => e = .returned (.bool (letB c)) ∧ w = w' := by
  have h := letter_bits c hc
  obtain ⟨y, hy⟩ : ∃ y, bits BinOp.or IntKind.u8 (c : Int) 32 = y := ⟨_, rfl⟩
  rw [hy] at h
  obtain ⟨r, hr⟩ : ∃ r, letB c = r := ⟨_, rfl⟩
  rw [hr] at h ⊢
  have H := Lib.hid h
  clear h hr
  go_enter Tryd.func70, Tryd.ntmps70
  go_wp2
  · rename_i h1
    go_ret
    exact ⟨ret_bool (by rw [← H.out]; simp [h1]), rfl⟩
  · rename_i h1
    go_ret
    exact ⟨ret_bool (by rw [← H.out]; simp; omega), rfl⟩
theorem digit_ok (c : Nat) (w : World) : Calls Tryd.prog 47 #[.int .u8 (c : Int)] w fun e w' => e = .returned (.bool (digB c)) ∧ w = w' := by
  obtain ⟨r, hr⟩ : ∃ r, digB c = r := ⟨_, rfl⟩
  rw [hr]
  unfold digB at hr
  have H := Lib.hid hr
  clear hr
  go_enter Tryd.func47, Tryd.ntmps47
  go_wp2
  all_goals go_ret
  all_goals exact ⟨ret_bool (by rw [← H.out]; rw [Bool.eq_iff_iff]; simp; omega), rfl⟩
theorem rdigit_ok (c : Nat) (w : World) : Calls Tryd.prog 51 #[.int .u8 (c : Int)] w fun e w' => e = .returned (.bool (digB c)) ∧ w = w' := by
  obtain ⟨r, hr⟩ : ∃ r, digB c = r := ⟨_, rfl⟩
  rw [hr]
  unfold digB at hr
  have H := Lib.hid hr
  clear hr
  go_enter Tryd.func51, Tryd.ntmps51
  go_wp2
  all_goals go_ret
  all_goals exact ⟨ret_bool (by rw [← H.out]; rw [Bool.eq_iff_iff]; simp; omega), rfl⟩
theorem isTime_ok (t : Int) (w : World) : Calls Tryd.prog 22 #[.int .i64 t] w fun e w' => e = .returned (.bool (tmB t)) ∧ w = w' := by
  unfold tmB
  by_cases h1 : 0 ≤ t
  all_goals
    first
      | have d1 : decide (0 ≤ t) = true := by simpa using h1
      | have d1 : decide (0 ≤ t) = false := by simpa using h1
    clear h1
    go_enter Tryd.func22, Tryd.ntmps22
    go_wp2
    go_ret
    exact ⟨ret_bool (by rw [d1]; rfl), rfl⟩
theorem rtime_ok (t : Int) (w : World) : Calls Tryd.prog 27 #[.int .i64 t] w fun e w' => e = .returned (.bool (tmB t)) ∧ w = w' := by
  unfold tmB
  by_cases h1 : 0 ≤ t
  all_goals
    first
      | have d1 : decide (0 ≤ t) = true := by simpa using h1
      | have d1 : decide (0 ≤ t) = false := by simpa using h1
    clear h1
    go_enter Tryd.func27, Tryd.ntmps27
    go_wp2
    go_ret
    exact ⟨ret_bool (by rw [d1]; rfl), rfl⟩
/-- the walk's tests at a byte of a name -/
theorem nm_ways (i c : Nat) : nmC i c = (letB c || (!decide (i = 0) && (decide (c = 95) || digB c))) := by
  unfold nmC
  simp
set_option maxHeartbeats 1600000 in
theorem name_ok (s : ByteArray) (hs : s.size ≤ 9223372036854775807) (w : World) : Calls Tryd.prog 55 #[.string s] w fun e w' => e = .returned (.bool (nmB s)) ∧ w = w' := by
  go_enter Tryd.func55, Tryd.ntmps55
  go_wp2
  go_loop [7] (fun i => ∃ k : Nat, i = .int .i64 k ∧ k ≤ s.size ∧ Hid (∀ j, j < k → nmC j (byt s j) = true)) (fun i => s.size - (intOf i).toNat)
  case atStart => exact ⟨0, rfl, Nat.zero_le _, Lib.hid (fun j hj => by omega)⟩
  case round =>
    obtain ⟨k, rfl, hk, HA⟩ := hrel
    by_cases hlt : k < s.size
    · have hb := byt_get hlt
      have hb2 := byt_lt s k
      have hn := nm_ways k (byt s k)
      obtain ⟨c, hc⟩ : ∃ c, byt s k = c := ⟨_, rfl⟩
      rw [hc] at hb hb2 hn
      have HL := Lib.hid (letter_ok c hb2)
      have HD := Lib.hid (digit_ok c)
      have HC := Lib.hid hc
      obtain ⟨r1, hr1⟩ : ∃ r, letB c = r := ⟨_, rfl⟩
      obtain ⟨r2, hr2⟩ : ∃ r, digB c = r := ⟨_, rfl⟩
      rw [hr1] at HL hn
      rw [hr2] at HD hn
      clear hr1 hr2 hc
      have HN := Lib.hid hn
      clear hn
      have dk : ((k : Int) == 0) = true ∧ decide (k = 0) = true ∨ ((k : Int) == 0) = false ∧ decide (k = 0) = false := by
        by_cases h : k = 0
        · subst h; left; exact ⟨rfl, rfl⟩
        · right; refine ⟨?_, decide_eq_false h⟩
          simp; omega
      have d95 : ((c : Int) != 95) = false ∧ decide (c = 95) = true ∨ ((c : Int) != 95) = true ∧ decide (c = 95) = false := by
        by_cases h : c = 95
        · subst h; left; exact ⟨rfl, rfl⟩
        · right; refine ⟨?_, decide_eq_false h⟩
          simp; omega
      cases r1 <;> cases r2 <;> rcases dk with ⟨k1, k2⟩ | ⟨k1, k2⟩ <;> rcases d95 with ⟨k3, k4⟩ | ⟨k3, k4⟩
      all_goals
        have K2 := Lib.hid k2
        have K4 := Lib.hid k4
        clear k2 k4
        go_wp2_with (first | (go_at_call 70; refine (HL.out _).mono ?_; rintro e w1 ⟨rfl, rfl⟩) | (go_at_call 47; refine (HD.out _).mono ?_; rintro e w2 ⟨rfl, rfl⟩))
        first
          | (go_ret; exact ⟨ret_bool (nmB_no hlt (by rw [HC.out, HN.out, K2.out, K4.out]; rfl)).symm, rfl⟩)
          | (go_round
             case rel => exact ⟨k + 1, by go_num, by omega, Lib.hid (fun j hj => by
               by_cases ej : j = k
               · rw [ej, HC.out, HN.out, K2.out, K4.out]; rfl
               · exact HA.out j (by omega))⟩
             case measure => simp [intOf]; omega)
    · obtain rfl : k = s.size := by omega
      go_wp2
      · go_ret
        rename_i h1 _
        refine ⟨ret_bool ?_, rfl⟩
        by_cases h2 : s.size ≤ 16
        · rw [nmB_yes (by omega) h2 HA.out]; simp; omega
        · rw [nmB_no_size (.inr (by omega))]; simp; omega
      · go_ret
        rename_i h1
        exact ⟨ret_bool (nmB_no_size (.inl (by omega))).symm, rfl⟩
end Go.Proofs.YtmgpdaljminipaaDoor
