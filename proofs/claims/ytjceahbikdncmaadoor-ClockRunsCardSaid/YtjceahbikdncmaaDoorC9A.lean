/- Clocks: names and times: program and reference. -/
import Derived.Test.YtjceahbikdncmaaDoorC9Mem
import Derived.Test.YtjceahbikdncmaaDoorC9PlainC
namespace Go.Proofs.YtjceahbikdncmaaDoor
open Go.RowKit Go.Sort Go.Joins
attribute [local go_sem] cell_grow frozen_grow size_grow

theorem letter_bits : ∀ c : Nat, c < 256 → (decide (97 ≤ bits BinOp.or IntKind.u8 (c : Int) 32) && decide (bits BinOp.or IntKind.u8 (c : Int) 32 ≤ 122)) = letB c := by decide +kernel
theorem letter_ok (c : Nat) (hc : c < 256) (w : World) : Calls Tryd.prog 63 #[.int .u8 (c : Int)] w fun e w' => e = .returned (.bool (letB c)) ∧ w = w' := by
  have h := letter_bits c hc
  obtain ⟨y, hy⟩ : ∃ y, bits BinOp.or IntKind.u8 (c : Int) 32 = y := ⟨_, rfl⟩
  rw [hy] at h
  obtain ⟨r, hr⟩ : ∃ r, letB c = r := ⟨_, rfl⟩
  rw [hr] at h ⊢
  have H := Lib.hid h
  clear h hr
  go_enter Tryd.func63, Tryd.ntmps63
  go_wp2
  · rename_i h1
    go_ret
    exact ⟨ret_bool (by rw [← H.out]; simp [h1]), rfl⟩
  · rename_i h1
    go_ret
    exact ⟨ret_bool (by rw [← H.out]; simp; omega), rfl⟩
theorem rletter_ok (c : Nat) (w : World) : Calls Tryd.prog 65 #[.int .u8 (c : Int)] w fun e w' => e = .returned (.bool (letB c)) ∧ w = w' := by
  obtain ⟨r, hr⟩ : ∃ r, letB c = r := ⟨_, rfl⟩
  rw [hr]
  unfold letB at hr
  have H := Lib.hid hr
  clear hr
  go_enter Tryd.func65, Tryd.ntmps65
  go_wp2
  all_goals go_ret
  all_goals exact ⟨ret_bool (by rw [← H.out]; rw [Bool.eq_iff_iff]; simp; omega), rfl⟩
theorem digit_ok (c : Nat) (w : World) : Calls Tryd.prog 64 #[.int .u8 (c : Int)] w fun e w' => e = .returned (.bool (digB c)) ∧ w = w' := by
  obtain ⟨r, hr⟩ : ∃ r, digB c = r := ⟨_, rfl⟩
  rw [hr]
  unfold digB at hr
  have H := Lib.hid hr
  clear hr
  go_enter Tryd.func64, Tryd.ntmps64
  go_wp2
  all_goals go_ret
  all_goals exact ⟨ret_bool (by rw [← H.out]; rw [Bool.eq_iff_iff]; simp; omega), rfl⟩
theorem rdigit_ok (c : Nat) (w : World) : Calls Tryd.prog 66 #[.int .u8 (c : Int)] w fun e w' => e = .returned (.bool (digB c)) ∧ w = w' := by
  obtain ⟨r, hr⟩ : ∃ r, digB c = r := ⟨_, rfl⟩
  rw [hr]
  unfold digB at hr
  have H := Lib.hid hr
  clear hr
  go_enter Tryd.func66, Tryd.ntmps66
  go_wp2
  all_goals go_ret
  all_goals exact ⟨ret_bool (by rw [← H.out]; rw [Bool.eq_iff_iff]; simp; omega), rfl⟩
theorem isTime_ok (t : Int) (w : World) : Calls Tryd.prog 38 #[.int .i64 t] w fun e w' => e = .returned (.bool (tmB t)) ∧ w = w' := by
  unfold tmB
  by_cases h1 : 0 ≤ t
  all_goals
    first
      | have d1 : decide (0 ≤ t) = true := by simpa using h1
      | have d1 : decide (0 ≤ t) = false := by simpa using h1
    clear h1
    go_enter Tryd.func38, Tryd.ntmps38
    go_wp2
    go_ret
    exact ⟨ret_bool (by rw [d1]; rfl), rfl⟩
theorem rtime_ok (t : Int) (w : World) : Calls Tryd.prog 35 #[.int .i64 t] w fun e w' => e = .returned (.bool (tmB t)) ∧ w = w' := by
  unfold tmB
  by_cases h1 : 0 ≤ t
  all_goals
    first
      | have d1 : decide (0 ≤ t) = true := by simpa using h1
      | have d1 : decide (0 ≤ t) = false := by simpa using h1
    clear h1
    go_enter Tryd.func35, Tryd.ntmps35
    go_wp2
    go_ret
    exact ⟨ret_bool (by rw [d1]; rfl), rfl⟩
/-- the walk's tests at a byte of a name -/
theorem nm_ways (i c : Nat) : nmC i c = (letB c || (!decide (i = 0) && (decide (c = 95) || digB c))) := by
  unfold nmC
  simp
set_option maxHeartbeats 1600000 in
theorem name_ok (s : ByteArray) (hs : s.size ≤ 9223372036854775807) (w : World) : Calls Tryd.prog 54 #[.string s] w fun e w' => e = .returned (.bool (nmB s)) ∧ w = w' := by
  go_enter Tryd.func54, Tryd.ntmps54
  go_wp2
  go_loop [7] (fun i => ∃ k : Nat, i = .int .i64 k ∧ k ≤ s.size ∧ Hid (∀ j, j < k → nmC j (byt s j) = true)) (fun i => s.size - (intOf i).toNat)
  case atStart => exact ⟨0, rfl, Nat.zero_le _, Lib.hid (fun j hj => by omega)⟩
  case round =>
    obtain ⟨k, rfl, hk, HA⟩ := hrel
    by_cases hlt : k < s.size
    · have hb := byt_get hlt
      have hb2 := byt_lt s k
      have hn := nm_ways k (byt s k)
      obtain ⟨c, hc⟩ : ∃ c, byt s k = c := ⟨_, rfl⟩
      rw [hc] at hb hb2 hn
      have HL := Lib.hid (letter_ok c hb2)
      have HD := Lib.hid (digit_ok c)
      have HC := Lib.hid hc
      obtain ⟨r1, hr1⟩ : ∃ r, letB c = r := ⟨_, rfl⟩
      obtain ⟨r2, hr2⟩ : ∃ r, digB c = r := ⟨_, rfl⟩
      rw [hr1] at HL hn
      rw [hr2] at HD hn
      clear hr1 hr2 hc
      have HN := Lib.hid hn
      clear hn
      have dk : ((k : Int) == 0) = true ∧ decide (k = 0) = true ∨ ((k : Int) == 0) = false ∧ decide (k = 0) = false := by
        by_cases h : k = 0
        · subst h; left; exact ⟨rfl, rfl⟩
        · right; refine ⟨?_, decide_eq_false h⟩
          simp; omega
      have d95 : ((c : Int) != 95) = false ∧ decide (c = 95) = true ∨ ((c : Int) != 95) = true ∧ decide (c = 95) = false := by
        by_cases h : c = 95
        · subst h; left; exact ⟨rfl, rfl⟩
        · right; refine ⟨?_, decide_eq_false h⟩
          simp; omega
      cases r1 <;> cases r2 <;> rcases dk with ⟨k1, k2⟩ | ⟨k1, k2⟩ <;> rcases d95 with ⟨k3, k4⟩ | ⟨k3, k4⟩
      all_goals
        have K2 := Lib.hid k2
        have K4 := Lib.hid k4
        clear k2 k4
        go_wp2_with (first | (go_at_call 63; refine (HL.out _).mono ?_; rintro e w1 ⟨rfl, rfl⟩) | (go_at_call 64; refine (HD.out _).mono ?_; rintro e w2 ⟨rfl, rfl⟩))
        first
          | (go_ret; exact ⟨ret_bool (nmB_no hlt (by rw [HC.out, HN.out, K2.out, K4.out]; rfl)).symm, rfl⟩)
          | (go_round
             case rel => exact ⟨k + 1, by go_num, by omega, Lib.hid (fun j hj => by
               by_cases ej : j = k
               · rw [ej, HC.out, HN.out, K2.out, K4.out]; rfl
               · exact HA.out j (by omega))⟩
             case measure => simp [intOf]; omega)
    · obtain rfl : k = s.size := by omega
      go_wp2
      · go_ret
        rename_i h1 _
        refine ⟨ret_bool ?_, rfl⟩
        by_cases h2 : s.size ≤ 16
        · rw [nmB_yes (by omega) h2 HA.out]; simp; omega
        · rw [nmB_no_size (.inr (by omega))]; simp; omega
      · go_ret
        rename_i h1
        exact ⟨ret_bool (nmB_no_size (.inl (by omega))).symm, rfl⟩
set_option maxHeartbeats 1600000 in
theorem rname_ok (s : ByteArray) (hs : s.size ≤ 9223372036854775807) (w : World) : Calls Tryd.prog 55 #[.string s] w fun e w' => e = .returned (.bool (nmB s)) ∧ w = w' := by
  by_cases h1 : 1 ≤ s.size
  · by_cases h2 : s.size ≤ 16
    · have d1 : decide ((s.size : Int) < 1) = false := by simp; omega
      have d2 : decide ((16 : Int) < (s.size : Int)) = false := by simp; omega
      have hb := byt_get (s := s) (i := 0) (by omega)
      have HL0 := Lib.hid (rletter_ok (byt s 0))
      have h0 : (0 : Nat) < s.size := by omega
      obtain ⟨r0, hr0⟩ : ∃ r, letB (byt s 0) = r := ⟨_, rfl⟩
      rw [hr0] at HL0
      have HR0 := Lib.hid hr0
      clear hr0
      cases r0
      · go_enter Tryd.func55, Tryd.ntmps55
        go_wp2_with (go_at_call 65; refine (HL0.out _).mono ?_; rintro e w1 ⟨rfl, rfl⟩)
        go_ret
        refine ⟨ret_bool (nmB_no h0 ?_).symm, rfl⟩
        unfold nmC; rw [HR0.out]; rfl
      · go_enter Tryd.func55, Tryd.ntmps55
        go_wp2_with (go_at_call 65; refine (HL0.out _).mono ?_; rintro e w1 ⟨rfl, rfl⟩)
        clear hb HL0 d1 d2
        go_loop [3] (fun i => ∃ k : Nat, i = .int .i64 k ∧ k ≤ s.size ∧ Hid (∀ j, j < k → nmC j (byt s j) = true)) (fun i => s.size - (intOf i).toNat)
        case atStart => exact ⟨0, rfl, Nat.zero_le _, Lib.hid (fun j hj => by omega)⟩
        case round =>
          obtain ⟨k, rfl, hk, HA⟩ := hrel
          by_cases hlt : k < s.size
          · have hb := byt_get hlt
            have hn := nm_ways k (byt s k)
            have hz : k = 0 → letB (byt s k) = true := fun e => by rw [e]; exact HR0.out
            obtain ⟨c, hc⟩ : ∃ c, byt s k = c := ⟨_, rfl⟩
            rw [hc] at hb hn hz
            have HL := Lib.hid (rletter_ok c)
            have HD := Lib.hid (rdigit_ok c)
            have HC := Lib.hid hc
            obtain ⟨r1, hr1⟩ : ∃ r, letB c = r := ⟨_, rfl⟩
            obtain ⟨r2, hr2⟩ : ∃ r, digB c = r := ⟨_, rfl⟩
            rw [hr1] at HL hn hz
            rw [hr2] at HD hn
            clear hr1 hr2 hc
            have HN := Lib.hid hn
            have HZ := Lib.hid hz
            clear hn hz
            have d95 : ((c : Int) != 95) = false ∧ decide (c = 95) = true ∨ ((c : Int) != 95) = true ∧ decide (c = 95) = false := by
              by_cases h : c = 95
              · subst h; left; exact ⟨rfl, rfl⟩
              · right; refine ⟨?_, decide_eq_false h⟩
                simp; omega
            cases r1 <;> cases r2 <;> rcases d95 with ⟨k3, k4⟩ | ⟨k3, k4⟩
            all_goals
              have K4 := Lib.hid k4
              clear k4
              go_wp2_with (first | (go_at_call 65; refine (HL.out _).mono ?_; rintro e w1 ⟨rfl, rfl⟩) | (go_at_call 66; refine (HD.out _).mono ?_; rintro e w2 ⟨rfl, rfl⟩))
              first
                | (go_ret; exact ⟨ret_bool (nmB_no hlt (by rw [HC.out, HN.out, K4.out]; simp)).symm, rfl⟩)
                | (go_round
                   case rel => exact ⟨k + 1, by go_num, by omega, Lib.hid (fun j hj => by
                     by_cases ej : j = k
                     · rw [ej, HC.out, HN.out, K4.out]
                       first
                         | rfl
                         | (by_cases e0 : k = 0
                            · have := HZ.out e0; simp at this
                            · simp [e0])
                     · exact HA.out j (by omega))⟩
                   case measure => simp [intOf]; omega)
          · obtain rfl : k = s.size := by omega
            go_wp2
            go_ret
            exact ⟨ret_bool (nmB_yes h1 h2 HA.out).symm, rfl⟩
    · have d1 : decide ((s.size : Int) < 1) = false := by simp; omega
      have d2 : decide ((16 : Int) < (s.size : Int)) = true := by simp; omega
      have hf := Lib.hid (nmB_no_size (s := s) (.inr (by omega)))
      go_enter Tryd.func55, Tryd.ntmps55
      go_wp2
      go_ret
      exact ⟨ret_bool hf.out.symm, rfl⟩
  · have d1 : decide ((s.size : Int) < 1) = true := by simp; omega
    have hf := Lib.hid (nmB_no_size (s := s) (.inl (by omega)))
    go_enter Tryd.func55, Tryd.ntmps55
    go_wp2
    go_ret
    exact ⟨ret_bool hf.out.symm, rfl⟩
end Go.Proofs.YtjceahbikdncmaaDoor
