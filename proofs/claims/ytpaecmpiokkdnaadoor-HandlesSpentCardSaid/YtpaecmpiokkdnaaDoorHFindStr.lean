/- Handles of type string: find. -/
import Derived.Test.YtpaecmpiokkdnaaDoorHAStr
import Derived.Test.YtpaecmpiokkdnaaDoorHSlot
import Derived.Test.YtpaecmpiokkdnaaDoorHFindP
namespace Go.Proofs.YtpaecmpiokkdnaaDoor.Str
open Go.RowKit Go.Sort Go.Joins
attribute [local go_sem] cell_grow frozen_grow size_grow

set_option maxRecDepth 100000 in
set_option maxHeartbeats 3200000 in
theorem find_ok {B p q : Nat} {st : List Slt} {m : Nat} {r : Nat → Bool} (h : Int) (w : World) (H : Tb 114 117 w B p q st m r) :
    Calls Tryd.prog 62 #[.pointer (some ⟨p, 0, none⟩), .int .i64 h] w fun e w' => e = .returned (.tuple #[.pointer (findP q st h), .int .i64 (findE st h)]) ∧ w = w' := by
  have c0 := H.c0
  have n2 := H.n2
  have HM := Lib.hid (made_ok w H)
  have HX := Lib.hid (slot_ok h w)
  by_cases h1 : slotI h < 0
  · have R := Lib.hid (find_none (q := q) (st := st) (.inl h1))
    have d1 : decide (slotI h < 0) = true := by simpa using h1
    clear H h1
    go_enter Tryd.func62, Tryd.ntmps62
    go_wp2_with fail
    refine HM.out.mono ?_
    rintro e w1 ⟨rfl, rfl⟩
    go_wp2_with fail
    refine HX.out.mono ?_
    rintro e w1 ⟨rfl, rfl⟩
    go_wp2
    go_ret2
    exact ⟨ret_ptr R.out, rfl⟩
  obtain ⟨i, hi⟩ := Int.eq_ofNat_of_zero_le (by omega : 0 ≤ slotI h)
  have d1 : decide ((i : Int) < 0) = false := by simp
  by_cases h2 : st.length ≤ i
  · have R := Lib.hid (find_none (q := q) (st := st) (h := h) (.inr (.inl (by omega))))
    have d2 : decide ((st.length : Int) ≤ (i : Int)) = true := by simpa using h2
    have d2' : decide (st.length ≤ i) = true := by simpa using h2
    rw [hi] at HX
    clear H h1 h2 hi
    go_enter Tryd.func62, Tryd.ntmps62
    go_wp2_with fail
    refine HM.out.mono ?_
    rintro e w1 ⟨rfl, rfl⟩
    go_wp2_with fail
    refine HX.out.mono ?_
    rintro e w1 ⟨rfl, rfl⟩
    go_wp2
    go_ret2
    exact ⟨ret_ptr R.out, rfl⟩
  have hlt : i < st.length := by omega
  have d2 : decide ((st.length : Int) ≤ (i : Int)) = false := by simp; omega
  have d2' : decide (st.length ≤ i) = false := by simp; omega
  have s0 := H.s0 hlt
  have s1 := H.s1 hlt
  obtain ⟨⟨g, al, v⟩, hS⟩ : ∃ S, S = st.getD i (0, false, undef) := ⟨_, rfl⟩
  rw [← hS] at s0 s1
  dsimp only at s0 s1
  have i0 : (0 : Int) ≤ (i : Int) := by omega
  have i1 : (i : Int) < (st.length : Int) := by omega
  by_cases h3 : (g : Int) < numI h
  · have R := Lib.hid (find_far (q := q) hi hlt (by rw [← hS]; exact h3))
    have d3 : decide ((g : Int) < numI h) = true := by simpa using h3
    rw [hi] at HX
    clear H h1 h2 h3 hi hS
    go_enter Tryd.func62, Tryd.ntmps62
    go_wp2_with fail
    refine HM.out.mono ?_
    rintro e w1 ⟨rfl, rfl⟩
    go_wp2_with fail
    refine HX.out.mono ?_
    rintro e w1 ⟨rfl, rfl⟩
    go_wp2
    go_ret2
    exact ⟨ret_ptr R.out, rfl⟩
  have d3 : decide ((g : Int) < numI h) = false := by simpa using h3
  by_cases h4 : numI h < (g : Int)
  · have R := Lib.hid (find_old (q := q) hi hlt (by rw [← hS]; exact h3) (.inl (by rw [← hS]; exact h4)))
    have d4 : decide (numI h < (g : Int)) = true := by simpa using h4
    rw [hi] at HX
    clear H h1 h2 h3 h4 hi hS
    go_enter Tryd.func62, Tryd.ntmps62
    go_wp2_with fail
    refine HM.out.mono ?_
    rintro e w1 ⟨rfl, rfl⟩
    go_wp2_with fail
    refine HX.out.mono ?_
    rintro e w1 ⟨rfl, rfl⟩
    go_wp2
    go_ret2
    exact ⟨ret_ptr R.out, rfl⟩
  have d4 : decide (numI h < (g : Int)) = false := by simpa using h4
  cases al
  · have R := Lib.hid (find_old (q := q) hi hlt (by rw [← hS]; exact h3) (.inr (by rw [← hS])))
    rw [hi] at HX
    clear H h1 h2 h3 h4 hi hS
    go_enter Tryd.func62, Tryd.ntmps62
    go_wp2_with fail
    refine HM.out.mono ?_
    rintro e w1 ⟨rfl, rfl⟩
    go_wp2_with fail
    refine HX.out.mono ?_
    rintro e w1 ⟨rfl, rfl⟩
    go_wp2
    go_ret2
    exact ⟨ret_ptr R.out, rfl⟩
  · have R := Lib.hid (find_yes (q := q) hi hlt (by rw [← hS]; exact h3) (by rw [← hS]; exact h4) (by rw [← hS]))
    rw [hi] at HX
    clear H h1 h2 h3 h4 hi hS
    go_enter Tryd.func62, Tryd.ntmps62
    go_wp2_with fail
    refine HM.out.mono ?_
    rintro e w1 ⟨rfl, rfl⟩
    go_wp2_with fail
    refine HX.out.mono ?_
    rintro e w1 ⟨rfl, rfl⟩
    go_wp2
    go_ret2
    exact ⟨ret_ptr R.out, rfl⟩
end Go.Proofs.YtpaecmpiokkdnaaDoor.Str
