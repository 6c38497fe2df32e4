/- Handles of type string: Get, Drop. -/
import Derived.Test.YtpaecmpiokkdnaaDoorHFindStr
import Derived.Test.YtpaecmpiokkdnaaDoorHPlainE
import Derived.Test.YtpaecmpiokkdnaaDoorHNStr
namespace Go.Proofs.YtpaecmpiokkdnaaDoor.Str
open Go.RowKit Go.Sort Go.Joins
attribute [local go_sem] cell_grow frozen_grow size_grow

theorem findE_zero {st : List Slt} {h : Int} (he : findE st h = 0) : ∃ i : Nat, slotI h = i ∧ i < st.length ∧ (st.getD i (0, false, undef)).2.1 = true ∧ numI h = ((st.getD i (0, false, undef)).1 : Int) := by
  unfold findE at he
  by_cases h1 : slotI h < 0 ∨ (st.length : Int) ≤ slotI h ∨ ((atH st h).1 : Int) < numI h
  · rw [if_pos h1] at he; cases he
  · rw [if_neg h1] at he
    by_cases h2 : numI h < ((atH st h).1 : Int) ∨ (atH st h).2.1 = false
    · rw [if_pos h2] at he; cases he
    · obtain ⟨i, hi⟩ := Int.eq_ofNat_of_zero_le (by omega : 0 ≤ slotI h)
      rw [atH_eq hi] at h1 h2
      refine ⟨i, hi, by omega, ?_, by omega⟩
      cases hb : (st.getD i (0, false, undef)).2.1 with
      | true => rfl
      | false => exact absurd (.inr hb) h2

set_option maxRecDepth 100000 in
set_option maxHeartbeats 1600000 in
theorem get_err {B p q : Nat} {st : List Slt} {m : Nat} {r : Nat → Bool} (h : Int) (w : World) (H : Tb 114 117 w B p q st m r) (he : findE st h ≠ 0) :
    Calls Tryd.prog 32 #[.pointer (some ⟨p, 0, none⟩), .int .i64 h] w fun e w' => e = .returned (.tuple #[.string ⟨#[]⟩, .int .i64 (findE st h)]) ∧ w = w' := by
  have HF := Lib.hid (find_ok h w H)
  have hb := bne0_true he
  clear he H
  go_enter Tryd.func32, Tryd.ntmps32
  go_wp2_with fail
  refine HF.out.mono ?_
  rintro e w1 ⟨rfl, rfl⟩
  go_wp2
  go_ret2
  exact ⟨rfl, rfl⟩
set_option maxRecDepth 100000 in
set_option maxHeartbeats 1600000 in
theorem get_ok {B p q : Nat} {st : List Slt} {m : Nat} {r : Nat → Bool} (h : Int) (w : World) (H : Tb 114 117 w B p q st m r) (he : findE st h = 0) :
    Calls Tryd.prog 32 #[.pointer (some ⟨p, 0, none⟩), .int .i64 h] w fun e w' => e = .returned (.tuple #[(st.getD (slotI h).toNat (0, false, undef)).2.2, .int .i64 0]) ∧ w = w' := by
  obtain ⟨i, hi, hlt, _, _⟩ := findE_zero he
  have s2 := H.s2 hlt
  have hF := find_ok h w H
  have hP : findP q st h = some ⟨q, i * 3, none⟩ := by unfold findP; rw [if_pos he, hi]; rfl
  rw [hP, he] at hF
  have HF := Lib.hid hF
  obtain ⟨v, hv⟩ : ∃ v, v = (st.getD i (0, false, undef)).2.2 := ⟨_, rfl⟩
  rw [← hv] at s2
  have e : (st.getD (slotI h).toNat (0, false, undef)).2.2 = v := by rw [hi, hv]; rfl
  rw [e]
  clear hF hP he H hv e hi
  go_enter Tryd.func32, Tryd.ntmps32
  go_wp2_with fail
  refine HF.out.mono ?_
  rintro e w1 ⟨rfl, rfl⟩
  go_wp2
  go_ret2
  exact ⟨rfl, rfl⟩

set_option maxRecDepth 100000 in
set_option maxHeartbeats 1600000 in
theorem drop_err {B p q : Nat} {st : List Slt} {m : Nat} {r : Nat → Bool} (h : Int) (w : World) (H : Tb 114 117 w B p q st m r) (he : findE st h ≠ 0) :
    Calls Tryd.prog 31 #[.pointer (some ⟨p, 0, none⟩), .int .i64 h] w fun e w' => e = .returned (.tuple #[.string ⟨#[]⟩, .int .i64 (findE st h)]) ∧ w = w' := by
  have HF := Lib.hid (find_ok h w H)
  have hb := bne0_true he
  have hmf : ∀ (fn : Fn) (first cap : Array Value) (w : World), (Instr.makeFunc fn first cap).run Tryd.prog w = .ok (.func fn first cap) w := fun _ _ _ _ => rfl
  clear he H
  go_enter Tryd.func31, Tryd.ntmps31
  go_wp2_with fail
  refine HF.out.mono ?_
  rintro e w1 ⟨rfl, rfl⟩
  go_wp2
  go_ret2
  exact ⟨rfl, rfl⟩

set_option maxRecDepth 100000 in
set_option maxHeartbeats 1600000 in
theorem drop_ok {B p q : Nat} {st : List Slt} {m : Nat} {r : Nat → Bool} (h : Int) (i g : Nat) (w : World) (H : Tb 114 117 w B p q st (m + 1) r) (he : findE st h = 0) (hi : slotI h = i) (hg : (st.getD i (0, false, undef)).1 = g) (hm : m ≤ 100000) :
    Calls Tryd.prog 31 #[.pointer (some ⟨p, 0, none⟩), .int .i64 h] w fun e w' => e = .returned (.tuple #[(st.getD i (0, false, undef)).2.2, .int .i64 0]) ∧
      Tb 114 117 w' B p q (st.set i (g, false, .string ⟨#[]⟩)) m (filled r i (i + 1) (rdy (g, false, .string ⟨#[]⟩))) ∧ Fr p q w w' := by
  obtain ⟨i', hi', hlt, _, _⟩ := findE_zero he
  obtain rfl : i' = i := by omega
  have s1 := H.s1 hlt
  have s2 := H.s2 hlt
  have d3 := H.c3
  have f1 := H.fp
  have f2 := H.fq
  have hne := H.ne
  have hBw : B ≤ w.heap.size := by have := World.block_lt_of_cell? _ _ d3; have := H.hp; dsimp only at *; omega
  rw [show ((m + 1 : Nat) : Int) = (m : Int) + 1 by omega] at d3
  have hF := find_ok h w H
  have hP : findP q st h = some ⟨q, i' * 3, none⟩ := by unfold findP; rw [if_pos he, hi]; rfl
  rw [hP, he] at hF
  have HF := Lib.hid hF
  have hX := slot_ok h w
  have HH := Lib.hid H
  have HG := Lib.hid hg
  have HI := Lib.hid hi
  obtain ⟨v, hv⟩ : ∃ v, v = (st.getD i' (0, false, undef)).2.2 := ⟨_, rfl⟩
  rw [← hv] at s2 ⊢
  have hmf : ∀ (fn : Fn) (first cap : Array Value) (w : World), (Instr.makeFunc fn first cap).run Tryd.prog w = .ok (.func fn first cap) w := fun _ _ _ _ => rfl
  clear hF hP he H hv hi hi' hg hX
  go_enter Tryd.func31, Tryd.ntmps31
  go_wp2_with fail
  refine HF.out.mono ?_
  rintro e w1 ⟨rfl, rfl⟩
  go_wp2_with fail
  refine (slot_ok h _).mono ?_
  rintro e w1 ⟨rfl, rfl⟩
  rw [HI.out]
  go_wp2_with fail
  refine (note_ok i' _ (HH.out.dropped u_slot u_tbl hlt HG.out (.string ⟨#[]⟩) (m : Int) m rfl) (by simp only [World.size_setCell]; omega) (by simpa using hlt)).mono ?_
  rintro e w2 ⟨rfl, ht2, hf2⟩
  have e2 : ((st.set i' (g, false, .string ⟨#[]⟩)).getD i' (0, false, undef)) = (g, false, .string ⟨#[]⟩) := by simp [hlt]
  rw [e2] at ht2
  have HT2 := Lib.hid ht2
  have HF2 := Lib.hid hf2
  clear ht2 hf2
  go_wp2
  go_ret2
  exact ⟨rfl, HT2.out, (((Fr.setQ _ _ _).trans (Fr.setQ _ _ _)).trans (Fr.setP _ _ _)).trans HF2.out⟩
end Go.Proofs.YtpaecmpiokkdnaaDoor.Str
