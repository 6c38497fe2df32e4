/- Handles of type int: Len, Set. -/
import Derived.Test.YtpaecmpiokkdnaaDoorHTabInt
namespace Go.Proofs.YtpaecmpiokkdnaaDoor.Int
open Go.RowKit Go.Sort Go.Joins
attribute [local go_sem] cell_grow frozen_grow size_grow

section
variable {B p q : Nat} {st : List Slt}
theorem len_ok (w : World) (h : TT w B p q st) : Calls Tryd.prog 24 #[.pointer (some ⟨p, 0, none⟩)] w fun e w' => e = .returned (.int .i64 ((st.countP alv : Nat) : Int)) ∧ w = w' := by
  have c3 := Tb.c3 h
  have HM := Lib.hid (made_ok w h)
  obtain ⟨m, hm⟩ : ∃ m, st.countP alv = m := ⟨_, rfl⟩
  rw [hm] at c3 ⊢
  clear hm h
  go_enter Tryd.func24, Tryd.ntmps24
  go_wp2_with fail
  refine HM.out.mono ?_
  rintro e w1 ⟨rfl, rfl⟩
  go_wp2
  go_ret
  exact ⟨rfl, rfl⟩
theorem set_err (h : Int) (x : Int) (w : World) (H : TT w B p q st) (he : findE st h ≠ 0) :
    Calls Tryd.prog 27 #[.pointer (some ⟨p, 0, none⟩), .int .i64 h, (.int .i64 x)] w fun e w' => e = .returned (.int .i64 (findE st h)) ∧ w = w' := by
  have HF := Lib.hid (find_ok h w H)
  have hb := bne0_true he
  clear he H
  go_enter Tryd.func27, Tryd.ntmps27
  go_wp2_with fail
  refine HF.out.mono ?_
  rintro e w1 ⟨rfl, rfl⟩
  go_wp2
  go_ret
  exact ⟨rfl, rfl⟩
theorem set_same_alv {i : Nat} (hlt : i < st.length) (v : Value) : (st.set i ((st.getD i (0, false, undef)).1, (st.getD i (0, false, undef)).2.1, v)).countP alv = st.countP alv ∧ rdyF (st.set i ((st.getD i (0, false, undef)).1, (st.getD i (0, false, undef)).2.1, v)) = rdyF st := by
  constructor
  · have := countP_at hlt ((st.getD i (0, false, undef)).1, (st.getD i (0, false, undef)).2.1, v)
    dsimp only at this
    omega
  · rw [← rdyF_set _ hlt]
    funext j
    unfold filled
    by_cases hj : i ≤ j ∧ j < i + 1
    · obtain rfl : j = i := by omega
      rw [if_pos hj]
      unfold rdyF
      simp [hlt, rdy]
    · rw [if_neg hj]
theorem set_ok (h : Int) (i : Nat) (x : Int) (w : World) (H : TT w B p q st) (he : findE st h = 0) (hi : slotI h = i) :
    Calls Tryd.prog 27 #[.pointer (some ⟨p, 0, none⟩), .int .i64 h, (.int .i64 x)] w fun e w' => e = .returned (.int .i64 0) ∧ TT w' B p q (st.set i ((st.getD i (0, false, undef)).1, (st.getD i (0, false, undef)).2.1, (.int .i64 x))) ∧ Fr p q w w' := by
  obtain ⟨i', hi', hlt, _, _⟩ := findE_zero he
  obtain rfl : i' = i := by omega
  have s2 := Tb.s2 H hlt
  have f2 := Tb.fq H
  have hF := find_ok h w H
  have hP : findP q st h = some ⟨q, i' * 3, none⟩ := by unfold findP; rw [if_pos he, hi]; rfl
  rw [hP, he] at hF
  have HF := Lib.hid hF
  have HX := Lib.hid (Tb.valued H u_slot hlt ((.int .i64 x)))
  have HY := Lib.hid (set_same_alv hlt ((.int .i64 x)))
  obtain ⟨v, hv⟩ : ∃ v, v = (st.getD i' (0, false, undef)).2.2 := ⟨_, rfl⟩
  rw [← hv] at s2
  clear hF hP he H hv hi hi'
  go_enter Tryd.func27, Tryd.ntmps27
  go_wp2_with fail
  refine HF.out.mono ?_
  rintro e w1 ⟨rfl, rfl⟩
  go_wp2
  go_ret
  exact ⟨rfl, Tg.of HX.out HY.out.1.symm HY.out.2.symm, Fr.setQ _ _ _⟩
end
end Go.Proofs.YtpaecmpiokkdnaaDoor.Int
