/- The radix map: made, part, leaf, Nodes. -/
import Derived.Test.YtfmclbacoffdaaaDoorR7MemB
import Derived.Test.YtfmclbacoffdaaaDoorR7Calls
namespace Go.Proofs.YtfmclbacoffdaaaDoor
open Go.RowKit Go.Sort Go.Joins
attribute [local go_sem] cell_grow frozen_grow size_grow
theorem and7 : ∀ c : Nat, c < 1024 → bits BinOp.and IntKind.i64 (c : Int) 7 = ((c % 8 : Nat) : Int) := by decide +kernel
theorem and7s {pg : Nat} (h : pg < 1024) : bits BinOp.and IntKind.i64 ((pg : Int) / 8) 7 = ((pg / 8 % 8 : Nat) : Int) := by
  have := and7 (pg / 8) (by omega)
  rwa [show ((pg / 8 : Nat) : Int) = (pg : Int) / 8 by omega] at this
section
variable {w : World} {B p q : Nat} {st : List Nd} {m : Nat} {r : Nat → Bool}
theorem made_ok (h : TM w B p q st m r) : Calls Tryd.prog 41 #[.pointer (some ⟨p, 0, none⟩)] w fun e w' => e = .returned (.bool true) ∧ w = w' := by
  have c0 := h.c0
  have n1 := h.n1
  have d1 : decide (0 < st.length) = true := by simp; omega
  go_enter Tryd.func41, Tryd.ntmps41
  go_wp2
  go_ret
  exact ⟨rfl, rfl⟩
theorem nodes_ok (h : TM w B p q st m r) : Calls Tryd.prog 20 #[.pointer (some ⟨p, 0, none⟩)] w fun e w' => e = .returned (.int .i64 m) ∧ w = w' := by
  have c3 := h.c3
  have HM := Lib.hid (made_ok h)
  clear h
  go_enter Tryd.func20, Tryd.ntmps20
  go_wp2_with fail
  refine HM.out.mono ?_
  rintro e w1 ⟨rfl, rfl⟩
  go_wp2
  go_ret
  exact ⟨rfl, rfl⟩
theorem part_ok (h : TM w B p q st m r) (f t : Int) : Calls Tryd.prog 45 #[.pointer (some ⟨p, 0, none⟩), .int .i64 f, .int .i64 t] w fun e w' => e = .returned (.int .i64 (paE f t)) ∧ w = w' := by
  have HM := Lib.hid (made_ok h)
  have hw : (Hid (paE f t = 7) ∧ decide (f < 0) = true) ∨ (Hid (paE f t = 7) ∧ decide (f < 0) = false ∧ decide (t < f) = true) ∨ (Hid (paE f t = 7) ∧ decide (f < 0) = false ∧ decide (t < f) = false ∧ decide (1024 < t) = true) ∨ (Hid (paE f t = 0) ∧ decide (f < 0) = false ∧ decide (t < f) = false ∧ decide (1024 < t) = false) := by
    unfold paE
    by_cases h1 : f < 0
    · exact .inl ⟨Lib.hid (if_pos (.inl h1)), decide_eq_true h1⟩
    · by_cases h2 : t < f
      · exact .inr (.inl ⟨Lib.hid (if_pos (.inr (.inl h2))), decide_eq_false h1, decide_eq_true h2⟩)
      · by_cases h3 : 1024 < t
        · exact .inr (.inr (.inl ⟨Lib.hid (if_pos (.inr (.inr h3))), decide_eq_false h1, decide_eq_false h2, decide_eq_true h3⟩))
        · exact .inr (.inr (.inr ⟨Lib.hid (if_neg (by omega)), decide_eq_false h1, decide_eq_false h2, decide_eq_false h3⟩))
  clear h
  rcases hw with ⟨HE, d1⟩ | ⟨HE, d1, d2⟩ | ⟨HE, d1, d2, d3⟩ | ⟨HE, d1, d2, d3⟩
  all_goals
    go_enter Tryd.func45, Tryd.ntmps45
    go_wp2_with fail
    refine HM.out.mono ?_
    rintro e w1 ⟨rfl, rfl⟩
    go_wp2
    go_ret
    exact ⟨by rw [HE.out]; rfl, rfl⟩
set_option maxRecDepth 100000 in
set_option maxHeartbeats 1600000 in
theorem leaf_ok (h : TM w B p q st m r) (pg : Nat) (hp : pg < 1024) (hm : mdI st pg < st.length) : Calls Tryd.prog 42 #[.pointer (some ⟨p, 0, none⟩), .int .i64 pg] w fun e w' => e = .returned (.tuple #[.int .i64 (mdI st pg), .int .i64 (lfI st pg)]) ∧ ∃ n, w' = w.drewN n := by
  have c0 := h.c0
  have n1 := h.n1
  have n2 := h.n2
  have k0 := h.kd n1 (show pg / 64 < 16 by omega)
  have k1 := h.kd hm (show pg / 8 % 8 < 16 by omega)
  obtain ⟨md, hmd⟩ : ∃ x, mdI st pg = x := ⟨_, rfl⟩
  have e0 : (st.getD 0 ndZ).kd (pg / 64) = md := hmd
  rw [e0] at k0
  rw [hmd] at k1 hm ⊢
  have HL : Hid (lfI st pg = if md = 0 then 0 else (st.getD md ndZ).kd (pg / 8 % 8)) := Lib.hid (by unfold lfI; rw [hmd])
  obtain ⟨lf, hlf⟩ : ∃ x, (st.getD md ndZ).kd (pg / 8 % 8) = x := ⟨_, rfl⟩
  rw [hlf] at k1 HL
  have i0 : (0 : Int) ≤ (pg : Int) := by omega
  have i1 : (pg : Int) < 1024 := by omega
  have hb := and7s hp
  have j0 : (md : Int) < (st.length : Int) := by omega
  have j1 : (0 : Int) ≤ (md : Int) := by omega
  clear h hmd hlf e0
  by_cases hz : md = 0
  · have dz : ((md : Int) == 0) = true := by simp; omega
    have HZ := Lib.hid hz
    clear hz
    go_enter Tryd.func42, Tryd.ntmps42
    go_wp2
    go_ret2
    exact ⟨by rw [HL.out, if_pos HZ.out, HZ.out]; rfl, 0, rfl⟩
  · have dz : ((md : Int) == 0) = false := by simp; omega
    have HZ := Lib.hid hz
    clear hz
    go_enter Tryd.func42, Tryd.ntmps42
    go_wp2_with fail
    go_quiet (fail)
    go_wp2
    go_ret2
    exact ⟨by rw [HL.out, if_neg HZ.out]; rfl, _, rfl⟩
end
end Go.Proofs.YtfmclbacoffdaaaDoor
