/- Handles of type int: made, handle, note. -/
import Derived.Test.YtpaecmpiokkdnaaDoorHPlain
import Derived.StillTailTactics
import Derived.Deep.RegionWith
namespace Go.Proofs.YtpaecmpiokkdnaaDoor.Int
open Go.RowKit Go.Sort Go.Joins
attribute [local go_sem] cell_grow frozen_grow size_grow

abbrev TBL : TypeId := 99
abbrev SLOT : TypeId := 105
theorem u_slot : 144 ≠ SLOT := by decide
theorem u_tbl : 144 ≠ TBL := by decide

theorem made_ok {B p q : Nat} {st : List Slt} {m : Nat} {r : Nat → Bool} (w : World) (h : Tb 99 105 w B p q st m r) :
    Calls Tryd.prog 52 #[.pointer (some ⟨p, 0, none⟩)] w fun e w' => e = .returned (.bool true) ∧ w = w' := by
  have c0 := h.c0
  have n1 := h.n1
  have d1 : decide (0 < st.length) = true := by simp; omega
  go_enter Tryd.func52, Tryd.ntmps52
  go_wp2
  go_ret
  exact ⟨rfl, rfl⟩

theorem handle_ok {B p q : Nat} {st : List Slt} {m : Nat} {r : Nat → Bool} (i g : Nat) (w : World) (h : Tb 99 105 w B p q st m r) (hi : i < st.length) (hg : (st.getD i (0, false, undef)).1 = g) (hg2 : g ≤ 65535) :
    Calls Tryd.prog 55 #[.pointer (some ⟨p, 0, none⟩), .int .i64 i] w fun e w' => e = .returned (.int .i64 ((g : Int) * 65536 + i)) ∧ w = w' := by
  have c0 := h.c0
  have n2 := h.n2
  have s0 := h.s0 hi
  rw [hg] at s0
  have i0 : (0 : Int) ≤ (i : Int) := by omega
  have i1 : (i : Int) < (st.length : Int) := by omega
  clear hg h
  go_enter Tryd.func55, Tryd.ntmps55
  go_wp2
  go_ret
  exact ⟨rfl, rfl⟩

end Go.Proofs.YtpaecmpiokkdnaaDoor.Int
