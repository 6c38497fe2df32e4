/- Handles of type int: note. -/
import Derived.Test.YtpaecmpiokkdnaaDoorHAInt
import Derived.Deep.RegionWith
namespace Go.Proofs.YtpaecmpiokkdnaaDoor.Int
open Go.RowKit Go.Sort Go.Joins
attribute [local go_sem] cell_grow frozen_grow size_grow

theorem rdy_f (g : Nat) (v : Value) : decide ((g : Int) < 65535) = rdy (g, false, v) := by
  simp only [rdy, Bool.not_false, Bool.true_and]
  exact decide_eq_decide.2 (by omega)
theorem rdy_t (g : Nat) (v : Value) : false = rdy (g, true, v) := by simp [rdy]

set_option maxRecDepth 100000 in
set_option maxHeartbeats 1600000 in
theorem note_ok {B p q : Nat} {st : List Slt} {m : Nat} {r : Nat → Bool} (i : Nat) (w : World) (h : Tb 99 105 w B p q st m r) (hB : B ≤ w.heap.size) (hi : i < st.length) :
    Calls Tryd.prog 54 #[.pointer (some ⟨p, 0, none⟩), .int .i64 i] w fun e w' => e = .returned (.tuple #[]) ∧ Tb 99 105 w' B p q st m (filled r i (i + 1) (rdy (st.getD i (0, false, undef)))) ∧ Fr p q w w' := by
  have c0 := h.c0
  have c1 := h.c1
  obtain ⟨ra, rcap, c2, hsl⟩ := h.c2
  have n2 := h.n2
  have s0 := h.s0 hi
  have s1 := h.s1 hi
  have hc := h.chk0
  have f1 := h.fp
  have hpl : p < w.heap.size := World.block_lt_of_cell? _ _ c1
  obtain ⟨⟨g, al, v⟩, hS⟩ : ∃ S, S = st.getD i (0, false, undef) := ⟨_, rfl⟩
  rw [← hS] at s0 s1 ⊢
  dsimp only at s0 s1
  have i0 : (0 : Int) ≤ (i : Int) := by omega
  have i1 : (i : Int) < (st.length : Int) := by omega
  have H := Lib.hid h
  have e1 : ((i + 1 : Nat) : Int) = (i : Int) + 1 := by omega
  have hsl' : SlK .u64 w.drew ra ((st.length + 63) / 64) (pack r ((st.length + 63) / 64)) := ⟨hsl.length, hsl.cells⟩
  have hwr : IntKind.i64.wrap ((i : Int) + 1) = (i : Int) + 1 := IntWalk.i64_in _ (by omega)
  have hF := fun b => bSet_ok st.length i (i + 1) b ra ((st.length + 63) / 64) rcap _ w.drew hsl' (pack_lt _ _) hc (by omega) (by omega)
  rw [e1] at hF
  have HF := Lib.hid hF
  clear hc hS h e1 hsl hsl' hF
  cases al
  · go_enter Tryd.func54, Tryd.ntmps54
    go_wp2
    first | go_region_with ((go_at_call 80; refine (HF.out (decide ((g : Int) < 65535))).mono ?_; rintro e w' ⟨a', cap', rfl, hown, hbl⟩; have p1 : w'.cell? ⟨p, 1, none⟩ = some (.int .i64 (st.length : Int)) := cell_later hbl c1; have p2 : w'.cell? ⟨p, 2, none⟩ = some (.slice ra ((st.length + 63) / 64) rcap) := cell_later hbl c2; have p3 : ∀ j, w'.frozen? ⟨p, j, none⟩ = false := fun j => (hbl.frozen (p := ⟨p, j, none⟩) hpl).trans (f1 j))) | fail
    all_goals go_end0
    all_goals exact ⟨rfl, H.out.noted' u_tbl hi hB (rdy_f _ _) hbl hown⟩
  · go_enter Tryd.func54, Tryd.ntmps54
    go_wp2
    first | go_region_with ((go_at_call 80; refine (HF.out false).mono ?_; rintro e w' ⟨a', cap', rfl, hown, hbl⟩; have p1 : w'.cell? ⟨p, 1, none⟩ = some (.int .i64 (st.length : Int)) := cell_later hbl c1; have p2 : w'.cell? ⟨p, 2, none⟩ = some (.slice ra ((st.length + 63) / 64) rcap) := cell_later hbl c2; have p3 : ∀ j, w'.frozen? ⟨p, j, none⟩ = false := fun j => (hbl.frozen (p := ⟨p, j, none⟩) hpl).trans (f1 j))) | fail
    all_goals go_end0
    all_goals exact ⟨rfl, H.out.noted' u_tbl hi hB (rdy_t _ _) hbl hown⟩
end Go.Proofs.YtpaecmpiokkdnaaDoor.Int
