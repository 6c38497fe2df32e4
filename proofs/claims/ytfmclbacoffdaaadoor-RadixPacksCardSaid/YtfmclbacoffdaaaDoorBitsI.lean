/- Package bits: New. -/
import Derived.Test.YtfmclbacoffdaaaDoorBitsH
import Derived.Deep.OwnRows
import Derived.OneCell
namespace Go.Proofs.YtfmclbacoffdaaaDoor
open Go.RowKit Go.Sort Go.Joins
attribute [local go_sem] cell_grow frozen_grow size_grow

theorem SlK.of_own {w : World} {base len : Nat} {e : TypeId} {a : Option Addr} {cap : Nat} {ws : List Nat} (h : w.ownsRow base e 1 (.slice a len cap) len (u64s ws)) : SlK .u64 w a len ws := by
  have hl : ws.length = len := by have := h.1; rw [u64s_length] at this; omega
  refine ⟨hl, ?_⟩
  rcases Nat.eq_zero_or_pos len with h0 | hp
  · exact .inl h0
  · obtain ⟨g, cap', he⟩ := ownsRow_form h hp
    simp only [Value.slice.injEq] at he
    obtain ⟨rfl, _, rfl⟩ := he
    exact .inr ⟨g, 0, rfl, fun j hj => by rw [Nat.zero_add, h.cellAt j (by omega), u64s_get _ _ (by omega)]⟩

theorem zeros_own (w : World) (len : Nat) (h : len ≤ 100000) : (w.alloc (.cells (madeCells #[.int .u64 0] len) 24)).ownsRow w.heap.size 24 1 (.slice (some ⟨w.heap.size, 0, none⟩) len len) len (u64s (pack (fun _ => false) len)) := by
  have h1 := World.ownsRow_lit (base := w.heap.size) (e := 24) (size := 1) w (madeCells #[.int .u64 0] len) len (Nat.le_refl _) (by unfold maxLen; omega) (by simp [madeCells])
  rw [toList_madeCells_one] at h1
  have e : List.replicate len (0 : Nat) = pack (fun _ => false) len := pack_unique (by simp) (by intro x hx; rw [List.eq_of_mem_replicate hx]; decide) fun i hi => by
    unfold bat
    rw [List.getD_eq_getElem?_getD, List.getElem?_replicate]
    split <;> simp
  rw [← e]
  have e2 : u64s (List.replicate len 0) = List.replicate len (.int .u64 0) := by simp [u64s]
  rw [e2]
  exact h1

theorem filled_new (n len : Nat) : pack (filled (bat (pack (fun _ => false) len)) 0 n true) len = pack (fun i => decide (i < n)) len :=
  pack_congr fun i hi => by unfold filled; rw [pack_bat _ _ _ hi]; by_cases h : i < n <;> simp [h]

set_option maxHeartbeats 800000 in
theorem bNew_bad (N : Int) (on : Bool) (w : World) (h : N < 0 ∨ 4096 < N) :
    Calls Tryd.prog 43 #[.int .i64 N, .bool on] w fun e w' => e = .returned (.tuple #[.agg #[.int .i64 0, .slice none 0 0], .int .i64 7]) ∧ Below w.heap.size w w' := by
  by_cases h1 : N < 0
  · go_enter Tryd.func43, Tryd.ntmps43
    go_wp2
    exact bodyPost_ret (v := .tuple #[.agg #[.int .i64 0, .slice none 0 0], .int .i64 7]) (by simp [results, Tryd.results43, go_sem]) rfl ⟨rfl, (Below.refl _ _).alloc (Nat.le_refl _) _⟩
  · have h2 : 4096 < N := by omega
    clear h
    go_enter Tryd.func43, Tryd.ntmps43
    go_wp2
    exact bodyPost_ret (v := .tuple #[.agg #[.int .i64 0, .slice none 0 0], .int .i64 7]) (by simp [results, Tryd.results43, go_sem]) rfl ⟨rfl, (Below.refl _ _).alloc (Nat.le_refl _) _⟩

set_option maxHeartbeats 1600000 in
theorem bNew_ok (n : Nat) (on : Bool) (w : World) (hn : n ≤ 4096) :
    Calls Tryd.prog 43 #[.int .i64 n, .bool on] w fun e w' => ∃ a cap, e = .returned (.tuple #[.agg #[.int .i64 n, .slice a ((n + 63) / 64) cap], .int .i64 0]) ∧
      w'.ownsRow w.heap.size 24 1 (.slice a ((n + 63) / 64) cap) ((n + 63) / 64) (u64s (pack (fun i => on && decide (i < n)) ((n + 63) / 64))) ∧ Below w.heap.size w w' := by
  obtain ⟨len, hlen⟩ : ∃ len, len = (n + 63) / 64 := ⟨_, rfl⟩
  have hmk := fun W => run_make_row' (P := Tryd.prog) 58 24 (.int .u64 0) 8 Tryd.underlying58 info_u64 rfl .i64 .i64 len (by omega) (by omega) W
  have hli : ((len : Nat) : Int) = ((n : Int) + 63) / 64 := by omega
  rw [hli] at hmk
  rw [← hlen]
  have HL := Lib.hid hlen
  clear hlen hli
  have Z0 : ((w.alloc (.cells #[.int .i64 0, .slice none 0 0] 93)).alloc (.cells (madeCells #[.int .u64 0] len) 24)).ownsRow w.heap.size 24 1 (.slice (some ⟨w.heap.size + 1, 0, none⟩) len len) len (u64s (pack (fun _ => false) len)) := by
    have := zeros_own (w.alloc (.cells #[.int .i64 0, .slice none 0 0] 93)) len (by have := HL.out; omega)
    rw [World.size_alloc] at this
    exact ownsRow_le this (by omega)
  have Z1 := Z0.alloc (.cells #[.int .i64 n, .slice (some ⟨w.heap.size + 1, 0, none⟩) len len] 93)
  have HB : Below w.heap.size w (((w.alloc (.cells #[.int .i64 0, .slice none 0 0] 93)).alloc (.cells (madeCells #[.int .u64 0] len) 24)).alloc (.cells #[.int .i64 n, .slice (some ⟨w.heap.size + 1, 0, none⟩) len len] 93)) :=
    below_alloc3 w _ _ _
  have HZ := Lib.hid Z1
  have HH := Lib.hid HB
  clear Z0 Z1 HB
  cases on
  · go_enter Tryd.func43, Tryd.ntmps43
    go_wp2_with (go_at_call 60; refine (words_ok _ _ (by omega) (by omega)).mono ?_; rintro e w1 ⟨rfl, rfl⟩)
    refine bodyPost_ret (v := .tuple #[.agg #[.int .i64 n, .slice (some ⟨w.heap.size + 1, 0, none⟩) len len], .int .i64 0]) (by simp [results, Tryd.results43, go_sem]) rfl ?_
    refine ⟨_, _, rfl, ?_, below_alloc3 w _ _ _⟩
    have Z := zeros_own (w.alloc (.cells #[.int .i64 n, .slice (some ⟨w.heap.size + 1, 0, none⟩) len len] 93)) len (by have := HL.out; omega)
    rw [World.size_alloc] at Z
    have Z2 := (ownsRow_le Z (by omega : w.heap.size ≤ w.heap.size + 1)).alloc (.cells #[.int .i64 n, .slice (some ⟨w.heap.size + 1, 0, none⟩) len len] 93)
    simpa using Z2
  · have F := bfill_ok w.heap.size (.slice (some ⟨w.heap.size + 1, 0, none⟩) len len) len 0 n true (pack (fun _ => false) len) _ HZ.out (pack_lt _ _) (pack_length _ _) (by have := HL.out; omega) (by have := HL.out; omega) (by omega)
    rw [show ((0 : Nat) : Int) = 0 from rfl, filled_new] at F
    have HF := Lib.hid F
    clear F
    go_enter Tryd.func43, Tryd.ntmps43
    go_wp2_with (go_at_call 60; refine (words_ok _ _ (by omega) (by omega)).mono ?_; rintro e w1 ⟨rfl, rfl⟩)
    refine HF.out.mono ?_
    rintro e w1 ⟨rfl, hown, hg⟩
    have c0 : w1.cell? ⟨w.heap.size, 0, none⟩ = some (.int .i64 0) := hg.cell (by simp [go_sem]) (by simp [Value.ownBlock])
    have c1 : w1.cell? ⟨w.heap.size, 1, none⟩ = some (.slice none 0 0) := hg.cell (by simp [go_sem]) (by simp [Value.ownBlock])
    have c2 : w1.cell? ⟨w.heap.size + 1 + 1, 0, none⟩ = some (.int .i64 n) := hg.cell (by simp [go_sem]) (by simp [Value.ownBlock])
    have c3 : w1.cell? ⟨w.heap.size + 1 + 1, 1, none⟩ = some (.slice (some ⟨w.heap.size + 1, 0, none⟩) len len) := hg.cell (by simp [go_sem]) (by simp [Value.ownBlock])
    have f0 : ∀ j, w1.frozen? ⟨w.heap.size, j, none⟩ = false := fun j => by
      rw [World.frozen?_of_block (hg.block w.heap.size (by simp; omega) (by simp [Value.ownBlock]))]; simp [go_sem]
    have HB2 : Below w.heap.size w w1 := HH.out.grown hg (by simp; omega) (by intro k hk; simp [Value.ownBlock] at hk; omega)
    have HO := Lib.hid hown
    have HB3 := Lib.hid HB2
    clear hown hg HB2
    go_wp2
    refine bodyPost_ret (v := .tuple #[.agg #[.int .i64 n, .slice (some ⟨w.heap.size + 1, 0, none⟩) len len], .int .i64 0]) (by simp [results, Tryd.results43, go_sem, c0, c1]) rfl ?_
    exact ⟨_, _, rfl, by simpa using ownsRow_setCell_other (ownsRow_setCell_other HO.out (by simp [Value.ownBlock]) _) (by simp [Value.ownBlock]) _, (HB3.out.setCell (Nat.le_refl _) _).setCell (Nat.le_refl _) _⟩
end Go.Proofs.YtfmclbacoffdaaaDoor
