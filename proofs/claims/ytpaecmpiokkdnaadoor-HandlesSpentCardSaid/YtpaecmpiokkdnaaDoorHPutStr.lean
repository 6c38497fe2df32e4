/- Handles of type string: Put. -/
import Derived.Test.YtpaecmpiokkdnaaDoorHNStr
import Derived.Test.YtpaecmpiokkdnaaDoorHPlainC
namespace Go.Proofs.YtpaecmpiokkdnaaDoor.Str
open Go.RowKit Go.Sort Go.Joins
attribute [local go_sem] cell_grow frozen_grow size_grow

set_option maxRecDepth 100000 in
set_option maxHeartbeats 1600000 in
theorem put_ok {B p q : Nat} {st : List Slt} {m : Nat} {r : Nat → Bool} (i g : Nat) (x : ByteArray) (w : World) (h : Tb 114 117 w B p q st m r) (hT : Tab w)
    (hi : nxt r 0 st.length = i) (hlt : i < st.length) (hg : (st.getD i (0, false, undef)).1 = g) (hg2 : g < 65535) (hm : m ≤ 100000) :
    Calls Tryd.prog 30 #[.pointer (some ⟨p, 0, none⟩), (.string x)] w fun e w' => e = .returned (.tuple #[.int .i64 (((g : Int) + 1) * 65536 + i), .int .i64 0]) ∧
      Tb 114 117 w' B p q (st.set i (g + 1, true, (.string x))) (m + 1) (filled r i (i + 1) false) ∧ Fr p q w w' := by
  have hN := next_tb h
  rw [hi, if_pos hlt, if_pos hlt] at hN
  obtain ⟨ra, rcap, c2, hsl⟩ := h.c2
  have c1 := h.c1
  have n2 := h.n2
  have hne := h.ne
  have hBw : B ≤ w.heap.size := by have := World.block_lt_of_cell? _ _ c1; have := h.hp; dsimp only at *; omega
  have HM := Lib.hid (made_ok w h)
  have HX := Lib.hid (bNext_ok st.length 0 true ra ((st.length + 63) / 64) rcap _ w hT hsl (pack_lt _ _) (by omega))
  have HN := Lib.hid hN
  have H := Lib.hid h
  have HG := Lib.hid hg
  have i0 : (0 : Int) ≤ (i : Int) := by omega
  have i1 : (i : Int) < (st.length : Int) := by omega
  clear hN h hsl hg hi
  go_enter Tryd.func30, Tryd.ntmps30
  go_wp2_with fail
  refine HM.out.mono ?_
  rintro e w1 ⟨rfl, rfl⟩
  go_wp2_with fail
  refine HX.out.mono ?_
  rintro e W ⟨rfl, hb⟩
  rw [HN.out.1, HN.out.2]
  have hW := H.out.below hb
  have d0 := hW.c0
  have d3 := hW.c3
  have s0 := hW.s0 hlt
  have s1 := hW.s1 hlt
  have s2 := hW.s2 hlt
  have f1 := hW.fp
  have f2 := hW.fq
  rw [HG.out] at s0
  have hS := hW.stored u_slot u_tbl hlt (g + 1, true, (.string x)) (m + 1)
  dsimp only at hS
  rw [show ((g + 1 : Nat) : Int) = (g : Int) + 1 by omega, show ((m + 1 : Nat) : Int) = (m : Int) + 1 by omega] at hS
  have HS := Lib.hid hS
  have HW := Lib.hid hW
  have HB := Lib.hid hb
  clear hS hW hb c1 c2
  go_wp2_with fail
  refine (note_ok i _ HS.out (by have := HB.out.size; simp only [World.size_setCell]; omega) (by simpa using hlt)).mono ?_
  rintro e w2 ⟨rfl, ht2, hf2⟩
  have e2 : ((st.set i (g + 1, true, (.string x))).getD i (0, false, undef)) = (g + 1, true, (.string x)) := by simp [hlt]
  rw [e2, ← rdy_t] at ht2
  have HT2 := Lib.hid ht2
  have HF2 := Lib.hid hf2
  clear ht2 hf2
  go_wp2_with fail
  refine (handle_ok i (g + 1) _ HT2.out (by simpa using hlt) (by rw [e2]) (by omega)).mono ?_
  rintro e w3 ⟨rfl, rfl⟩
  go_wp2
  go_ret2
  exact ⟨rfl, HT2.out, (((((Fr.of_below HB.out).trans (Fr.setQ _ _ _)).trans (Fr.setQ _ _ _)).trans (Fr.setQ _ _ _)).trans (Fr.setP _ _ _)).trans HF2.out⟩

set_option maxRecDepth 100000 in
set_option maxHeartbeats 1600000 in
theorem put_full {B p q : Nat} {st : List Slt} {m : Nat} {r : Nat → Bool} (x : ByteArray) (w : World) (h : Tb 114 117 w B p q st m r) (hT : Tab w) (hlt : ¬ nxt r 0 st.length < st.length) :
    Calls Tryd.prog 30 #[.pointer (some ⟨p, 0, none⟩), (.string x)] w fun e w' => e = .returned (.tuple #[.int .i64 0, .int .i64 5]) ∧ Below w.heap.size w w' := by
  have hN := next_tb h
  rw [if_neg hlt, if_neg hlt] at hN
  obtain ⟨ra, rcap, c2, hsl⟩ := h.c2
  have c1 := h.c1
  have n2 := h.n2
  have HM := Lib.hid (made_ok w h)
  have HX := Lib.hid (bNext_ok st.length 0 true ra ((st.length + 63) / 64) rcap _ w hT hsl (pack_lt _ _) (by omega))
  have HN := Lib.hid hN
  clear hN h hsl hlt
  go_enter Tryd.func30, Tryd.ntmps30
  go_wp2_with fail
  refine HM.out.mono ?_
  rintro e w1 ⟨rfl, rfl⟩
  go_wp2_with fail
  refine HX.out.mono ?_
  rintro e W ⟨rfl, hb⟩
  rw [HN.out.1, HN.out.2]
  have HB := Lib.hid hb
  clear hb
  go_wp2_with fail
  go_ret2
  exact ⟨rfl, HB.out⟩
end Go.Proofs.YtpaecmpiokkdnaaDoor.Str
