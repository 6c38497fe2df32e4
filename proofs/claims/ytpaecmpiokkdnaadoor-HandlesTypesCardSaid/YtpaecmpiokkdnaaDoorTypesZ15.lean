/- Handles of type string: note. | Handles of type string: Put. | Handles of type string: find. | Handles of type string: Get, Drop. | Handles: awake returns true. -/
import Derived.Test.YtpaecmpiokkdnaaDoorTypesZ14
import Derived.Deep.RegionWith
import Derived.Test.YtpaecmpiokkdnaaDoorTypesZ4
import Derived.Test.YtpaecmpiokkdnaaDoorTypesZ5
namespace Go.Proofs.YtpaecmpiokkdnaaDoor.Str
open Go.RowKit Go.Sort Go.Joins
attribute [local go_sem] cell_grow frozen_grow size_grow

theorem rdy_f (g : Nat) (v : Value) : decide ((g : Int) < 65535) = rdy (g, false, v) := by
  simp only [rdy, Bool.not_false, Bool.true_and]
  exact decide_eq_decide.2 (by omega)
theorem rdy_t (g : Nat) (v : Value) : false = rdy (g, true, v) := by simp [rdy]

set_option maxRecDepth 100000 in
set_option maxHeartbeats 1600000 in
theorem note_ok {B p q : Nat} {st : List Slt} {m : Nat} {r : Nat → Bool} (i : Nat) (w : World) (h : Tb 114 117 w B p q st m r) (hB : B ≤ w.heap.size) (hi : i < st.length) :
    Calls Tryd.prog 60 #[.pointer (some ⟨p, 0, none⟩), .int .i64 i] w fun e w' => e = .returned (.tuple #[]) ∧ Tb 114 117 w' B p q st m (filled r i (i + 1) (rdy (st.getD i (0, false, undef)))) ∧ Fr p q w w' := by
  have c0 := h.c0
  have c1 := h.c1
  obtain ⟨ra, rcap, c2, hsl⟩ := h.c2
  have n2 := h.n2
  have s0 := h.s0 hi
  have s1 := h.s1 hi
  have hc := h.chk0
  have f1 := h.fp
  have hpl : p < w.heap.size := World.block_lt_of_cell? _ _ c1
  obtain ⟨⟨g, al, v⟩, hS⟩ : ∃ S, S = st.getD i (0, false, undef) := ⟨_, rfl⟩
  rw [← hS] at s0 s1 ⊢
  dsimp only at s0 s1
  have i0 : (0 : Int) ≤ (i : Int) := by omega
  have i1 : (i : Int) < (st.length : Int) := by omega
  have H := Lib.hid h
  have e1 : ((i + 1 : Nat) : Int) = (i : Int) + 1 := by omega
  have hsl' : SlK .u64 w.drew ra ((st.length + 63) / 64) (pack r ((st.length + 63) / 64)) := ⟨hsl.length, hsl.cells⟩
  have hwr : IntKind.i64.wrap ((i : Int) + 1) = (i : Int) + 1 := IntWalk.i64_in _ (by omega)
  have hF := fun b => bSet_ok st.length i (i + 1) b ra ((st.length + 63) / 64) rcap _ w.drew hsl' (pack_lt _ _) hc (by omega) (by omega)
  rw [e1] at hF
  have HF := Lib.hid hF
  clear hc hS h e1 hsl hsl' hF
  cases al
  · go_enter Tryd.func60, Tryd.ntmps60
    go_wp2
    first | go_region_with ((go_at_call 80; refine (HF.out (decide ((g : Int) < 65535))).mono ?_; rintro e w' ⟨a', cap', rfl, hown, hbl⟩; have p1 : w'.cell? ⟨p, 1, none⟩ = some (.int .i64 (st.length : Int)) := cell_later hbl c1; have p2 : w'.cell? ⟨p, 2, none⟩ = some (.slice ra ((st.length + 63) / 64) rcap) := cell_later hbl c2; have p3 : ∀ j, w'.frozen? ⟨p, j, none⟩ = false := fun j => (hbl.frozen (p := ⟨p, j, none⟩) hpl).trans (f1 j))) | fail
    all_goals go_end0
    all_goals exact ⟨rfl, H.out.noted' u_tbl hi hB (rdy_f _ _) hbl hown⟩
  · go_enter Tryd.func60, Tryd.ntmps60
    go_wp2
    first | go_region_with ((go_at_call 80; refine (HF.out false).mono ?_; rintro e w' ⟨a', cap', rfl, hown, hbl⟩; have p1 : w'.cell? ⟨p, 1, none⟩ = some (.int .i64 (st.length : Int)) := cell_later hbl c1; have p2 : w'.cell? ⟨p, 2, none⟩ = some (.slice ra ((st.length + 63) / 64) rcap) := cell_later hbl c2; have p3 : ∀ j, w'.frozen? ⟨p, j, none⟩ = false := fun j => (hbl.frozen (p := ⟨p, j, none⟩) hpl).trans (f1 j))) | fail
    all_goals go_end0
    all_goals exact ⟨rfl, H.out.noted' u_tbl hi hB (rdy_t _ _) hbl hown⟩
end Go.Proofs.YtpaecmpiokkdnaaDoor.Str

namespace Go.Proofs.YtpaecmpiokkdnaaDoor.Str
open Go.RowKit Go.Sort Go.Joins
attribute [local go_sem] cell_grow frozen_grow size_grow

set_option maxRecDepth 100000 in
set_option maxHeartbeats 1600000 in
theorem put_ok {B p q : Nat} {st : List Slt} {m : Nat} {r : Nat → Bool} (i g : Nat) (x : ByteArray) (w : World) (h : Tb 114 117 w B p q st m r) (hT : Tab w)
    (hi : nxt r 0 st.length = i) (hlt : i < st.length) (hg : (st.getD i (0, false, undef)).1 = g) (hg2 : g < 65535) (hm : m ≤ 100000) :
    Calls Tryd.prog 30 #[.pointer (some ⟨p, 0, none⟩), (.string x)] w fun e w' => e = .returned (.tuple #[.int .i64 (((g : Int) + 1) * 65536 + i), .int .i64 0]) ∧
      Tb 114 117 w' B p q (st.set i (g + 1, true, (.string x))) (m + 1) (filled r i (i + 1) false) ∧ Fr p q w w' := by
  have hN := next_tb h
  rw [hi, if_pos hlt, if_pos hlt] at hN
  obtain ⟨ra, rcap, c2, hsl⟩ := h.c2
  have c1 := h.c1
  have n2 := h.n2
  have hne := h.ne
  have hBw : B ≤ w.heap.size := by have := World.block_lt_of_cell? _ _ c1; have := h.hp; dsimp only at *; omega
  have HM := Lib.hid (made_ok w h)
  have HX := Lib.hid (bNext_ok st.length 0 true ra ((st.length + 63) / 64) rcap _ w hT hsl (pack_lt _ _) (by omega))
  have HN := Lib.hid hN
  have H := Lib.hid h
  have HG := Lib.hid hg
  have i0 : (0 : Int) ≤ (i : Int) := by omega
  have i1 : (i : Int) < (st.length : Int) := by omega
  clear hN h hsl hg hi
  go_enter Tryd.func30, Tryd.ntmps30
  go_wp2_with fail
  refine HM.out.mono ?_
  rintro e w1 ⟨rfl, rfl⟩
  go_wp2_with fail
  refine HX.out.mono ?_
  rintro e W ⟨rfl, hb⟩
  rw [HN.out.1, HN.out.2]
  have hW := H.out.below hb
  have d0 := hW.c0
  have d3 := hW.c3
  have s0 := hW.s0 hlt
  have s1 := hW.s1 hlt
  have s2 := hW.s2 hlt
  have f1 := hW.fp
  have f2 := hW.fq
  rw [HG.out] at s0
  have hS := hW.stored u_slot u_tbl hlt (g + 1, true, (.string x)) (m + 1)
  dsimp only at hS
  rw [show ((g + 1 : Nat) : Int) = (g : Int) + 1 by omega, show ((m + 1 : Nat) : Int) = (m : Int) + 1 by omega] at hS
  have HS := Lib.hid hS
  have HW := Lib.hid hW
  have HB := Lib.hid hb
  clear hS hW hb c1 c2
  go_wp2_with fail
  refine (note_ok i _ HS.out (by have := HB.out.size; simp only [World.size_setCell]; omega) (by simpa using hlt)).mono ?_
  rintro e w2 ⟨rfl, ht2, hf2⟩
  have e2 : ((st.set i (g + 1, true, (.string x))).getD i (0, false, undef)) = (g + 1, true, (.string x)) := by simp [hlt]
  rw [e2, ← rdy_t] at ht2
  have HT2 := Lib.hid ht2
  have HF2 := Lib.hid hf2
  clear ht2 hf2
  go_wp2_with fail
  refine (handle_ok i (g + 1) _ HT2.out (by simpa using hlt) (by rw [e2]) (by omega)).mono ?_
  rintro e w3 ⟨rfl, rfl⟩
  go_wp2
  go_ret2
  exact ⟨rfl, HT2.out, (((((Fr.of_below HB.out).trans (Fr.setQ _ _ _)).trans (Fr.setQ _ _ _)).trans (Fr.setQ _ _ _)).trans (Fr.setP _ _ _)).trans HF2.out⟩

set_option maxRecDepth 100000 in
set_option maxHeartbeats 1600000 in
theorem put_full {B p q : Nat} {st : List Slt} {m : Nat} {r : Nat → Bool} (x : ByteArray) (w : World) (h : Tb 114 117 w B p q st m r) (hT : Tab w) (hlt : ¬ nxt r 0 st.length < st.length) :
    Calls Tryd.prog 30 #[.pointer (some ⟨p, 0, none⟩), (.string x)] w fun e w' => e = .returned (.tuple #[.int .i64 0, .int .i64 5]) ∧ Below w.heap.size w w' := by
  have hN := next_tb h
  rw [if_neg hlt, if_neg hlt] at hN
  obtain ⟨ra, rcap, c2, hsl⟩ := h.c2
  have c1 := h.c1
  have n2 := h.n2
  have HM := Lib.hid (made_ok w h)
  have HX := Lib.hid (bNext_ok st.length 0 true ra ((st.length + 63) / 64) rcap _ w hT hsl (pack_lt _ _) (by omega))
  have HN := Lib.hid hN
  clear hN h hsl hlt
  go_enter Tryd.func30, Tryd.ntmps30
  go_wp2_with fail
  refine HM.out.mono ?_
  rintro e w1 ⟨rfl, rfl⟩
  go_wp2_with fail
  refine HX.out.mono ?_
  rintro e W ⟨rfl, hb⟩
  rw [HN.out.1, HN.out.2]
  have HB := Lib.hid hb
  clear hb
  go_wp2_with fail
  go_ret2
  exact ⟨rfl, HB.out⟩
end Go.Proofs.YtpaecmpiokkdnaaDoor.Str

namespace Go.Proofs.YtpaecmpiokkdnaaDoor.Str
open Go.RowKit Go.Sort Go.Joins
attribute [local go_sem] cell_grow frozen_grow size_grow

set_option maxRecDepth 100000 in
set_option maxHeartbeats 3200000 in
theorem find_ok {B p q : Nat} {st : List Slt} {m : Nat} {r : Nat → Bool} (h : Int) (w : World) (H : Tb 114 117 w B p q st m r) :
    Calls Tryd.prog 62 #[.pointer (some ⟨p, 0, none⟩), .int .i64 h] w fun e w' => e = .returned (.tuple #[.pointer (findP q st h), .int .i64 (findE st h)]) ∧ w = w' := by
  have c0 := H.c0
  have n2 := H.n2
  have HM := Lib.hid (made_ok w H)
  have HX := Lib.hid (slot_ok h w)
  by_cases h1 : slotI h < 0
  · have R := Lib.hid (find_none (q := q) (st := st) (.inl h1))
    have d1 : decide (slotI h < 0) = true := by simpa using h1
    clear H h1
    go_enter Tryd.func62, Tryd.ntmps62
    go_wp2_with fail
    refine HM.out.mono ?_
    rintro e w1 ⟨rfl, rfl⟩
    go_wp2_with fail
    refine HX.out.mono ?_
    rintro e w1 ⟨rfl, rfl⟩
    go_wp2
    go_ret2
    exact ⟨ret_ptr R.out, rfl⟩
  obtain ⟨i, hi⟩ := Int.eq_ofNat_of_zero_le (by omega : 0 ≤ slotI h)
  have d1 : decide ((i : Int) < 0) = false := by simp
  by_cases h2 : st.length ≤ i
  · have R := Lib.hid (find_none (q := q) (st := st) (h := h) (.inr (.inl (by omega))))
    have d2 : decide ((st.length : Int) ≤ (i : Int)) = true := by simpa using h2
    have d2' : decide (st.length ≤ i) = true := by simpa using h2
    rw [hi] at HX
    clear H h1 h2 hi
    go_enter Tryd.func62, Tryd.ntmps62
    go_wp2_with fail
    refine HM.out.mono ?_
    rintro e w1 ⟨rfl, rfl⟩
    go_wp2_with fail
    refine HX.out.mono ?_
    rintro e w1 ⟨rfl, rfl⟩
    go_wp2
    go_ret2
    exact ⟨ret_ptr R.out, rfl⟩
  have hlt : i < st.length := by omega
  have d2 : decide ((st.length : Int) ≤ (i : Int)) = false := by simp; omega
  have d2' : decide (st.length ≤ i) = false := by simp; omega
  have s0 := H.s0 hlt
  have s1 := H.s1 hlt
  obtain ⟨⟨g, al, v⟩, hS⟩ : ∃ S, S = st.getD i (0, false, undef) := ⟨_, rfl⟩
  rw [← hS] at s0 s1
  dsimp only at s0 s1
  have i0 : (0 : Int) ≤ (i : Int) := by omega
  have i1 : (i : Int) < (st.length : Int) := by omega
  by_cases h3 : (g : Int) < numI h
  · have R := Lib.hid (find_far (q := q) hi hlt (by rw [← hS]; exact h3))
    have d3 : decide ((g : Int) < numI h) = true := by simpa using h3
    rw [hi] at HX
    clear H h1 h2 h3 hi hS
    go_enter Tryd.func62, Tryd.ntmps62
    go_wp2_with fail
    refine HM.out.mono ?_
    rintro e w1 ⟨rfl, rfl⟩
    go_wp2_with fail
    refine HX.out.mono ?_
    rintro e w1 ⟨rfl, rfl⟩
    go_wp2
    go_ret2
    exact ⟨ret_ptr R.out, rfl⟩
  have d3 : decide ((g : Int) < numI h) = false := by simpa using h3
  by_cases h4 : numI h < (g : Int)
  · have R := Lib.hid (find_old (q := q) hi hlt (by rw [← hS]; exact h3) (.inl (by rw [← hS]; exact h4)))
    have d4 : decide (numI h < (g : Int)) = true := by simpa using h4
    rw [hi] at HX
    clear H h1 h2 h3 h4 hi hS
    go_enter Tryd.func62, Tryd.ntmps62
    go_wp2_with fail
    refine HM.out.mono ?_
    rintro e w1 ⟨rfl, rfl⟩
    go_wp2_with fail
    refine HX.out.mono ?_
    rintro e w1 ⟨rfl, rfl⟩
    go_wp2
    go_ret2
    exact ⟨ret_ptr R.out, rfl⟩
  have d4 : decide (numI h < (g : Int)) = false := by simpa using h4
  cases al
  · have R := Lib.hid (find_old (q := q) hi hlt (by rw [← hS]; exact h3) (.inr (by rw [← hS])))
    rw [hi] at HX
    clear H h1 h2 h3 h4 hi hS
    go_enter Tryd.func62, Tryd.ntmps62
    go_wp2_with fail
    refine HM.out.mono ?_
    rintro e w1 ⟨rfl, rfl⟩
    go_wp2_with fail
    refine HX.out.mono ?_
    rintro e w1 ⟨rfl, rfl⟩
    go_wp2
    go_ret2
    exact ⟨ret_ptr R.out, rfl⟩
  · have R := Lib.hid (find_yes (q := q) hi hlt (by rw [← hS]; exact h3) (by rw [← hS]; exact h4) (by rw [← hS]))
    rw [hi] at HX
    clear H h1 h2 h3 h4 hi hS
    go_enter Tryd.func62, Tryd.ntmps62
    go_wp2_with fail
    refine HM.out.mono ?_
    rintro e w1 ⟨rfl, rfl⟩
    go_wp2_with fail
    refine HX.out.mono ?_
    rintro e w1 ⟨rfl, rfl⟩
    go_wp2
    go_ret2
    exact ⟨ret_ptr R.out, rfl⟩
end Go.Proofs.YtpaecmpiokkdnaaDoor.Str

namespace Go.Proofs.YtpaecmpiokkdnaaDoor.Str
open Go.RowKit Go.Sort Go.Joins
attribute [local go_sem] cell_grow frozen_grow size_grow

theorem findE_zero {st : List Slt} {h : Int} (he : findE st h = 0) : ∃ i : Nat, slotI h = i ∧ i < st.length ∧ (st.getD i (0, false, undef)).2.1 = true ∧ numI h = ((st.getD i (0, false, undef)).1 : Int) := by
  unfold findE at he
  by_cases h1 : slotI h < 0 ∨ (st.length : Int) ≤ slotI h ∨ ((atH st h).1 : Int) < numI h
  · rw [if_pos h1] at he; cases he
  · rw [if_neg h1] at he
    by_cases h2 : numI h < ((atH st h).1 : Int) ∨ (atH st h).2.1 = false
    · rw [if_pos h2] at he; cases he
    · obtain ⟨i, hi⟩ := Int.eq_ofNat_of_zero_le (by omega : 0 ≤ slotI h)
      rw [atH_eq hi] at h1 h2
      refine ⟨i, hi, by omega, ?_, by omega⟩
      cases hb : (st.getD i (0, false, undef)).2.1 with
      | true => rfl
      | false => exact absurd (.inr hb) h2

set_option maxRecDepth 100000 in
set_option maxHeartbeats 1600000 in
theorem get_err {B p q : Nat} {st : List Slt} {m : Nat} {r : Nat → Bool} (h : Int) (w : World) (H : Tb 114 117 w B p q st m r) (he : findE st h ≠ 0) :
    Calls Tryd.prog 32 #[.pointer (some ⟨p, 0, none⟩), .int .i64 h] w fun e w' => e = .returned (.tuple #[.string ⟨#[]⟩, .int .i64 (findE st h)]) ∧ w = w' := by
  have HF := Lib.hid (find_ok h w H)
  have hb := bne0_true he
  clear he H
  go_enter Tryd.func32, Tryd.ntmps32
  go_wp2_with fail
  refine HF.out.mono ?_
  rintro e w1 ⟨rfl, rfl⟩
  go_wp2
  go_ret2
  exact ⟨rfl, rfl⟩
set_option maxRecDepth 100000 in
set_option maxHeartbeats 1600000 in
theorem get_ok {B p q : Nat} {st : List Slt} {m : Nat} {r : Nat → Bool} (h : Int) (w : World) (H : Tb 114 117 w B p q st m r) (he : findE st h = 0) :
    Calls Tryd.prog 32 #[.pointer (some ⟨p, 0, none⟩), .int .i64 h] w fun e w' => e = .returned (.tuple #[(st.getD (slotI h).toNat (0, false, undef)).2.2, .int .i64 0]) ∧ w = w' := by
  obtain ⟨i, hi, hlt, _, _⟩ := findE_zero he
  have s2 := H.s2 hlt
  have hF := find_ok h w H
  have hP : findP q st h = some ⟨q, i * 3, none⟩ := by unfold findP; rw [if_pos he, hi]; rfl
  rw [hP, he] at hF
  have HF := Lib.hid hF
  obtain ⟨v, hv⟩ : ∃ v, v = (st.getD i (0, false, undef)).2.2 := ⟨_, rfl⟩
  rw [← hv] at s2
  have e : (st.getD (slotI h).toNat (0, false, undef)).2.2 = v := by rw [hi, hv]; rfl
  rw [e]
  clear hF hP he H hv e hi
  go_enter Tryd.func32, Tryd.ntmps32
  go_wp2_with fail
  refine HF.out.mono ?_
  rintro e w1 ⟨rfl, rfl⟩
  go_wp2
  go_ret2
  exact ⟨rfl, rfl⟩

set_option maxRecDepth 100000 in
set_option maxHeartbeats 1600000 in
theorem drop_err {B p q : Nat} {st : List Slt} {m : Nat} {r : Nat → Bool} (h : Int) (w : World) (H : Tb 114 117 w B p q st m r) (he : findE st h ≠ 0) :
    Calls Tryd.prog 31 #[.pointer (some ⟨p, 0, none⟩), .int .i64 h] w fun e w' => e = .returned (.tuple #[.string ⟨#[]⟩, .int .i64 (findE st h)]) ∧ w = w' := by
  have HF := Lib.hid (find_ok h w H)
  have hb := bne0_true he
  have hmf : ∀ (fn : Fn) (first cap : Array Value) (w : World), (Instr.makeFunc fn first cap).run Tryd.prog w = .ok (.func fn first cap) w := fun _ _ _ _ => rfl
  clear he H
  go_enter Tryd.func31, Tryd.ntmps31
  go_wp2_with fail
  refine HF.out.mono ?_
  rintro e w1 ⟨rfl, rfl⟩
  go_wp2
  go_ret2
  exact ⟨rfl, rfl⟩

set_option maxRecDepth 100000 in
set_option maxHeartbeats 1600000 in
theorem drop_ok {B p q : Nat} {st : List Slt} {m : Nat} {r : Nat → Bool} (h : Int) (i g : Nat) (w : World) (H : Tb 114 117 w B p q st (m + 1) r) (he : findE st h = 0) (hi : slotI h = i) (hg : (st.getD i (0, false, undef)).1 = g) (hm : m ≤ 100000) :
    Calls Tryd.prog 31 #[.pointer (some ⟨p, 0, none⟩), .int .i64 h] w fun e w' => e = .returned (.tuple #[(st.getD i (0, false, undef)).2.2, .int .i64 0]) ∧
      Tb 114 117 w' B p q (st.set i (g, false, .string ⟨#[]⟩)) m (filled r i (i + 1) (rdy (g, false, .string ⟨#[]⟩))) ∧ Fr p q w w' := by
  obtain ⟨i', hi', hlt, _, _⟩ := findE_zero he
  obtain rfl : i' = i := by omega
  have s1 := H.s1 hlt
  have s2 := H.s2 hlt
  have d3 := H.c3
  have f1 := H.fp
  have f2 := H.fq
  have hne := H.ne
  have hBw : B ≤ w.heap.size := by have := World.block_lt_of_cell? _ _ d3; have := H.hp; dsimp only at *; omega
  rw [show ((m + 1 : Nat) : Int) = (m : Int) + 1 by omega] at d3
  have hF := find_ok h w H
  have hP : findP q st h = some ⟨q, i' * 3, none⟩ := by unfold findP; rw [if_pos he, hi]; rfl
  rw [hP, he] at hF
  have HF := Lib.hid hF
  have hX := slot_ok h w
  have HH := Lib.hid H
  have HG := Lib.hid hg
  have HI := Lib.hid hi
  obtain ⟨v, hv⟩ : ∃ v, v = (st.getD i' (0, false, undef)).2.2 := ⟨_, rfl⟩
  rw [← hv] at s2 ⊢
  have hmf : ∀ (fn : Fn) (first cap : Array Value) (w : World), (Instr.makeFunc fn first cap).run Tryd.prog w = .ok (.func fn first cap) w := fun _ _ _ _ => rfl
  clear hF hP he H hv hi hi' hg hX
  go_enter Tryd.func31, Tryd.ntmps31
  go_wp2_with fail
  refine HF.out.mono ?_
  rintro e w1 ⟨rfl, rfl⟩
  go_wp2_with fail
  refine (slot_ok h _).mono ?_
  rintro e w1 ⟨rfl, rfl⟩
  rw [HI.out]
  go_wp2_with fail
  refine (note_ok i' _ (HH.out.dropped u_slot u_tbl hlt HG.out (.string ⟨#[]⟩) (m : Int) m rfl) (by simp only [World.size_setCell]; omega) (by simpa using hlt)).mono ?_
  rintro e w2 ⟨rfl, ht2, hf2⟩
  have e2 : ((st.set i' (g, false, .string ⟨#[]⟩)).getD i' (0, false, undef)) = (g, false, .string ⟨#[]⟩) := by simp [hlt]
  rw [e2] at ht2
  have HT2 := Lib.hid ht2
  have HF2 := Lib.hid hf2
  clear ht2 hf2
  go_wp2
  go_ret2
  exact ⟨rfl, HT2.out, (((Fr.setQ _ _ _).trans (Fr.setQ _ _ _)).trans (Fr.setP _ _ _)).trans HF2.out⟩
end Go.Proofs.YtpaecmpiokkdnaaDoor.Str

namespace Go.Proofs.YtpaecmpiokkdnaaDoor
open Go.RowKit Go.Sort Go.Joins
attribute [local go_sem] cell_grow frozen_grow size_grow

theorem Tab.fr {p q : Nat} {w w' : World} (h : Tab w) (k : Fr p q w w') (hp : 0 ≠ p) (hq : 0 ≠ q) : Tab w' := fun i hi => by
  have h0 := World.block_lt_of_cell? _ _ (h i hi)
  rw [World.cell?_of_block (w := w) (k.block 0 h0 hp hq)]
  exact h i hi
theorem Tab.lt {w : World} (h : Tab w) : 0 < w.heap.size := World.block_lt_of_cell? _ _ (h 0 (by decide))

abbrev Z0 : Value := .string ⟨#[]⟩
abbrev SA : Value := .string ⟨#[97]⟩
abbrev SB : Value := .string ⟨#[98]⟩
abbrev SC : Value := .string ⟨#[99]⟩
def aw0 : List Slt := [(0, false, Z0), (0, false, Z0)]
def aw1 : List Slt := [(1, true, SA), (0, false, Z0)]
def aw2 : List Slt := [(1, true, SA), (1, true, SB)]
def aw3 : List Slt := [(1, false, Z0), (1, true, SB)]
def aw4 : List Slt := [(2, true, SC), (1, true, SB)]
def ar0 : Nat → Bool := fun i => decide (i < 2)
def ar1 : Nat → Bool := filled ar0 0 1 false
def ar2 : Nat → Bool := filled ar1 1 2 false
def ar3 : Nat → Bool := filled ar2 0 1 (rdy (1, false, Z0))
def ar4 : Nat → Bool := filled ar3 0 1 false
theorem slot_65536 : slotI 65536 = 0 := by decide
theorem num_65536 : numI 65536 = 1 := by decide

section
variable {B p q : Nat} {w : World}
abbrev TS (w : World) (B p q : Nat) (st : List Slt) (m : Nat) (r : Nat → Bool) : Prop := Tb 114 117 w B p q st m r
theorem aput1 (h : TS w B p q aw0 0 ar0) (hT : Tab w) : Calls Tryd.prog 30 #[.pointer (some ⟨p, 0, none⟩), SA] w fun e w' => e = .returned (.tuple #[.int .i64 65536, .int .i64 0]) ∧ TS w' B p q aw1 1 ar1 ∧ Fr p q w w' :=
  (Str.put_ok 0 0 ⟨#[97]⟩ w h hT (by decide) (by decide) rfl (by decide) (by decide)).mono fun _ _ ⟨he, ht, hf⟩ => ⟨he.trans rfl, ht, hf⟩
theorem aput2 (h : TS w B p q aw1 1 ar1) (hT : Tab w) : Calls Tryd.prog 30 #[.pointer (some ⟨p, 0, none⟩), SB] w fun e w' => e = .returned (.tuple #[.int .i64 65537, .int .i64 0]) ∧ TS w' B p q aw2 2 ar2 ∧ Fr p q w w' :=
  (Str.put_ok 1 0 ⟨#[98]⟩ w h hT (by decide) (by decide) rfl (by decide) (by decide)).mono fun _ _ ⟨he, ht, hf⟩ => ⟨he.trans rfl, ht, hf⟩
theorem aput3 (h : TS w B p q aw2 2 ar2) (hT : Tab w) : Calls Tryd.prog 30 #[.pointer (some ⟨p, 0, none⟩), SC] w fun e w' => e = .returned (.tuple #[.int .i64 0, .int .i64 5]) ∧ Below w.heap.size w w' :=
  Str.put_full ⟨#[99]⟩ w h hT (by decide)
theorem afind2 : findE aw2 65536 = 0 := by
  unfold findE atH; rw [slot_65536, num_65536]; decide
theorem adrop (h : TS w B p q aw2 2 ar2) : Calls Tryd.prog 31 #[.pointer (some ⟨p, 0, none⟩), .int .i64 65536] w fun e w' => e = .returned (.tuple #[SA, .int .i64 0]) ∧ TS w' B p q aw3 1 ar3 ∧ Fr p q w w' :=
  (Str.drop_ok (m := 1) 65536 0 1 w h afind2 slot_65536 rfl (by decide)).mono fun _ _ ⟨he, ht, hf⟩ => ⟨he.trans rfl, ht, hf⟩
theorem aput4 (h : TS w B p q aw3 1 ar3) (hT : Tab w) : Calls Tryd.prog 30 #[.pointer (some ⟨p, 0, none⟩), SC] w fun e w' => e = .returned (.tuple #[.int .i64 131072, .int .i64 0]) ∧ TS w' B p q aw4 2 ar4 ∧ Fr p q w w' :=
  (Str.put_ok 0 1 ⟨#[99]⟩ w h hT (by decide) (by decide) rfl (by decide) (by decide)).mono fun _ _ ⟨he, ht, hf⟩ => ⟨he.trans rfl, ht, hf⟩
theorem afind4 : findE aw4 65536 = 160 := by
  unfold findE atH; rw [slot_65536, num_65536]; decide
theorem aget (h : TS w B p q aw4 2 ar4) : Calls Tryd.prog 32 #[.pointer (some ⟨p, 0, none⟩), .int .i64 65536] w fun e w' => e = .returned (.tuple #[Z0, .int .i64 160]) ∧ w = w' := by
  have := Str.get_err 65536 w h (by rw [afind4]; decide)
  rwa [afind4] at this
theorem anew (w : World) : Calls Tryd.prog 29 #[.int .i64 2] w fun e w' => e = .returned (.tuple #[.pointer (some ⟨w.heap.size + 1, 0, none⟩), .int .i64 0]) ∧ TS w' w.heap.size (w.heap.size + 1) w.heap.size aw0 0 ar0 ∧ Below w.heap.size w w' :=
  (Str.new_ok 2 w (by decide) (by decide)).mono fun _ _ h => h
end

set_option maxRecDepth 100000 in
set_option maxHeartbeats 1600000 in
theorem awake_ok (w : World) (hT : Tab w) :
    Calls Tryd.prog 15 #[] w fun e w' => e = .returned (.bool true) ∧ Below w.heap.size w w' := by
  have hTl := hT.lt
  have HT := Lib.hid hT
  have HTl := Lib.hid hTl
  clear hT hTl
  go_enter Tryd.func15, Tryd.ntmps15
  go_wp2_with fail
  refine (anew _).mono ?_
  rintro e w1 ⟨rfl, t1, b1⟩
  have HB1 := Lib.hid b1
  have X1 := Lib.hid (HT.out.below b1)
  have T1 := Lib.hid t1
  clear t1 b1
  go_wp2_with fail
  refine (aput1 T1.out X1.out).mono ?_
  rintro e w2 ⟨rfl, t2, f2⟩
  have X2 := Lib.hid (X1.out.fr f2 (by have := HTl.out; omega) (by have := HTl.out; omega))
  have T2 := Lib.hid t2
  have F2 := Lib.hid f2
  clear t2 f2
  go_wp2_with fail
  refine (aput2 T2.out X2.out).mono ?_
  rintro e w3 ⟨rfl, t3, f3⟩
  have X3 := Lib.hid (X2.out.fr f3 (by have := HTl.out; omega) (by have := HTl.out; omega))
  have T3 := Lib.hid t3
  have F3 := Lib.hid (F2.out.trans f3)
  clear t3 f3
  go_wp2_with fail
  refine (aput3 T3.out X3.out).mono ?_
  rintro e w4 ⟨rfl, b4⟩
  have X4 := Lib.hid (X3.out.below b4)
  have T4 := Lib.hid (T3.out.below b4)
  have F4 := Lib.hid (F3.out.trans (Fr.of_below b4))
  clear b4
  go_wp2_with fail
  refine (adrop T4.out).mono ?_
  rintro e w5 ⟨rfl, t5, f5⟩
  have X5 := Lib.hid (X4.out.fr f5 (by have := HTl.out; omega) (by have := HTl.out; omega))
  have T5 := Lib.hid t5
  have F5 := Lib.hid (F4.out.trans f5)
  clear t5 f5
  go_wp2_with fail
  refine (aput4 T5.out X5.out).mono ?_
  rintro e w6 ⟨rfl, t6, f6⟩
  have T6 := Lib.hid t6
  have F6 := Lib.hid (F5.out.trans f6)
  clear t6 f6
  go_wp2_with fail
  refine (aget T6.out).mono ?_
  rintro e w7 ⟨rfl, rfl⟩
  go_wp2
  go_ret
  exact ⟨rfl, Fr.below HB1.out F6.out (by omega) (Nat.le_refl _) HB1.out.size⟩
end Go.Proofs.YtpaecmpiokkdnaaDoor
