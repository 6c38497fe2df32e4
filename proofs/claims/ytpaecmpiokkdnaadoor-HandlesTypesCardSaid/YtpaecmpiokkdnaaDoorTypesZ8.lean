/- Handles of Things: Get, Drop. | Handles of Things: the methods, of tables whose count and ready slots follow from the slots. | Handles of Things: Len, Set. -/
import Derived.Test.YtpaecmpiokkdnaaDoorTypesZ7
import Derived.BigRegion
import Derived.Deep.RegionHeld3
namespace Go.Proofs.YtpaecmpiokkdnaaDoor.Thing
open Go.RowKit Go.Sort Go.Joins
attribute [local go_sem] cell_grow frozen_grow size_grow

theorem Tb.set_other {TBL SLOT : TypeId} {W : World} {B p q : Nat} {st : List Slt} {m : Nat} {r : Nat → Bool} (h : Tb TBL SLOT W B p q st m r) {k j : Nat} {cs : Array Value} {t : TypeId} (hk : W.heap[k]? = some (.cells cs t (0, 0))) (ht : 144 ≠ t) (hp : p ≠ k) (hq : q ≠ k) (v : Value) : Tb TBL SLOT (W.setCell ⟨k, j, none⟩ v) B p q st m r := by
  obtain ⟨ra, rcap, h1, h2⟩ := h.tbl
  refine ⟨h.hp, h.hq, h.ne, h.n1, h.n2, ⟨ra, rcap, ?_, ?_⟩, ?_, h.rb⟩
  · rw [Below.heap_setCell _ _ _ _ hp]; exact h1
  · exact ownsRow_setCell_other h2 (a := ⟨k, j, none⟩) (own_ne h2 hk ht) v
  · rw [Below.heap_setCell _ _ _ _ hq]; exact h.slots
theorem u_thing : 144 ≠ 75 := by decide
/-- a block outside the old world may be written -/
theorem fr_set_new {p q : Nat} {w w' : World} (h : Fr p q w w') {k : Nat} (hk : w.heap.size ≤ k) (j : Nat) (v : Value) : Fr p q w (w'.setCell ⟨k, j, none⟩ v) :=
  ⟨h.os, h.tape, h.output, by simpa [World.setCell] using h.size, fun b hb h1 h2 => (Below.heap_setCell _ _ _ _ (by dsimp only; omega)).trans (h.block b hb h1 h2)⟩

theorem findE_zero {st : List Slt} {h : Int} (he : findE st h = 0) : ∃ i : Nat, slotI h = i ∧ i < st.length ∧ (st.getD i (0, false, undef)).2.1 = true ∧ numI h = ((st.getD i (0, false, undef)).1 : Int) := by
  unfold findE at he
  by_cases h1 : slotI h < 0 ∨ (st.length : Int) ≤ slotI h ∨ ((atH st h).1 : Int) < numI h
  · rw [if_pos h1] at he; cases he
  · rw [if_neg h1] at he
    by_cases h2 : numI h < ((atH st h).1 : Int) ∨ (atH st h).2.1 = false
    · rw [if_pos h2] at he; cases he
    · obtain ⟨i, hi⟩ := Int.eq_ofNat_of_zero_le (by omega : 0 ≤ slotI h)
      rw [atH_eq hi] at h1 h2
      refine ⟨i, hi, by omega, ?_, by omega⟩
      cases hb : (st.getD i (0, false, undef)).2.1 with
      | true => rfl
      | false => exact absurd (.inr hb) h2

set_option maxRecDepth 100000 in
set_option maxHeartbeats 1600000 in
theorem get_err {B p q : Nat} {st : List Slt} {m : Nat} {r : Nat → Bool} (h : Int) (w : World) (H : Tb TBL SLOT w B p q st m r) (he : findE st h ≠ 0) :
    Calls Tryd.prog 38 #[.pointer (some ⟨p, 0, none⟩), .int .i64 h] w fun e w' => e = .returned (.tuple #[.agg #[.string ⟨#[]⟩, .int .i64 0], .int .i64 (findE st h)]) ∧ Below w.heap.size w w' := by
  have hb0 := below_box0 w (.cells #[.string ⟨#[]⟩, .int .i64 0] 75)
  have HB := Lib.hid hb0
  have HF := Lib.hid (find_ok h _ (H.below hb0))
  have hb := bne0_true he
  clear he H hb0
  go_enter Tryd.func38, Tryd.ntmps38
  go_wp2_with fail
  refine HF.out.mono ?_
  rintro e w1 ⟨rfl, rfl⟩
  go_wp2
  exact bodyPost_ret (v := .tuple #[.agg #[.string ⟨#[]⟩, .int .i64 0], .int .i64 (findE st h)]) (by simp [results, Tryd.f38, go_sem]) rfl ⟨rfl, below_box0 _ _⟩
set_option maxRecDepth 100000 in
set_option maxHeartbeats 1600000 in
theorem get_ok {B p q : Nat} {st : List Slt} {m : Nat} {r : Nat → Bool} (h : Int) (i : Nat) (ys : ByteArray) (y : Int) (w : World) (H : Tb TBL SLOT w B p q st m r) (he : findE st h = 0) (hi : slotI h = i) (hv : (st.getD i (0, false, undef)).2.2 = .agg #[.string ys, .int .i64 y]) :
    Calls Tryd.prog 38 #[.pointer (some ⟨p, 0, none⟩), .int .i64 h] w fun e w' => e = .returned (.tuple #[.agg #[.string ys, .int .i64 y], .int .i64 0]) ∧ Below w.heap.size w w' := by
  obtain ⟨i', hi', hlt, hx1, hx2⟩ := findE_zero he
  clear hx1 hx2
  obtain rfl : i' = i := by omega
  have hb0 := below_box0 w (.cells #[.string ⟨#[]⟩, .int .i64 0] 75)
  have HB := Lib.hid hb0
  have H0 := H.below hb0
  have s2 := H0.s2 hlt
  have s3 := H0.s3 hlt
  rw [hv] at s2 s3
  change _ = some (Value.string ys) at s2
  change _ = some (Value.int .i64 y) at s3
  have hF := find_ok h _ H0
  have hP : findP q st h = some ⟨q, i' * 4, none⟩ := by unfold findP; rw [if_pos he, hi]; rfl
  rw [hP, he] at hF
  have HF := Lib.hid hF
  clear hF hP he H hv hi hi' hb0 H0
  go_enter Tryd.func38, Tryd.ntmps38
  go_wp2_with fail
  refine HF.out.mono ?_
  rintro e w1 ⟨rfl, rfl⟩
  go_wp2
  exact bodyPost_ret (v := .tuple #[.agg #[.string ys, .int .i64 y], .int .i64 0]) (by simp [results, Tryd.f38, go_sem]) rfl ⟨rfl, below_box0 _ _⟩

set_option maxRecDepth 100000 in
set_option maxHeartbeats 1600000 in
theorem drop_err {B p q : Nat} {st : List Slt} {m : Nat} {r : Nat → Bool} (h : Int) (w : World) (H : Tb TBL SLOT w B p q st m r) (he : findE st h ≠ 0) :
    Calls Tryd.prog 40 #[.pointer (some ⟨p, 0, none⟩), .int .i64 h] w fun e w' => e = .returned (.tuple #[.agg #[.string ⟨#[]⟩, .int .i64 0], .int .i64 (findE st h)]) ∧ Below w.heap.size w w' := by
  have hb0 := below_box0 w (.cells #[.string ⟨#[]⟩, .int .i64 0] 75)
  have HB := Lib.hid hb0
  have HF := Lib.hid (find_ok h _ (H.below hb0))
  have hb := bne0_true he
  have hmf : ∀ (fn : Fn) (first cap : Array Value) (w : World), (Instr.makeFunc fn first cap).run Tryd.prog w = .ok (.func fn first cap) w := fun _ _ _ _ => rfl
  clear he H hb0
  go_enter Tryd.func40, Tryd.ntmps40
  go_wp2_with fail
  refine HF.out.mono ?_
  rintro e w1 ⟨rfl, rfl⟩
  go_wp2
  exact bodyPost_ret (v := .tuple #[.agg #[.string ⟨#[]⟩, .int .i64 0], .int .i64 (findE st h)]) (by simp [results, Tryd.f40, go_sem]) rfl ⟨rfl, below_box0 _ _⟩

set_option maxRecDepth 100000 in
set_option maxHeartbeats 3200000 in
theorem drop_ok {B p q : Nat} {st : List Slt} {m : Nat} {r : Nat → Bool} (h : Int) (i g : Nat) (ys : ByteArray) (y : Int) (w : World) (H : Tb TBL SLOT w B p q st (m + 1) r) (he : findE st h = 0) (hi : slotI h = i) (hg : (st.getD i (0, false, undef)).1 = g)
    (hv : (st.getD i (0, false, undef)).2.2 = .agg #[.string ys, .int .i64 y]) (hm : m ≤ 100000) :
    Calls Tryd.prog 40 #[.pointer (some ⟨p, 0, none⟩), .int .i64 h] w fun e w' => e = .returned (.tuple #[.agg #[.string ys, .int .i64 y], .int .i64 0]) ∧
      Tb TBL SLOT w' B p q (st.set i (g, false, zT)) m (filled r i (i + 1) (rdy (g, false, zT))) ∧ Fr p q w w' := by
  obtain ⟨i', hi', hlt, hx1, hx2⟩ := findE_zero he
  clear hx1 hx2
  obtain rfl : i' = i := by omega
  have hb0 := below_box0 w (.cells #[.string ⟨#[]⟩, .int .i64 0] 75)
  have HB := Lib.hid hb0
  have H0 := H.below hb0
  have s1 := H0.s1 hlt
  have s2 := H0.s2 hlt
  have s3 := H0.s3 hlt
  rw [hv] at s2 s3
  change _ = some (Value.string ys) at s2
  change _ = some (Value.int .i64 y) at s3
  have z2 := H.s2 hlt
  have z3 := H.s3 hlt
  rw [hv] at z2 z3
  change _ = some (Value.string ys) at z2
  change _ = some (Value.int .i64 y) at z3
  have z1 := H.s1 hlt
  have e1 := H.fp
  have e2 := H.fq
  have d4 := H.c3
  rw [show ((m + 1 : Nat) : Int) = (m : Int) + 1 by omega] at d4
  have d3 := H0.c3
  have f1 := H0.fp
  have f2 := H0.fq
  have hne := H.ne
  have hpq : p < w.heap.size ∧ q < w.heap.size := ⟨World.block_lt_of_cell? _ _ H.c1, blk_lt H.slots⟩
  have hBw : B ≤ w.heap.size := by have := H.hp; omega
  have m1 : w.heap.size ≠ p := by omega
  have m2 : w.heap.size ≠ q := by omega
  have m3 : q ≠ w.heap.size := by omega
  have m4 : p ≠ w.heap.size := by omega
  rw [show ((m + 1 : Nat) : Int) = (m : Int) + 1 by omega] at d3
  have hF := find_ok h _ H0
  have hP : findP q st h = some ⟨q, i' * 4, none⟩ := by unfold findP; rw [if_pos he, hi]; rfl
  rw [hP, he] at hF
  have HF := Lib.hid hF
  have HH := Lib.hid H
  have HBw := Lib.hid hBw
  have HG := Lib.hid hg
  have HI := Lib.hid hi
  have hmf : ∀ (fn : Fn) (first cap : Array Value) (w : World), (Instr.makeFunc fn first cap).run Tryd.prog w = .ok (.func fn first cap) w := fun _ _ _ _ => rfl
  clear hF hP he H hv hi hi' hg hb0 H0
  go_enter Tryd.func40, Tryd.ntmps40
  go_wp2_with fail
  refine HF.out.mono ?_
  rintro e w1 ⟨rfl, rfl⟩
  go_wp2_with fail
  go_region
  go_wp2_with fail
  refine (slot_ok h _).mono ?_
  rintro e w1 ⟨rfl, rfl⟩
  rw [HI.out]
  go_wp2_with fail
  have hD := HH.out.dropped u_slot u_tbl hlt HG.out zT (m : Int) m rfl
  have HD := Lib.hid ((hD.below (below_box0 _ (.cells #[.string ys, .int .i64 y] 75))).below (below_draw _ 1))
  clear hD
  refine (note_ok i' _ HD.out (by have h2 := HBw.out; simp [World.drewN]; omega) (by simpa using hlt)).mono ?_
  rintro e w2 ⟨rfl, ht2, hf2⟩
  have e2 : ((st.set i' (g, false, zT)).getD i' (0, false, undef)) = (g, false, zT) := by simp [hlt]
  rw [e2] at ht2
  have hblk : w2.heap[w.heap.size]? = some (.cells #[.string ys, .int .i64 y] 75 (0, 0)) := by
    rw [hf2.block w.heap.size (by simp [World.drewN]) m1 m2]
    have := heap_alloc_new ((((w.setCell ⟨q, i' * 4 + 2, none⟩ (.string ⟨#[]⟩)).setCell ⟨q, i' * 4 + 3, none⟩ (.int .i64 0)).setCell ⟨q, i' * 4 + 1, none⟩ (.bool false)).setCell ⟨p, 3, none⟩ (.int .i64 m)) (.cells #[.string ys, .int .i64 y] 75)
    simp only [World.size_setCell] at this
    exact this
  have k0 : w2.cell? ⟨w.heap.size, 0, none⟩ = some (.string ys) := by rw [cell_of_block hblk]; rfl
  have k1 : w2.cell? ⟨w.heap.size, 1, none⟩ = some (.int .i64 y) := by rw [cell_of_block hblk]; rfl
  have k2 : ∀ j, w2.frozen? ⟨w.heap.size, j, none⟩ = false := fun j => unfrozen_of_block hblk j
  have hfin := (ht2.set_other (j := 0) hblk u_thing m4 m3 (.string ys)).set_other (j := 1) (setCell_block hblk _) u_thing m4 m3 (.int .i64 y)
  have HT2 := Lib.hid hfin
  have HF2 := Lib.hid hf2
  clear ht2 hf2 hblk hfin
  go_wp2
  refine bodyPost_ret (v := .tuple #[.agg #[.string ys, .int .i64 y], .int .i64 0]) (by simp [results, Tryd.f40, go_sem, k0, k1]) rfl ⟨rfl, HT2.out, ?_⟩
  have hg : Fr p q w (((((w.setCell ⟨q, i' * 4 + 2, none⟩ (.string ⟨#[]⟩)).setCell ⟨q, i' * 4 + 3, none⟩ (.int .i64 0)).setCell ⟨q, i' * 4 + 1, none⟩ (.bool false)).setCell ⟨p, 3, none⟩ (.int .i64 m)).alloc (.cells #[.string ys, .int .i64 y] 75)).drew :=
    ((((Fr.setQ w (i' * 4 + 2) (.string ⟨#[]⟩)).trans (Fr.setQ _ (i' * 4 + 3) (.int .i64 0))).trans (Fr.setQ _ (i' * 4 + 1) (.bool false))).trans (Fr.setP _ 3 (.int .i64 m))).trans (Fr.of_below (below_box0 _ _)) |>.trans (Fr.of_below (below_draw _ 1))
  exact fr_set_new (fr_set_new (hg.trans HF2.out) (Nat.le_refl _) 0 _) (Nat.le_refl _) 1 _
end Go.Proofs.YtpaecmpiokkdnaaDoor.Thing

namespace Go.Proofs.YtpaecmpiokkdnaaDoor.Thing
open Go.RowKit Go.Sort Go.Joins
attribute [local go_sem] cell_grow frozen_grow size_grow

section
variable {B p q : Nat} {st : List Slt}
theorem tnew_ok (n : Nat) (w : World) (h1 : 1 ≤ n) (h2 : n ≤ 1024) : Calls Tryd.prog 37 #[.int .i64 n] w fun e w' => e = .returned (.tuple #[.pointer (some ⟨w.heap.size + 1, 0, none⟩), .int .i64 0]) ∧
    TT w' w.heap.size (w.heap.size + 1) w.heap.size (List.replicate n (0, false, (.agg #[.string ⟨#[]⟩, .int .i64 0]))) ∧ Below w.heap.size w w' :=
  (new_ok n w h1 h2).mono fun _ _ ⟨he, ht, hb⟩ => ⟨he, by
    rw [← stP_zero (G := fun _ => 0) (A := fun _ => false) (V := fun _ => (.agg #[.string ⟨#[]⟩, .int .i64 0])), rdyF_zero (G := fun _ => 0) (A := fun _ => false) (V := fun _ => (.agg #[.string ⟨#[]⟩, .int .i64 0])) (Z := (.agg #[.string ⟨#[]⟩, .int .i64 0]))] at ht
    rw [← stP_zero (G := fun _ => 0) (A := fun _ => false) (V := fun _ => (.agg #[.string ⟨#[]⟩, .int .i64 0]))]
    exact Tg.of ht countP_zero rfl, hb⟩
theorem cntV_rdy (h : chk st.length (pack (rdyF st) ((st.length + 63) / 64)) = 0) : cntV st.length (pack (rdyF st) ((st.length + 63) / 64)) 0 st.length = ((cnt (rdyF st) 0 st.length : Nat) : Int) := by
  unfold cntV
  rw [if_pos (prt_ok h (by omega))]
  congr 1
  simp only [Int.toNat_zero, Int.toNat_natCast]
  exact cnt_congr _ fun i hi => by rw [pack_bat _ _ _ (by omega)]
set_option maxRecDepth 100000 in
set_option maxHeartbeats 1600000 in
theorem room_ok (w : World) (h : TT w B p q st) : Calls Tryd.prog 45 #[.pointer (some ⟨p, 0, none⟩)] w fun e w' => e = .returned (.int .i64 ((cnt (rdyF st) 0 st.length : Nat) : Int)) ∧ Below w.heap.size w w' := by
  have c0 := Tb.c0 h
  have c1 := Tb.c1 h
  obtain ⟨ra, rcap, c2, hsl⟩ := Tb.c2 h
  have hcv := cntV_rdy (Tb.chk0 h)
  have n2 := h.n2
  have HM := Lib.hid (made_ok w h)
  obtain ⟨ws, hws⟩ : ∃ ws, pack (rdyF st) ((st.length + 63) / 64) = ws := ⟨_, rfl⟩
  have hlt : ∀ x ∈ ws, x < 18446744073709551616 := by rw [← hws]; exact pack_lt _ _
  rw [hws] at hsl hcv
  rw [← hcv]
  have HS := Lib.hid hsl
  have HL := Lib.hid hlt
  have HC : Hid (∀ w', Below w.heap.size w w' → w'.cell? ⟨p, 0, none⟩ = some (.slice (some ⟨q, 0, none⟩) st.length st.length) ∧ w'.cell? ⟨p, 1, none⟩ = some (.int .i64 (st.length : Int)) ∧ w'.cell? ⟨p, 2, none⟩ = some (.slice ra ((st.length + 63) / 64) rcap)) :=
    Lib.hid (fun w' hb => ⟨cell_later hb c0, cell_later hb c1, cell_later hb c2⟩)
  clear h hcv hws hlt hsl
  go_enter Tryd.func45, Tryd.ntmps45
  go_wp2_with fail
  refine HM.out.mono ?_
  rintro e w1 ⟨rfl, rfl⟩
  go_wp2_with fail
  go_region_held3 (fun w' => Below w.heap.size w w' ∧ w'.cell? ⟨p, 0, none⟩ = some (.slice (some ⟨q, 0, none⟩) st.length st.length) ∧ w'.cell? ⟨p, 1, none⟩ = some (.int .i64 (st.length : Int)) ∧ w'.cell? ⟨p, 2, none⟩ = some (.slice ra ((st.length + 63) / 64) rcap))
    ((refine keepN HC ?_; first | exact (Below.refl _ _).drew | exact And.left (by assumption) | exact bel_call (by assumption) (by assumption)))
    ((go_at_call 64; (refine (bCount_ok st.length 0 st.length ra ((st.length + 63) / 64) rcap ws _ (HS.out.below (And.left (by assumption))) HL.out (by omega)).mono ?_); rintro e w2 ⟨rfl, b2⟩; have g2 : Below w.heap.size w w2 := bel_call (by assumption) b2))
  all_goals
    go_wp2
    go_ret
    exact ⟨rfl, g2⟩

theorem countP_at {i : Nat} (hi : i < st.length) (s : Slt) : (st.set i s).countP alv + (if (st.getD i (0, false, undef)).2.1 then 1 else 0) = st.countP alv + (if s.2.1 then 1 else 0) := countP_set' alv (0, false, undef) st i s hi
theorem rdyF_at {i : Nat} (h : rdyF st i = true) : i < st.length ∧ (st.getD i (0, false, undef)).2.1 = false ∧ (st.getD i (0, false, undef)).1 < 65535 := by
  unfold rdyF rdy at h
  simp only [Bool.and_eq_true, decide_eq_true_eq, Bool.not_eq_true'] at h
  exact ⟨h.1, h.2.1, h.2.2⟩
theorem next_at {i : Nat} (hi : nxt (rdyF st) 0 st.length = i) (hlt : i < st.length) : rdyF st i = true := by
  have := (nxt_spec (p := rdyF st) (a := 0) (n := st.length) (Nat.zero_le _)).2.2.2
  rw [hi] at this
  exact this hlt
theorem tput_ok (i : Nat) (xs : ByteArray) (x : Int) (w : World) (h : TT w B p q st) (hT : Tab w) (hi : nxt (rdyF st) 0 st.length = i) (hlt : i < st.length) :
    Calls Tryd.prog 41 #[.pointer (some ⟨p, 0, none⟩), (.agg #[.string xs, .int .i64 x])] w fun e w' => e = .returned (.tuple #[.int .i64 ((((st.getD i (0, false, undef)).1 : Int) + 1) * 65536 + i), .int .i64 0]) ∧
      TT w' B p q (st.set i ((st.getD i (0, false, undef)).1 + 1, true, (.agg #[.string xs, .int .i64 x]))) ∧ Fr p q w w' := by
  obtain ⟨_, hal, hg⟩ := rdyF_at (next_at hi hlt)
  have hc := h.count_le
  refine (put_ok i _ xs x w h hT hi hlt rfl hg (by omega)).mono ?_
  rintro e w' ⟨he, ht, hf⟩
  refine ⟨he, ?_, hf⟩
  rw [rdy_t ((st.getD i (0, false, undef)).1 + 1) ((.agg #[.string xs, .int .i64 x])), rdyF_set _ hlt] at ht
  refine Tg.of ht ?_ rfl
  have := countP_at hlt ((st.getD i (0, false, undef)).1 + 1, true, (.agg #[.string xs, .int .i64 x]))
  rw [hal] at this
  simp only [Bool.false_eq_true, ↓reduceIte] at this
  omega
theorem tdrop_ok (h : Int) (i : Nat) (ys : ByteArray) (y : Int) (w : World) (H : TT w B p q st) (he : findE st h = 0) (hi : slotI h = i) (hv : (st.getD i (0, false, undef)).2.2 = .agg #[.string ys, .int .i64 y]) :
    Calls Tryd.prog 40 #[.pointer (some ⟨p, 0, none⟩), .int .i64 h] w fun e w' => e = .returned (.tuple #[.agg #[.string ys, .int .i64 y], .int .i64 0]) ∧
      TT w' B p q (st.set i ((st.getD i (0, false, undef)).1, false, (.agg #[.string ⟨#[]⟩, .int .i64 0]))) ∧ Fr p q w w' := by
  obtain ⟨i', hi', hlt, hal, _⟩ := findE_zero he
  obtain rfl : i' = i := by omega
  have hc := H.count_le
  have e0 := countP_at hlt ((st.getD i' (0, false, undef)).1, false, (.agg #[.string ⟨#[]⟩, .int .i64 0]))
  rw [hal] at e0
  simp only [Bool.false_eq_true, ↓reduceIte] at e0
  obtain ⟨m, hm⟩ : ∃ m, st.countP alv = m + 1 := ⟨st.countP alv - 1, by omega⟩
  have H' : Tb 124 129 w B p q st (m + 1) (rdyF st) := by rw [← hm]; exact H
  refine (drop_ok h i' _ ys y w H' he hi rfl hv (by omega)).mono ?_
  rintro e w' ⟨he, ht, hf⟩
  refine ⟨he, ?_, hf⟩
  rw [rdyF_set _ hlt] at ht
  exact Tg.of ht (by omega) rfl
theorem tput_full (xs : ByteArray) (x : Int) (w : World) (h : TT w B p q st) (hT : Tab w) (hlt : ¬ nxt (rdyF st) 0 st.length < st.length) :
    Calls Tryd.prog 41 #[.pointer (some ⟨p, 0, none⟩), (.agg #[.string xs, .int .i64 x])] w fun e w' => e = .returned (.tuple #[.int .i64 0, .int .i64 5]) ∧ Below w.heap.size w w' := put_full xs x w h hT hlt
end
end Go.Proofs.YtpaecmpiokkdnaaDoor.Thing

namespace Go.Proofs.YtpaecmpiokkdnaaDoor.Thing
open Go.RowKit Go.Sort Go.Joins
attribute [local go_sem] cell_grow frozen_grow size_grow

section
variable {B p q : Nat} {st : List Slt}
theorem len_ok (w : World) (h : TT w B p q st) : Calls Tryd.prog 44 #[.pointer (some ⟨p, 0, none⟩)] w fun e w' => e = .returned (.int .i64 ((st.countP alv : Nat) : Int)) ∧ w = w' := by
  have c3 := Tb.c3 h
  have HM := Lib.hid (made_ok w h)
  obtain ⟨m, hm⟩ : ∃ m, st.countP alv = m := ⟨_, rfl⟩
  rw [hm] at c3 ⊢
  clear hm h
  go_enter Tryd.func44, Tryd.ntmps44
  go_wp2_with fail
  refine HM.out.mono ?_
  rintro e w1 ⟨rfl, rfl⟩
  go_wp2
  go_ret
  exact ⟨rfl, rfl⟩
set_option maxRecDepth 100000 in
set_option maxHeartbeats 1600000 in
theorem set_err (h : Int) (xs : ByteArray) (x : Int) (w : World) (H : TT w B p q st) (he : findE st h ≠ 0) :
    Calls Tryd.prog 39 #[.pointer (some ⟨p, 0, none⟩), .int .i64 h, .agg #[.string xs, .int .i64 x]] w fun e w' => e = .returned (.int .i64 (findE st h)) ∧ Below w.heap.size w w' := by
  have hb0 := below_box0 w (.cells #[.string xs, .int .i64 x] 75)
  have HB := Lib.hid hb0
  have HF := Lib.hid (find_ok h _ (Tg.below H hb0))
  have hb := bne0_true he
  clear he H hb0
  go_enter Tryd.func39, Tryd.ntmps39
  go_wp2_with fail
  refine HF.out.mono ?_
  rintro e w1 ⟨rfl, rfl⟩
  go_wp2
  go_ret
  exact ⟨rfl, HB.out⟩
theorem set_same_alv {i : Nat} (hlt : i < st.length) (v : Value) : (st.set i ((st.getD i (0, false, undef)).1, (st.getD i (0, false, undef)).2.1, v)).countP alv = st.countP alv ∧ rdyF (st.set i ((st.getD i (0, false, undef)).1, (st.getD i (0, false, undef)).2.1, v)) = rdyF st := by
  constructor
  · have := countP_at hlt ((st.getD i (0, false, undef)).1, (st.getD i (0, false, undef)).2.1, v)
    dsimp only at this
    omega
  · rw [← rdyF_set _ hlt]
    funext j
    unfold filled
    by_cases hj : i ≤ j ∧ j < i + 1
    · obtain rfl : j = i := by omega
      rw [if_pos hj]
      unfold rdyF
      simp [hlt, rdy]
    · rw [if_neg hj]
set_option maxRecDepth 100000 in
set_option maxHeartbeats 1600000 in
theorem set_ok (h : Int) (i : Nat) (xs : ByteArray) (x : Int) (w : World) (H : TT w B p q st) (he : findE st h = 0) (hi : slotI h = i) :
    Calls Tryd.prog 39 #[.pointer (some ⟨p, 0, none⟩), .int .i64 h, .agg #[.string xs, .int .i64 x]] w fun e w' => e = .returned (.int .i64 0) ∧ TT w' B p q (st.set i ((st.getD i (0, false, undef)).1, (st.getD i (0, false, undef)).2.1, .agg #[.string xs, .int .i64 x])) ∧ Fr p q w w' := by
  obtain ⟨i', hi', hlt, hx1, hx2⟩ := findE_zero he
  clear hx1 hx2
  obtain rfl : i' = i := by omega
  have hb0 := below_box0 w (.cells #[.string xs, .int .i64 x] 75)
  have s2 := Tb.s2 H hlt
  have s3 := Tb.s3 H hlt
  have f2 := Tb.fq H
  have hpq : p < w.heap.size ∧ q < w.heap.size := ⟨World.block_lt_of_cell? _ _ (Tb.c1 H), blk_lt (Tb.slots H)⟩
  have m2 : w.heap.size ≠ q := by omega
  have m3 : q ≠ w.heap.size := by omega
  have hF := find_ok h _ (Tg.below H hb0)
  have hP : findP q st h = some ⟨q, i' * 4, none⟩ := by unfold findP; rw [if_pos he, hi]; rfl
  rw [hP, he] at hF
  have HF := Lib.hid hF
  have HX := Lib.hid (Tb.valued H u_slot hlt (.agg #[.string xs, .int .i64 x]))
  have HY := Lib.hid (set_same_alv hlt (.agg #[.string xs, .int .i64 x]))
  obtain ⟨v, hv⟩ : ∃ v, v = (st.getD i' (0, false, undef)).2.2 := ⟨_, rfl⟩
  rw [← hv] at s2 s3
  clear hF hP he H hv hi hi' hb0
  go_enter Tryd.func39, Tryd.ntmps39
  go_wp2_with fail
  refine HF.out.mono ?_
  rintro e w1 ⟨rfl, rfl⟩
  go_wp2
  go_ret
  refine ⟨rfl, Tg.of (HX.out.below (below_box0 _ (.cells #[.string xs, .int .i64 x] 75))) HY.out.1.symm HY.out.2.symm, ?_⟩
  exact ((Fr.setQ w (i' * 4 + 2) (.string xs)).trans (Fr.setQ _ (i' * 4 + 3) (.int .i64 x))).trans (Fr.of_below (below_box0 _ _))
end
end Go.Proofs.YtpaecmpiokkdnaaDoor.Thing
