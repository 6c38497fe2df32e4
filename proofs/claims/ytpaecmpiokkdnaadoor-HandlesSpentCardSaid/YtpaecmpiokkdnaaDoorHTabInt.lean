/- Handles of type int: the methods, of tables whose count and ready slots follow from the slots. -/
import Derived.Test.YtpaecmpiokkdnaaDoorHLoadInt
import Derived.Test.YtpaecmpiokkdnaaDoorHPutInt
import Derived.Test.YtpaecmpiokkdnaaDoorHGetInt
import Derived.Deep.RegionHeld3
namespace Go.Proofs.YtpaecmpiokkdnaaDoor.Int
open Go.RowKit Go.Sort Go.Joins
attribute [local go_sem] cell_grow frozen_grow size_grow

section
variable {B p q : Nat} {st : List Slt}
theorem tnew_ok (n : Nat) (w : World) (h1 : 1 ≤ n) (h2 : n ≤ 1024) : Calls Tryd.prog 13 #[.int .i64 n] w fun e w' => e = .returned (.tuple #[.pointer (some ⟨w.heap.size + 1, 0, none⟩), .int .i64 0]) ∧
    TT w' w.heap.size (w.heap.size + 1) w.heap.size (List.replicate n (0, false, .int .i64 0)) ∧ Below w.heap.size w w' :=
  (new_ok n w h1 h2).mono fun _ _ ⟨he, ht, hb⟩ => ⟨he, by
    rw [← stP_zero (G := fun _ => 0) (A := fun _ => false) (V := fun _ => .int .i64 0), rdyF_zero (G := fun _ => 0) (A := fun _ => false) (V := fun _ => .int .i64 0) (Z := .int .i64 0)] at ht
    rw [← stP_zero (G := fun _ => 0) (A := fun _ => false) (V := fun _ => .int .i64 0)]
    exact Tg.of ht countP_zero rfl, hb⟩
theorem cntV_rdy (h : chk st.length (pack (rdyF st) ((st.length + 63) / 64)) = 0) : cntV st.length (pack (rdyF st) ((st.length + 63) / 64)) 0 st.length = ((cnt (rdyF st) 0 st.length : Nat) : Int) := by
  unfold cntV
  rw [if_pos (prt_ok h (by omega))]
  congr 1
  simp only [Int.toNat_zero, Int.toNat_natCast]
  exact cnt_congr _ fun i hi => by rw [pack_bat _ _ _ (by omega)]
set_option maxRecDepth 100000 in
set_option maxHeartbeats 1600000 in
theorem room_ok (w : World) (h : TT w B p q st) : Calls Tryd.prog 36 #[.pointer (some ⟨p, 0, none⟩)] w fun e w' => e = .returned (.int .i64 ((cnt (rdyF st) 0 st.length : Nat) : Int)) ∧ Below w.heap.size w w' := by
  have c0 := Tb.c0 h
  have c1 := Tb.c1 h
  obtain ⟨ra, rcap, c2, hsl⟩ := Tb.c2 h
  have hcv := cntV_rdy (Tb.chk0 h)
  have n2 := h.n2
  have HM := Lib.hid (made_ok w h)
  obtain ⟨ws, hws⟩ : ∃ ws, pack (rdyF st) ((st.length + 63) / 64) = ws := ⟨_, rfl⟩
  have hlt : ∀ x ∈ ws, x < 18446744073709551616 := by rw [← hws]; exact pack_lt _ _
  rw [hws] at hsl hcv
  rw [← hcv]
  have HS := Lib.hid hsl
  have HL := Lib.hid hlt
  have HC : Hid (∀ w', Below w.heap.size w w' → w'.cell? ⟨p, 0, none⟩ = some (.slice (some ⟨q, 0, none⟩) st.length st.length) ∧ w'.cell? ⟨p, 1, none⟩ = some (.int .i64 (st.length : Int)) ∧ w'.cell? ⟨p, 2, none⟩ = some (.slice ra ((st.length + 63) / 64) rcap)) :=
    Lib.hid (fun w' hb => ⟨cell_later hb c0, cell_later hb c1, cell_later hb c2⟩)
  clear h hcv hws hlt hsl
  go_enter Tryd.func36, Tryd.ntmps36
  go_wp2_with fail
  refine HM.out.mono ?_
  rintro e w1 ⟨rfl, rfl⟩
  go_wp2_with fail
  go_region_held3 (fun w' => Below w.heap.size w w' ∧ w'.cell? ⟨p, 0, none⟩ = some (.slice (some ⟨q, 0, none⟩) st.length st.length) ∧ w'.cell? ⟨p, 1, none⟩ = some (.int .i64 (st.length : Int)) ∧ w'.cell? ⟨p, 2, none⟩ = some (.slice ra ((st.length + 63) / 64) rcap))
    ((refine keepN HC ?_; first | exact (Below.refl _ _).drew | exact And.left (by assumption) | exact bel_call (by assumption) (by assumption)))
    ((go_at_call 64; (refine (bCount_ok st.length 0 st.length ra ((st.length + 63) / 64) rcap ws _ (HS.out.below (And.left (by assumption))) HL.out (by omega)).mono ?_); rintro e w2 ⟨rfl, b2⟩; have g2 : Below w.heap.size w w2 := bel_call (by assumption) b2))
  all_goals
    go_wp2
    go_ret
    exact ⟨rfl, g2⟩

theorem countP_at {i : Nat} (hi : i < st.length) (s : Slt) : (st.set i s).countP alv + (if (st.getD i (0, false, undef)).2.1 then 1 else 0) = st.countP alv + (if s.2.1 then 1 else 0) := countP_set' alv (0, false, undef) st i s hi
theorem rdyF_at {i : Nat} (h : rdyF st i = true) : i < st.length ∧ (st.getD i (0, false, undef)).2.1 = false ∧ (st.getD i (0, false, undef)).1 < 65535 := by
  unfold rdyF rdy at h
  simp only [Bool.and_eq_true, decide_eq_true_eq, Bool.not_eq_true'] at h
  exact ⟨h.1, h.2.1, h.2.2⟩
theorem next_at {i : Nat} (hi : nxt (rdyF st) 0 st.length = i) (hlt : i < st.length) : rdyF st i = true := by
  have := (nxt_spec (p := rdyF st) (a := 0) (n := st.length) (Nat.zero_le _)).2.2.2
  rw [hi] at this
  exact this hlt
theorem tput_ok (i : Nat) (x : Int) (w : World) (h : TT w B p q st) (hT : Tab w) (hi : nxt (rdyF st) 0 st.length = i) (hlt : i < st.length) :
    Calls Tryd.prog 14 #[.pointer (some ⟨p, 0, none⟩), (.int .i64 x)] w fun e w' => e = .returned (.tuple #[.int .i64 ((((st.getD i (0, false, undef)).1 : Int) + 1) * 65536 + i), .int .i64 0]) ∧
      TT w' B p q (st.set i ((st.getD i (0, false, undef)).1 + 1, true, (.int .i64 x))) ∧ Fr p q w w' := by
  obtain ⟨_, hal, hg⟩ := rdyF_at (next_at hi hlt)
  have hc := h.count_le
  refine (put_ok i _ x w h hT hi hlt rfl hg (by omega)).mono ?_
  rintro e w' ⟨he, ht, hf⟩
  refine ⟨he, ?_, hf⟩
  rw [rdy_t ((st.getD i (0, false, undef)).1 + 1) ((.int .i64 x)), rdyF_set _ hlt] at ht
  refine Tg.of ht ?_ rfl
  have := countP_at hlt ((st.getD i (0, false, undef)).1 + 1, true, (.int .i64 x))
  rw [hal] at this
  simp only [Bool.false_eq_true, ↓reduceIte] at this
  omega
theorem tdrop_ok (h : Int) (i : Nat) (w : World) (H : TT w B p q st) (he : findE st h = 0) (hi : slotI h = i) :
    Calls Tryd.prog 23 #[.pointer (some ⟨p, 0, none⟩), .int .i64 h] w fun e w' => e = .returned (.tuple #[(st.getD i (0, false, undef)).2.2, .int .i64 0]) ∧
      TT w' B p q (st.set i ((st.getD i (0, false, undef)).1, false, .int .i64 0)) ∧ Fr p q w w' := by
  obtain ⟨i', hi', hlt, hal, _⟩ := findE_zero he
  obtain rfl : i' = i := by omega
  have hc := H.count_le
  have e0 := countP_at hlt ((st.getD i' (0, false, undef)).1, false, .int .i64 0)
  rw [hal] at e0
  simp only [Bool.false_eq_true, ↓reduceIte] at e0
  obtain ⟨m, hm⟩ : ∃ m, st.countP alv = m + 1 := ⟨st.countP alv - 1, by omega⟩
  have H' : Tb 99 105 w B p q st (m + 1) (rdyF st) := by rw [← hm]; exact H
  refine (drop_ok h i' _ w H' he hi rfl (by omega)).mono ?_
  rintro e w' ⟨he, ht, hf⟩
  refine ⟨he, ?_, hf⟩
  rw [rdyF_set _ hlt] at ht
  exact Tg.of ht (by omega) rfl
theorem tput_full (x : Int) (w : World) (h : TT w B p q st) (hT : Tab w) (hlt : ¬ nxt (rdyF st) 0 st.length < st.length) :
    Calls Tryd.prog 14 #[.pointer (some ⟨p, 0, none⟩), (.int .i64 x)] w fun e w' => e = .returned (.tuple #[.int .i64 0, .int .i64 5]) ∧ Below w.heap.size w w' := put_full x w h hT hlt
end
end Go.Proofs.YtpaecmpiokkdnaaDoor.Int
