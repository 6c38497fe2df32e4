/- Handles of type int: Load. | Handles of type int: Put. | Handles of type int: find. | Handles of type int: Get, Drop. | Handles of type int: the methods, of tables whose count and ready slots follow from the slots. -/
import Derived.Test.YtpaecmpiokkdnaaDoorTypesZ5
import Derived.Test.YtpaecmpiokkdnaaDoorTypesZ12
import Derived.Test.YtpaecmpiokkdnaaDoorTypesZ4
import Derived.Deep.RegionHeld3
namespace Go.Proofs.YtpaecmpiokkdnaaDoor.Int
open Go.RowKit Go.Sort Go.Joins
attribute [local go_sem] cell_grow frozen_grow size_grow

abbrev TT (w : World) (B p q : Nat) (st : List Slt) : Prop := Tg 99 105 w B p q st
section
variable {n na nv : Nat} {ga aa va : Option Addr} {gc ac vc : Nat} {G : Nat → Int} {A : Nat → Bool} {V : Nat → Value}
set_option maxRecDepth 100000 in
set_option maxHeartbeats 1600000 in
theorem load_err (w : World) (hG : SlF w ga n (zI G)) (hA : SlF w aa na (zB A)) (he : hcE n na nv G A ≠ 0) :
    Calls Tryd.prog 18 #[.agg #[.slice ga n gc, .slice aa na ac, .slice va nv vc]] w fun e w' => e = .returned (.tuple #[.pointer none, .int .i64 (hcE n na nv G A)]) ∧ Below w.heap.size w w' := by
  have hb0 := below_box0 w (.cells #[.slice ga n gc, .slice aa na ac, .slice va nv vc] 35)
  have HB := Lib.hid hb0
  have HG := Lib.hid (hG.below hb0)
  have HA := Lib.hid (hA.below hb0)
  have hb := bne0_true he
  clear hb0 he hG hA
  go_enter Tryd.func18, Tryd.ntmps18
  go_wp2_with fail
  refine (check_ok _ HG.out HA.out).mono ?_
  rintro e w1 ⟨rfl, b1⟩
  have HB1 := Lib.hid (HB.out.trans (b1.mono (by simp)))
  clear b1
  go_wp2
  go_ret2
  exact ⟨rfl, HB1.out⟩

theorem note_tg {B p q : Nat} {st : List Slt} (i : Nat) (s : Slt) {m : Nat} (w : World) (h : Tb 99 105 w B p q (st.set i s) m (rdyF st)) (hi : i < st.length) (hm : m = (st.set i s).countP alv) (hB : B ≤ w.heap.size) :
    Calls Tryd.prog 54 #[.pointer (some ⟨p, 0, none⟩), .int .i64 i] w fun e w' => e = .returned (.tuple #[]) ∧ TT w' B p q (st.set i s) ∧ Fr p q w w' :=
  (note_ok i w h hB (by simpa using hi)).mono fun _ _ ⟨he, ht, hf⟩ => ⟨he, by
    have e2 : ((st.set i s).getD i (0, false, undef)) = s := by simp [hi]
    rw [e2, rdyF_set s hi] at ht
    exact Tg.of ht hm rfl, hf⟩

set_option maxRecDepth 100000 in
set_option maxHeartbeats 6400000 in
theorem load_ok (w : World) (hG : SlF w ga n (zI G)) (hA : SlF w aa na (zB A)) (hV : SlF w va nv V) (hVf : ∀ j, ∃ (x : Int), V j = (.int .i64 x)) (he : hcE n na nv G A = 0) :
    Calls Tryd.prog 18 #[.agg #[.slice ga n gc, .slice aa na ac, .slice va nv vc]] w fun e w' => ∃ p q, e = .returned (.tuple #[.pointer (some ⟨p, 0, none⟩), .int .i64 0]) ∧ TT w' w.heap.size p q (stP n G A V (.int .i64 0) n) ∧ Below w.heap.size w w' := by
  obtain ⟨h1, h2, rfl, rfl, hbad⟩ := hcE_zero he
  have hb0 := below_box0 w (.cells #[.slice ga nv gc, .slice aa nv ac, .slice va nv vc] 35)
  have HB := Lib.hid hb0
  have HG := Lib.hid (hG.below hb0)
  have HA := Lib.hid (hA.below hb0)
  have HV := Lib.hid (hV.below hb0)
  have HE := Lib.hid he
  have HBad := Lib.hid hbad
  clear hb0 he hG hA hV hbad
  go_enter Tryd.func18, Tryd.ntmps18
  go_wp2_with fail
  refine (check_ok _ HG.out HA.out).mono ?_
  rintro e w1 ⟨rfl, b1⟩
  rw [HE.out]
  have k0 : w1.cell? ⟨w.heap.size, 0, none⟩ = some (.slice ga nv gc) := (b1.cell (p := ⟨w.heap.size, 0, none⟩) (by simp)).trans (by simp [go_sem])
  have k1 : w1.cell? ⟨w.heap.size, 1, none⟩ = some (.slice aa nv ac) := (b1.cell (p := ⟨w.heap.size, 1, none⟩) (by simp)).trans (by simp [go_sem])
  have k2 : w1.cell? ⟨w.heap.size, 2, none⟩ = some (.slice va nv vc) := (b1.cell (p := ⟨w.heap.size, 2, none⟩) (by simp)).trans (by simp [go_sem])
  have hz1 : w.heap.size + 1 ≤ w1.heap.size := by have := b1.size; simpa using this
  have HB1 := Lib.hid (HB.out.trans (b1.mono (by simp)))
  have HG1 := Lib.hid (HG.out.below b1)
  have HA1 := Lib.hid (HA.out.below b1)
  have HV1 := Lib.hid (HV.out.below b1)
  clear b1
  go_wp2_with fail
  refine (new_ok nv _ h1 h2).mono ?_
  rintro e w2 ⟨rfl, t2, b2⟩
  rw [← stP_zero (G := G) (A := A) (V := V), rdyF_zero (G := G) (A := A) (V := V) (Z := .int .i64 0)] at t2
  have T2 := Lib.hid (Tg.of t2 countP_zero rfl)
  have HB2 := Lib.hid b2
  have c0 := (b2.cell (p := ⟨w.heap.size, 0, none⟩) (by dsimp only; omega)).trans k0
  clear t2 b2
  go_wp2
  go_loopw [29] (fun x wr => ∃ i : Nat, i ≤ nv ∧ x = .int .i64 i ∧ Hid (TT wr w1.heap.size (w1.heap.size + 1) w1.heap.size (stP nv G A V (.int .i64 0) i)) ∧ Hid (Below w1.heap.size w1 wr)) (fun x _ => nv - (intOf x).toNat)
  case atStart => exact ⟨0, Nat.zero_le _, rfl, T2, HB2⟩
  case round =>
    obtain ⟨i, hi, rfl, HT, HW⟩ := hrel
    by_cases hlt : i < nv
    · have hlb : decide (i < nv) = true := by simpa using hlt
      have hli : (i : Int) < (nv : Int) := by omega
      have hl0 : (0 : Int) ≤ (i : Int) := by omega
      obtain ⟨gb, go, rfl, cg⟩ := HG1.out.at_ hlt
      obtain ⟨ab, ao, rfl, ca⟩ := HA1.out.at_ hlt
      obtain ⟨vb, vo, rfl, cv⟩ := HV1.out.at_ hlt
      have lg := World.block_lt_of_cell? _ _ cg
      have la := World.block_lt_of_cell? _ _ ca
      have lv := World.block_lt_of_cell? _ _ cv
      dsimp only at lg la lv
      replace cg := (HW.out.cell (p := ⟨gb, go + i, none⟩) lg).trans cg
      replace ca := (HW.out.cell (p := ⟨ab, ao + i, none⟩) la).trans ca
      replace cv := (HW.out.cell (p := ⟨vb, vo + i, none⟩) lv).trans cv
      have d0 := (HW.out.cell (p := ⟨w.heap.size, 0, none⟩) (by dsimp only; omega)).trans k0
      have d1 := (HW.out.cell (p := ⟨w.heap.size, 1, none⟩) (by dsimp only; omega)).trans k1
      have d2 := (HW.out.cell (p := ⟨w.heap.size, 2, none⟩) (by dsimp only; omega)).trans k2
      have n1 : w.heap.size ≠ w1.heap.size := by omega
      have n2 : w.heap.size ≠ w1.heap.size + 1 := by omega
      have n3 : vb ≠ w1.heap.size := by omega
      have n4 : vb ≠ w1.heap.size + 1 := by omega
      have hsz := HT.out.size
      have hcl := HT.out.count_le
      dsimp only [zI, zB] at cg ca
      obtain ⟨b1, b2, b3⟩ := badS_ok (HBad.out i hlt)
      obtain ⟨g, hg⟩ := Int.eq_ofNat_of_zero_le b1
      rw [hg] at cg
      have hltS : i < (stP nv G A V (.int .i64 0) i).length := by rw [stP_length]; exact hlt
      have c9 := Tb.c0 HT.out
      have c3 := Tb.c3 HT.out
      have s0 := Tb.s0 HT.out hltS
      have s1 := Tb.s1 HT.out hltS
      have s2 := Tb.s2 HT.out hltS
      have fp := Tb.fp HT.out
      have fq := Tb.fq HT.out
      rw [stP_length] at c9
      have hget : (stP nv G A V (.int .i64 0) i).getD i (0, false, undef) = (0, false, .int .i64 0) := by rw [stP_get hlt, if_neg (Nat.lt_irrefl i)]
      rw [hget] at s0 s1 s2
      obtain ⟨m, hm⟩ : ∃ m, (stP nv G A V (.int .i64 0) i).countP alv = m := ⟨_, rfl⟩
      rw [hm] at c3 hcl
      have HM := Lib.hid hm
      have hcnt := countP_set' alv (0, false, undef) (stP nv G A V (.int .i64 0) i) i ((G i).toNat, A i, if A i then V i else .int .i64 0) hltS
      have hsucc := stP_succ (G := G) (A := A) (V := V) (Z := .int .i64 0) hlt
      have hgn : (G i).toNat = g := by rw [hg]; rfl
      rw [hget, hm] at hcnt
      rw [hgn] at hcnt hsucc
      cases hA : A i with
      | true =>
        rw [hA] at ca hcnt hsucc
        simp only [↓reduceIte] at hcnt hsucc
        have hX := Tb.stored HT.out u_slot u_tbl hltS (g, true, V i) (m + 1)
        obtain ⟨x, hv⟩ := hVf i
        dsimp only at hX
        rw [hv] at cv hX hcnt hsucc
        rw [show ((m + 1 : Nat) : Int) = (m : Int) + 1 by omega] at hX
        have HX := Lib.hid hX
        have HC := Lib.hid hcnt
        have HS := Lib.hid hsucc
        have HVV := Lib.hid hv
        clear hX hcnt hsucc hv hm hget hgn hg b1 b2 b3 hA
        go_wp2_with fail
        refine (note_tg i (g, true, (.int .i64 x)) _ HX.out hltS (by have h1 := HC.out; rw [show alv (0, false, .int .i64 0) = false from rfl] at h1; simp only [alv, Bool.false_eq_true, ↓reduceIte] at h1 ⊢; omega) (by simp only [World.size_setCell]; exact hsz)).mono ?_
        rintro e w3 ⟨rfl, t3, f3⟩
        have T3 := Lib.hid t3
        have F3 := Lib.hid f3
        clear t3 f3
        go_wp2
        refine ⟨⟨i + 1, by omega, by simp, Lib.hid ?_, Lib.hid ?_⟩, by simp [intOf]; omega⟩
        · have := T3.out
          rw [HS.out] at this
          exact this
        · exact Fr.below HW.out ((((Fr.setQ _ _ _).trans (Fr.setQ _ _ _)).trans (Fr.setQ _ _ _)).trans (Fr.setP _ _ _) |>.trans F3.out) (by omega) (Nat.le_refl _) hsz
      | false =>
        rw [hA] at ca hcnt hsucc
        simp only [Bool.false_eq_true, ↓reduceIte] at hcnt hsucc
        have hX := Tb.stored2 HT.out u_slot hltS (g, false, .int .i64 0) (by rw [hget])
        dsimp only at hX
        have HX := Lib.hid hX
        have HC := Lib.hid hcnt
        have HS := Lib.hid hsucc
        clear hX hcnt hsucc hm hget hgn hg b1 b2 b3 hA
        go_wp2_with fail
        refine (note_tg i (g, false, .int .i64 0) _ HX.out hltS (by have h1 := HC.out; have h2 := HM.out; rw [show alv (0, false, .int .i64 0) = false from rfl] at h1; simp only [alv, Bool.false_eq_true, ↓reduceIte] at h1 ⊢; omega) (by simp only [World.size_setCell]; exact hsz)).mono ?_
        rintro e w3 ⟨rfl, t3, f3⟩
        have T3 := Lib.hid t3
        have F3 := Lib.hid f3
        clear t3 f3
        go_wp2
        refine ⟨⟨i + 1, by omega, by simp, Lib.hid ?_, Lib.hid ?_⟩, by simp [intOf]; omega⟩
        · have := T3.out
          rw [HS.out] at this
          exact this
        · exact Fr.below HW.out (((Fr.setQ _ _ _).trans (Fr.setQ _ _ _)).trans F3.out) (by omega) (Nat.le_refl _) hsz
    · have hlb : decide (i < nv) = false := by simpa using hlt
      obtain rfl : i = nv := by omega
      go_wp2
      go_ret2
      exact ⟨_, _, rfl, Tg.base HT.out (by omega), HB1.out.trans (HW.out.mono (by omega))⟩
end
end Go.Proofs.YtpaecmpiokkdnaaDoor.Int

namespace Go.Proofs.YtpaecmpiokkdnaaDoor.Int
open Go.RowKit Go.Sort Go.Joins
attribute [local go_sem] cell_grow frozen_grow size_grow

set_option maxRecDepth 100000 in
set_option maxHeartbeats 1600000 in
theorem put_ok {B p q : Nat} {st : List Slt} {m : Nat} {r : Nat → Bool} (i g : Nat) (x : Int) (w : World) (h : Tb 99 105 w B p q st m r) (hT : Tab w)
    (hi : nxt r 0 st.length = i) (hlt : i < st.length) (hg : (st.getD i (0, false, undef)).1 = g) (hg2 : g < 65535) (hm : m ≤ 100000) :
    Calls Tryd.prog 14 #[.pointer (some ⟨p, 0, none⟩), (.int .i64 x)] w fun e w' => e = .returned (.tuple #[.int .i64 (((g : Int) + 1) * 65536 + i), .int .i64 0]) ∧
      Tb 99 105 w' B p q (st.set i (g + 1, true, (.int .i64 x))) (m + 1) (filled r i (i + 1) false) ∧ Fr p q w w' := by
  have hN := next_tb h
  rw [hi, if_pos hlt, if_pos hlt] at hN
  obtain ⟨ra, rcap, c2, hsl⟩ := h.c2
  have c1 := h.c1
  have n2 := h.n2
  have hne := h.ne
  have hBw : B ≤ w.heap.size := by have := World.block_lt_of_cell? _ _ c1; have := h.hp; dsimp only at *; omega
  have HM := Lib.hid (made_ok w h)
  have HX := Lib.hid (bNext_ok st.length 0 true ra ((st.length + 63) / 64) rcap _ w hT hsl (pack_lt _ _) (by omega))
  have HN := Lib.hid hN
  have H := Lib.hid h
  have HG := Lib.hid hg
  have i0 : (0 : Int) ≤ (i : Int) := by omega
  have i1 : (i : Int) < (st.length : Int) := by omega
  clear hN h hsl hg hi
  go_enter Tryd.func14, Tryd.ntmps14
  go_wp2_with fail
  refine HM.out.mono ?_
  rintro e w1 ⟨rfl, rfl⟩
  go_wp2_with fail
  refine HX.out.mono ?_
  rintro e W ⟨rfl, hb⟩
  rw [HN.out.1, HN.out.2]
  have hW := H.out.below hb
  have d0 := hW.c0
  have d3 := hW.c3
  have s0 := hW.s0 hlt
  have s1 := hW.s1 hlt
  have s2 := hW.s2 hlt
  have f1 := hW.fp
  have f2 := hW.fq
  rw [HG.out] at s0
  have hS := hW.stored u_slot u_tbl hlt (g + 1, true, (.int .i64 x)) (m + 1)
  dsimp only at hS
  rw [show ((g + 1 : Nat) : Int) = (g : Int) + 1 by omega, show ((m + 1 : Nat) : Int) = (m : Int) + 1 by omega] at hS
  have HS := Lib.hid hS
  have HW := Lib.hid hW
  have HB := Lib.hid hb
  clear hS hW hb c1 c2
  go_wp2_with fail
  refine (note_ok i _ HS.out (by have := HB.out.size; simp only [World.size_setCell]; omega) (by simpa using hlt)).mono ?_
  rintro e w2 ⟨rfl, ht2, hf2⟩
  have e2 : ((st.set i (g + 1, true, (.int .i64 x))).getD i (0, false, undef)) = (g + 1, true, (.int .i64 x)) := by simp [hlt]
  rw [e2, ← rdy_t] at ht2
  have HT2 := Lib.hid ht2
  have HF2 := Lib.hid hf2
  clear ht2 hf2
  go_wp2_with fail
  refine (handle_ok i (g + 1) _ HT2.out (by simpa using hlt) (by rw [e2]) (by omega)).mono ?_
  rintro e w3 ⟨rfl, rfl⟩
  go_wp2
  go_ret2
  exact ⟨rfl, HT2.out, (((((Fr.of_below HB.out).trans (Fr.setQ _ _ _)).trans (Fr.setQ _ _ _)).trans (Fr.setQ _ _ _)).trans (Fr.setP _ _ _)).trans HF2.out⟩

set_option maxRecDepth 100000 in
set_option maxHeartbeats 1600000 in
theorem put_full {B p q : Nat} {st : List Slt} {m : Nat} {r : Nat → Bool} (x : Int) (w : World) (h : Tb 99 105 w B p q st m r) (hT : Tab w) (hlt : ¬ nxt r 0 st.length < st.length) :
    Calls Tryd.prog 14 #[.pointer (some ⟨p, 0, none⟩), (.int .i64 x)] w fun e w' => e = .returned (.tuple #[.int .i64 0, .int .i64 5]) ∧ Below w.heap.size w w' := by
  have hN := next_tb h
  rw [if_neg hlt, if_neg hlt] at hN
  obtain ⟨ra, rcap, c2, hsl⟩ := h.c2
  have c1 := h.c1
  have n2 := h.n2
  have HM := Lib.hid (made_ok w h)
  have HX := Lib.hid (bNext_ok st.length 0 true ra ((st.length + 63) / 64) rcap _ w hT hsl (pack_lt _ _) (by omega))
  have HN := Lib.hid hN
  clear hN h hsl hlt
  go_enter Tryd.func14, Tryd.ntmps14
  go_wp2_with fail
  refine HM.out.mono ?_
  rintro e w1 ⟨rfl, rfl⟩
  go_wp2_with fail
  refine HX.out.mono ?_
  rintro e W ⟨rfl, hb⟩
  rw [HN.out.1, HN.out.2]
  have HB := Lib.hid hb
  clear hb
  go_wp2_with fail
  go_ret2
  exact ⟨rfl, HB.out⟩
end Go.Proofs.YtpaecmpiokkdnaaDoor.Int

namespace Go.Proofs.YtpaecmpiokkdnaaDoor.Int
open Go.RowKit Go.Sort Go.Joins
attribute [local go_sem] cell_grow frozen_grow size_grow

set_option maxRecDepth 100000 in
set_option maxHeartbeats 3200000 in
theorem find_ok {B p q : Nat} {st : List Slt} {m : Nat} {r : Nat → Bool} (h : Int) (w : World) (H : Tb 99 105 w B p q st m r) :
    Calls Tryd.prog 58 #[.pointer (some ⟨p, 0, none⟩), .int .i64 h] w fun e w' => e = .returned (.tuple #[.pointer (findP q st h), .int .i64 (findE st h)]) ∧ w = w' := by
  have c0 := H.c0
  have n2 := H.n2
  have HM := Lib.hid (made_ok w H)
  have HX := Lib.hid (slot_ok h w)
  by_cases h1 : slotI h < 0
  · have R := Lib.hid (find_none (q := q) (st := st) (.inl h1))
    have d1 : decide (slotI h < 0) = true := by simpa using h1
    clear H h1
    go_enter Tryd.func58, Tryd.ntmps58
    go_wp2_with fail
    refine HM.out.mono ?_
    rintro e w1 ⟨rfl, rfl⟩
    go_wp2_with fail
    refine HX.out.mono ?_
    rintro e w1 ⟨rfl, rfl⟩
    go_wp2
    go_ret2
    exact ⟨ret_ptr R.out, rfl⟩
  obtain ⟨i, hi⟩ := Int.eq_ofNat_of_zero_le (by omega : 0 ≤ slotI h)
  have d1 : decide ((i : Int) < 0) = false := by simp
  by_cases h2 : st.length ≤ i
  · have R := Lib.hid (find_none (q := q) (st := st) (h := h) (.inr (.inl (by omega))))
    have d2 : decide ((st.length : Int) ≤ (i : Int)) = true := by simpa using h2
    have d2' : decide (st.length ≤ i) = true := by simpa using h2
    rw [hi] at HX
    clear H h1 h2 hi
    go_enter Tryd.func58, Tryd.ntmps58
    go_wp2_with fail
    refine HM.out.mono ?_
    rintro e w1 ⟨rfl, rfl⟩
    go_wp2_with fail
    refine HX.out.mono ?_
    rintro e w1 ⟨rfl, rfl⟩
    go_wp2
    go_ret2
    exact ⟨ret_ptr R.out, rfl⟩
  have hlt : i < st.length := by omega
  have d2 : decide ((st.length : Int) ≤ (i : Int)) = false := by simp; omega
  have d2' : decide (st.length ≤ i) = false := by simp; omega
  have s0 := H.s0 hlt
  have s1 := H.s1 hlt
  obtain ⟨⟨g, al, v⟩, hS⟩ : ∃ S, S = st.getD i (0, false, undef) := ⟨_, rfl⟩
  rw [← hS] at s0 s1
  dsimp only at s0 s1
  have i0 : (0 : Int) ≤ (i : Int) := by omega
  have i1 : (i : Int) < (st.length : Int) := by omega
  by_cases h3 : (g : Int) < numI h
  · have R := Lib.hid (find_far (q := q) hi hlt (by rw [← hS]; exact h3))
    have d3 : decide ((g : Int) < numI h) = true := by simpa using h3
    rw [hi] at HX
    clear H h1 h2 h3 hi hS
    go_enter Tryd.func58, Tryd.ntmps58
    go_wp2_with fail
    refine HM.out.mono ?_
    rintro e w1 ⟨rfl, rfl⟩
    go_wp2_with fail
    refine HX.out.mono ?_
    rintro e w1 ⟨rfl, rfl⟩
    go_wp2
    go_ret2
    exact ⟨ret_ptr R.out, rfl⟩
  have d3 : decide ((g : Int) < numI h) = false := by simpa using h3
  by_cases h4 : numI h < (g : Int)
  · have R := Lib.hid (find_old (q := q) hi hlt (by rw [← hS]; exact h3) (.inl (by rw [← hS]; exact h4)))
    have d4 : decide (numI h < (g : Int)) = true := by simpa using h4
    rw [hi] at HX
    clear H h1 h2 h3 h4 hi hS
    go_enter Tryd.func58, Tryd.ntmps58
    go_wp2_with fail
    refine HM.out.mono ?_
    rintro e w1 ⟨rfl, rfl⟩
    go_wp2_with fail
    refine HX.out.mono ?_
    rintro e w1 ⟨rfl, rfl⟩
    go_wp2
    go_ret2
    exact ⟨ret_ptr R.out, rfl⟩
  have d4 : decide (numI h < (g : Int)) = false := by simpa using h4
  cases al
  · have R := Lib.hid (find_old (q := q) hi hlt (by rw [← hS]; exact h3) (.inr (by rw [← hS])))
    rw [hi] at HX
    clear H h1 h2 h3 h4 hi hS
    go_enter Tryd.func58, Tryd.ntmps58
    go_wp2_with fail
    refine HM.out.mono ?_
    rintro e w1 ⟨rfl, rfl⟩
    go_wp2_with fail
    refine HX.out.mono ?_
    rintro e w1 ⟨rfl, rfl⟩
    go_wp2
    go_ret2
    exact ⟨ret_ptr R.out, rfl⟩
  · have R := Lib.hid (find_yes (q := q) hi hlt (by rw [← hS]; exact h3) (by rw [← hS]; exact h4) (by rw [← hS]))
    rw [hi] at HX
    clear H h1 h2 h3 h4 hi hS
    go_enter Tryd.func58, Tryd.ntmps58
    go_wp2_with fail
    refine HM.out.mono ?_
    rintro e w1 ⟨rfl, rfl⟩
    go_wp2_with fail
    refine HX.out.mono ?_
    rintro e w1 ⟨rfl, rfl⟩
    go_wp2
    go_ret2
    exact ⟨ret_ptr R.out, rfl⟩
end Go.Proofs.YtpaecmpiokkdnaaDoor.Int

namespace Go.Proofs.YtpaecmpiokkdnaaDoor.Int
open Go.RowKit Go.Sort Go.Joins
attribute [local go_sem] cell_grow frozen_grow size_grow

theorem findE_zero {st : List Slt} {h : Int} (he : findE st h = 0) : ∃ i : Nat, slotI h = i ∧ i < st.length ∧ (st.getD i (0, false, undef)).2.1 = true ∧ numI h = ((st.getD i (0, false, undef)).1 : Int) := by
  unfold findE at he
  by_cases h1 : slotI h < 0 ∨ (st.length : Int) ≤ slotI h ∨ ((atH st h).1 : Int) < numI h
  · rw [if_pos h1] at he; cases he
  · rw [if_neg h1] at he
    by_cases h2 : numI h < ((atH st h).1 : Int) ∨ (atH st h).2.1 = false
    · rw [if_pos h2] at he; cases he
    · obtain ⟨i, hi⟩ := Int.eq_ofNat_of_zero_le (by omega : 0 ≤ slotI h)
      rw [atH_eq hi] at h1 h2
      refine ⟨i, hi, by omega, ?_, by omega⟩
      cases hb : (st.getD i (0, false, undef)).2.1 with
      | true => rfl
      | false => exact absurd (.inr hb) h2

set_option maxRecDepth 100000 in
set_option maxHeartbeats 1600000 in
theorem get_err {B p q : Nat} {st : List Slt} {m : Nat} {r : Nat → Bool} (h : Int) (w : World) (H : Tb 99 105 w B p q st m r) (he : findE st h ≠ 0) :
    Calls Tryd.prog 28 #[.pointer (some ⟨p, 0, none⟩), .int .i64 h] w fun e w' => e = .returned (.tuple #[.int .i64 0, .int .i64 (findE st h)]) ∧ w = w' := by
  have HF := Lib.hid (find_ok h w H)
  have hb := bne0_true he
  clear he H
  go_enter Tryd.func28, Tryd.ntmps28
  go_wp2_with fail
  refine HF.out.mono ?_
  rintro e w1 ⟨rfl, rfl⟩
  go_wp2
  go_ret2
  exact ⟨rfl, rfl⟩
set_option maxRecDepth 100000 in
set_option maxHeartbeats 1600000 in
theorem get_ok {B p q : Nat} {st : List Slt} {m : Nat} {r : Nat → Bool} (h : Int) (w : World) (H : Tb 99 105 w B p q st m r) (he : findE st h = 0) :
    Calls Tryd.prog 28 #[.pointer (some ⟨p, 0, none⟩), .int .i64 h] w fun e w' => e = .returned (.tuple #[(st.getD (slotI h).toNat (0, false, undef)).2.2, .int .i64 0]) ∧ w = w' := by
  obtain ⟨i, hi, hlt, _, _⟩ := findE_zero he
  have s2 := H.s2 hlt
  have hF := find_ok h w H
  have hP : findP q st h = some ⟨q, i * 3, none⟩ := by unfold findP; rw [if_pos he, hi]; rfl
  rw [hP, he] at hF
  have HF := Lib.hid hF
  obtain ⟨v, hv⟩ : ∃ v, v = (st.getD i (0, false, undef)).2.2 := ⟨_, rfl⟩
  rw [← hv] at s2
  have e : (st.getD (slotI h).toNat (0, false, undef)).2.2 = v := by rw [hi, hv]; rfl
  rw [e]
  clear hF hP he H hv e hi
  go_enter Tryd.func28, Tryd.ntmps28
  go_wp2_with fail
  refine HF.out.mono ?_
  rintro e w1 ⟨rfl, rfl⟩
  go_wp2
  go_ret2
  exact ⟨rfl, rfl⟩

set_option maxRecDepth 100000 in
set_option maxHeartbeats 1600000 in
theorem drop_err {B p q : Nat} {st : List Slt} {m : Nat} {r : Nat → Bool} (h : Int) (w : World) (H : Tb 99 105 w B p q st m r) (he : findE st h ≠ 0) :
    Calls Tryd.prog 23 #[.pointer (some ⟨p, 0, none⟩), .int .i64 h] w fun e w' => e = .returned (.tuple #[.int .i64 0, .int .i64 (findE st h)]) ∧ w = w' := by
  have HF := Lib.hid (find_ok h w H)
  have hb := bne0_true he
  have hmf : ∀ (fn : Fn) (first cap : Array Value) (w : World), (Instr.makeFunc fn first cap).run Tryd.prog w = .ok (.func fn first cap) w := fun _ _ _ _ => rfl
  clear he H
  go_enter Tryd.func23, Tryd.ntmps23
  go_wp2_with fail
  refine HF.out.mono ?_
  rintro e w1 ⟨rfl, rfl⟩
  go_wp2
  go_ret2
  exact ⟨rfl, rfl⟩

set_option maxRecDepth 100000 in
set_option maxHeartbeats 1600000 in
theorem drop_ok {B p q : Nat} {st : List Slt} {m : Nat} {r : Nat → Bool} (h : Int) (i g : Nat) (w : World) (H : Tb 99 105 w B p q st (m + 1) r) (he : findE st h = 0) (hi : slotI h = i) (hg : (st.getD i (0, false, undef)).1 = g) (hm : m ≤ 100000) :
    Calls Tryd.prog 23 #[.pointer (some ⟨p, 0, none⟩), .int .i64 h] w fun e w' => e = .returned (.tuple #[(st.getD i (0, false, undef)).2.2, .int .i64 0]) ∧
      Tb 99 105 w' B p q (st.set i (g, false, .int .i64 0)) m (filled r i (i + 1) (rdy (g, false, .int .i64 0))) ∧ Fr p q w w' := by
  obtain ⟨i', hi', hlt, _, _⟩ := findE_zero he
  obtain rfl : i' = i := by omega
  have s1 := H.s1 hlt
  have s2 := H.s2 hlt
  have d3 := H.c3
  have f1 := H.fp
  have f2 := H.fq
  have hne := H.ne
  have hBw : B ≤ w.heap.size := by have := World.block_lt_of_cell? _ _ d3; have := H.hp; dsimp only at *; omega
  rw [show ((m + 1 : Nat) : Int) = (m : Int) + 1 by omega] at d3
  have hF := find_ok h w H
  have hP : findP q st h = some ⟨q, i' * 3, none⟩ := by unfold findP; rw [if_pos he, hi]; rfl
  rw [hP, he] at hF
  have HF := Lib.hid hF
  have hX := slot_ok h w
  have HH := Lib.hid H
  have HG := Lib.hid hg
  have HI := Lib.hid hi
  obtain ⟨v, hv⟩ : ∃ v, v = (st.getD i' (0, false, undef)).2.2 := ⟨_, rfl⟩
  rw [← hv] at s2 ⊢
  have hmf : ∀ (fn : Fn) (first cap : Array Value) (w : World), (Instr.makeFunc fn first cap).run Tryd.prog w = .ok (.func fn first cap) w := fun _ _ _ _ => rfl
  clear hF hP he H hv hi hi' hg hX
  go_enter Tryd.func23, Tryd.ntmps23
  go_wp2_with fail
  refine HF.out.mono ?_
  rintro e w1 ⟨rfl, rfl⟩
  go_wp2_with fail
  refine (slot_ok h _).mono ?_
  rintro e w1 ⟨rfl, rfl⟩
  rw [HI.out]
  go_wp2_with fail
  refine (note_ok i' _ (HH.out.dropped u_slot u_tbl hlt HG.out (.int .i64 0) (m : Int) m rfl) (by simp only [World.size_setCell]; omega) (by simpa using hlt)).mono ?_
  rintro e w2 ⟨rfl, ht2, hf2⟩
  have e2 : ((st.set i' (g, false, .int .i64 0)).getD i' (0, false, undef)) = (g, false, .int .i64 0) := by simp [hlt]
  rw [e2] at ht2
  have HT2 := Lib.hid ht2
  have HF2 := Lib.hid hf2
  clear ht2 hf2
  go_wp2
  go_ret2
  exact ⟨rfl, HT2.out, (((Fr.setQ _ _ _).trans (Fr.setQ _ _ _)).trans (Fr.setP _ _ _)).trans HF2.out⟩
end Go.Proofs.YtpaecmpiokkdnaaDoor.Int

namespace Go.Proofs.YtpaecmpiokkdnaaDoor.Int
open Go.RowKit Go.Sort Go.Joins
attribute [local go_sem] cell_grow frozen_grow size_grow

section
variable {B p q : Nat} {st : List Slt}
theorem tnew_ok (n : Nat) (w : World) (h1 : 1 ≤ n) (h2 : n ≤ 1024) : Calls Tryd.prog 13 #[.int .i64 n] w fun e w' => e = .returned (.tuple #[.pointer (some ⟨w.heap.size + 1, 0, none⟩), .int .i64 0]) ∧
    TT w' w.heap.size (w.heap.size + 1) w.heap.size (List.replicate n (0, false, .int .i64 0)) ∧ Below w.heap.size w w' :=
  (new_ok n w h1 h2).mono fun _ _ ⟨he, ht, hb⟩ => ⟨he, by
    rw [← stP_zero (G := fun _ => 0) (A := fun _ => false) (V := fun _ => .int .i64 0), rdyF_zero (G := fun _ => 0) (A := fun _ => false) (V := fun _ => .int .i64 0) (Z := .int .i64 0)] at ht
    rw [← stP_zero (G := fun _ => 0) (A := fun _ => false) (V := fun _ => .int .i64 0)]
    exact Tg.of ht countP_zero rfl, hb⟩
theorem cntV_rdy (h : chk st.length (pack (rdyF st) ((st.length + 63) / 64)) = 0) : cntV st.length (pack (rdyF st) ((st.length + 63) / 64)) 0 st.length = ((cnt (rdyF st) 0 st.length : Nat) : Int) := by
  unfold cntV
  rw [if_pos (prt_ok h (by omega))]
  congr 1
  simp only [Int.toNat_zero, Int.toNat_natCast]
  exact cnt_congr _ fun i hi => by rw [pack_bat _ _ _ (by omega)]
set_option maxRecDepth 100000 in
set_option maxHeartbeats 1600000 in
theorem room_ok (w : World) (h : TT w B p q st) : Calls Tryd.prog 36 #[.pointer (some ⟨p, 0, none⟩)] w fun e w' => e = .returned (.int .i64 ((cnt (rdyF st) 0 st.length : Nat) : Int)) ∧ Below w.heap.size w w' := by
  have c0 := Tb.c0 h
  have c1 := Tb.c1 h
  obtain ⟨ra, rcap, c2, hsl⟩ := Tb.c2 h
  have hcv := cntV_rdy (Tb.chk0 h)
  have n2 := h.n2
  have HM := Lib.hid (made_ok w h)
  obtain ⟨ws, hws⟩ : ∃ ws, pack (rdyF st) ((st.length + 63) / 64) = ws := ⟨_, rfl⟩
  have hlt : ∀ x ∈ ws, x < 18446744073709551616 := by rw [← hws]; exact pack_lt _ _
  rw [hws] at hsl hcv
  rw [← hcv]
  have HS := Lib.hid hsl
  have HL := Lib.hid hlt
  have HC : Hid (∀ w', Below w.heap.size w w' → w'.cell? ⟨p, 0, none⟩ = some (.slice (some ⟨q, 0, none⟩) st.length st.length) ∧ w'.cell? ⟨p, 1, none⟩ = some (.int .i64 (st.length : Int)) ∧ w'.cell? ⟨p, 2, none⟩ = some (.slice ra ((st.length + 63) / 64) rcap)) :=
    Lib.hid (fun w' hb => ⟨cell_later hb c0, cell_later hb c1, cell_later hb c2⟩)
  clear h hcv hws hlt hsl
  go_enter Tryd.func36, Tryd.ntmps36
  go_wp2_with fail
  refine HM.out.mono ?_
  rintro e w1 ⟨rfl, rfl⟩
  go_wp2_with fail
  go_region_held3 (fun w' => Below w.heap.size w w' ∧ w'.cell? ⟨p, 0, none⟩ = some (.slice (some ⟨q, 0, none⟩) st.length st.length) ∧ w'.cell? ⟨p, 1, none⟩ = some (.int .i64 (st.length : Int)) ∧ w'.cell? ⟨p, 2, none⟩ = some (.slice ra ((st.length + 63) / 64) rcap))
    ((refine keepN HC ?_; first | exact (Below.refl _ _).drew | exact And.left (by assumption) | exact bel_call (by assumption) (by assumption)))
    ((go_at_call 64; (refine (bCount_ok st.length 0 st.length ra ((st.length + 63) / 64) rcap ws _ (HS.out.below (And.left (by assumption))) HL.out (by omega)).mono ?_); rintro e w2 ⟨rfl, b2⟩; have g2 : Below w.heap.size w w2 := bel_call (by assumption) b2))
  all_goals
    go_wp2
    go_ret
    exact ⟨rfl, g2⟩

theorem countP_at {i : Nat} (hi : i < st.length) (s : Slt) : (st.set i s).countP alv + (if (st.getD i (0, false, undef)).2.1 then 1 else 0) = st.countP alv + (if s.2.1 then 1 else 0) := countP_set' alv (0, false, undef) st i s hi
theorem rdyF_at {i : Nat} (h : rdyF st i = true) : i < st.length ∧ (st.getD i (0, false, undef)).2.1 = false ∧ (st.getD i (0, false, undef)).1 < 65535 := by
  unfold rdyF rdy at h
  simp only [Bool.and_eq_true, decide_eq_true_eq, Bool.not_eq_true'] at h
  exact ⟨h.1, h.2.1, h.2.2⟩
theorem next_at {i : Nat} (hi : nxt (rdyF st) 0 st.length = i) (hlt : i < st.length) : rdyF st i = true := by
  have := (nxt_spec (p := rdyF st) (a := 0) (n := st.length) (Nat.zero_le _)).2.2.2
  rw [hi] at this
  exact this hlt
theorem tput_ok (i : Nat) (x : Int) (w : World) (h : TT w B p q st) (hT : Tab w) (hi : nxt (rdyF st) 0 st.length = i) (hlt : i < st.length) :
    Calls Tryd.prog 14 #[.pointer (some ⟨p, 0, none⟩), (.int .i64 x)] w fun e w' => e = .returned (.tuple #[.int .i64 ((((st.getD i (0, false, undef)).1 : Int) + 1) * 65536 + i), .int .i64 0]) ∧
      TT w' B p q (st.set i ((st.getD i (0, false, undef)).1 + 1, true, (.int .i64 x))) ∧ Fr p q w w' := by
  obtain ⟨_, hal, hg⟩ := rdyF_at (next_at hi hlt)
  have hc := h.count_le
  refine (put_ok i _ x w h hT hi hlt rfl hg (by omega)).mono ?_
  rintro e w' ⟨he, ht, hf⟩
  refine ⟨he, ?_, hf⟩
  rw [rdy_t ((st.getD i (0, false, undef)).1 + 1) ((.int .i64 x)), rdyF_set _ hlt] at ht
  refine Tg.of ht ?_ rfl
  have := countP_at hlt ((st.getD i (0, false, undef)).1 + 1, true, (.int .i64 x))
  rw [hal] at this
  simp only [Bool.false_eq_true, ↓reduceIte] at this
  omega
theorem tdrop_ok (h : Int) (i : Nat) (w : World) (H : TT w B p q st) (he : findE st h = 0) (hi : slotI h = i) :
    Calls Tryd.prog 23 #[.pointer (some ⟨p, 0, none⟩), .int .i64 h] w fun e w' => e = .returned (.tuple #[(st.getD i (0, false, undef)).2.2, .int .i64 0]) ∧
      TT w' B p q (st.set i ((st.getD i (0, false, undef)).1, false, .int .i64 0)) ∧ Fr p q w w' := by
  obtain ⟨i', hi', hlt, hal, _⟩ := findE_zero he
  obtain rfl : i' = i := by omega
  have hc := H.count_le
  have e0 := countP_at hlt ((st.getD i' (0, false, undef)).1, false, .int .i64 0)
  rw [hal] at e0
  simp only [Bool.false_eq_true, ↓reduceIte] at e0
  obtain ⟨m, hm⟩ : ∃ m, st.countP alv = m + 1 := ⟨st.countP alv - 1, by omega⟩
  have H' : Tb 99 105 w B p q st (m + 1) (rdyF st) := by rw [← hm]; exact H
  refine (drop_ok h i' _ w H' he hi rfl (by omega)).mono ?_
  rintro e w' ⟨he, ht, hf⟩
  refine ⟨he, ?_, hf⟩
  rw [rdyF_set _ hlt] at ht
  exact Tg.of ht (by omega) rfl
theorem tput_full (x : Int) (w : World) (h : TT w B p q st) (hT : Tab w) (hlt : ¬ nxt (rdyF st) 0 st.length < st.length) :
    Calls Tryd.prog 14 #[.pointer (some ⟨p, 0, none⟩), (.int .i64 x)] w fun e w' => e = .returned (.tuple #[.int .i64 0, .int .i64 5]) ∧ Below w.heap.size w w' := put_full x w h hT hlt
end
end Go.Proofs.YtpaecmpiokkdnaaDoor.Int
