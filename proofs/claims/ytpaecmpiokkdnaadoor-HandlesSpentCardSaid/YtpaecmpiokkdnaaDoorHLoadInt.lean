/- Handles of type int: Load. -/
import Derived.Test.YtpaecmpiokkdnaaDoorHTg
import Derived.Test.YtpaecmpiokkdnaaDoorHCkInt
import Derived.Test.YtpaecmpiokkdnaaDoorHNewInt
import Derived.Test.YtpaecmpiokkdnaaDoorHNInt
namespace Go.Proofs.YtpaecmpiokkdnaaDoor.Int
open Go.RowKit Go.Sort Go.Joins
attribute [local go_sem] cell_grow frozen_grow size_grow

abbrev TT (w : World) (B p q : Nat) (st : List Slt) : Prop := Tg 99 105 w B p q st
section
variable {n na nv : Nat} {ga aa va : Option Addr} {gc ac vc : Nat} {G : Nat → Int} {A : Nat → Bool} {V : Nat → Value}
set_option maxRecDepth 100000 in
set_option maxHeartbeats 1600000 in
theorem load_err (w : World) (hG : SlF w ga n (zI G)) (hA : SlF w aa na (zB A)) (he : hcE n na nv G A ≠ 0) :
    Calls Tryd.prog 18 #[.agg #[.slice ga n gc, .slice aa na ac, .slice va nv vc]] w fun e w' => e = .returned (.tuple #[.pointer none, .int .i64 (hcE n na nv G A)]) ∧ Below w.heap.size w w' := by
  have hb0 := below_box0 w (.cells #[.slice ga n gc, .slice aa na ac, .slice va nv vc] 35)
  have HB := Lib.hid hb0
  have HG := Lib.hid (hG.below hb0)
  have HA := Lib.hid (hA.below hb0)
  have hb := bne0_true he
  clear hb0 he hG hA
  go_enter Tryd.func18, Tryd.ntmps18
  go_wp2_with fail
  refine (check_ok _ HG.out HA.out).mono ?_
  rintro e w1 ⟨rfl, b1⟩
  have HB1 := Lib.hid (HB.out.trans (b1.mono (by simp)))
  clear b1
  go_wp2
  go_ret2
  exact ⟨rfl, HB1.out⟩

theorem note_tg {B p q : Nat} {st : List Slt} (i : Nat) (s : Slt) {m : Nat} (w : World) (h : Tb 99 105 w B p q (st.set i s) m (rdyF st)) (hi : i < st.length) (hm : m = (st.set i s).countP alv) (hB : B ≤ w.heap.size) :
    Calls Tryd.prog 54 #[.pointer (some ⟨p, 0, none⟩), .int .i64 i] w fun e w' => e = .returned (.tuple #[]) ∧ TT w' B p q (st.set i s) ∧ Fr p q w w' :=
  (note_ok i w h hB (by simpa using hi)).mono fun _ _ ⟨he, ht, hf⟩ => ⟨he, by
    have e2 : ((st.set i s).getD i (0, false, undef)) = s := by simp [hi]
    rw [e2, rdyF_set s hi] at ht
    exact Tg.of ht hm rfl, hf⟩

set_option maxRecDepth 100000 in
set_option maxHeartbeats 6400000 in
theorem load_ok (w : World) (hG : SlF w ga n (zI G)) (hA : SlF w aa na (zB A)) (hV : SlF w va nv V) (hVf : ∀ j, ∃ (x : Int), V j = (.int .i64 x)) (he : hcE n na nv G A = 0) :
    Calls Tryd.prog 18 #[.agg #[.slice ga n gc, .slice aa na ac, .slice va nv vc]] w fun e w' => ∃ p q, e = .returned (.tuple #[.pointer (some ⟨p, 0, none⟩), .int .i64 0]) ∧ TT w' w.heap.size p q (stP n G A V (.int .i64 0) n) ∧ Below w.heap.size w w' := by
  obtain ⟨h1, h2, rfl, rfl, hbad⟩ := hcE_zero he
  have hb0 := below_box0 w (.cells #[.slice ga nv gc, .slice aa nv ac, .slice va nv vc] 35)
  have HB := Lib.hid hb0
  have HG := Lib.hid (hG.below hb0)
  have HA := Lib.hid (hA.below hb0)
  have HV := Lib.hid (hV.below hb0)
  have HE := Lib.hid he
  have HBad := Lib.hid hbad
  clear hb0 he hG hA hV hbad
  go_enter Tryd.func18, Tryd.ntmps18
  go_wp2_with fail
  refine (check_ok _ HG.out HA.out).mono ?_
  rintro e w1 ⟨rfl, b1⟩
  rw [HE.out]
  have k0 : w1.cell? ⟨w.heap.size, 0, none⟩ = some (.slice ga nv gc) := (b1.cell (p := ⟨w.heap.size, 0, none⟩) (by simp)).trans (by simp [go_sem])
  have k1 : w1.cell? ⟨w.heap.size, 1, none⟩ = some (.slice aa nv ac) := (b1.cell (p := ⟨w.heap.size, 1, none⟩) (by simp)).trans (by simp [go_sem])
  have k2 : w1.cell? ⟨w.heap.size, 2, none⟩ = some (.slice va nv vc) := (b1.cell (p := ⟨w.heap.size, 2, none⟩) (by simp)).trans (by simp [go_sem])
  have hz1 : w.heap.size + 1 ≤ w1.heap.size := by have := b1.size; simpa using this
  have HB1 := Lib.hid (HB.out.trans (b1.mono (by simp)))
  have HG1 := Lib.hid (HG.out.below b1)
  have HA1 := Lib.hid (HA.out.below b1)
  have HV1 := Lib.hid (HV.out.below b1)
  clear b1
  go_wp2_with fail
  refine (new_ok nv _ h1 h2).mono ?_
  rintro e w2 ⟨rfl, t2, b2⟩
  rw [← stP_zero (G := G) (A := A) (V := V), rdyF_zero (G := G) (A := A) (V := V) (Z := .int .i64 0)] at t2
  have T2 := Lib.hid (Tg.of t2 countP_zero rfl)
  have HB2 := Lib.hid b2
  have c0 := (b2.cell (p := ⟨w.heap.size, 0, none⟩) (by dsimp only; omega)).trans k0
  clear t2 b2
  go_wp2
  go_loopw [29] (fun x wr => ∃ i : Nat, i ≤ nv ∧ x = .int .i64 i ∧ Hid (TT wr w1.heap.size (w1.heap.size + 1) w1.heap.size (stP nv G A V (.int .i64 0) i)) ∧ Hid (Below w1.heap.size w1 wr)) (fun x _ => nv - (intOf x).toNat)
  case atStart => exact ⟨0, Nat.zero_le _, rfl, T2, HB2⟩
  case round =>
    obtain ⟨i, hi, rfl, HT, HW⟩ := hrel
    by_cases hlt : i < nv
    · have hlb : decide (i < nv) = true := by simpa using hlt
      have hli : (i : Int) < (nv : Int) := by omega
      have hl0 : (0 : Int) ≤ (i : Int) := by omega
      obtain ⟨gb, go, rfl, cg⟩ := HG1.out.at_ hlt
      obtain ⟨ab, ao, rfl, ca⟩ := HA1.out.at_ hlt
      obtain ⟨vb, vo, rfl, cv⟩ := HV1.out.at_ hlt
      have lg := World.block_lt_of_cell? _ _ cg
      have la := World.block_lt_of_cell? _ _ ca
      have lv := World.block_lt_of_cell? _ _ cv
      dsimp only at lg la lv
      replace cg := (HW.out.cell (p := ⟨gb, go + i, none⟩) lg).trans cg
      replace ca := (HW.out.cell (p := ⟨ab, ao + i, none⟩) la).trans ca
      replace cv := (HW.out.cell (p := ⟨vb, vo + i, none⟩) lv).trans cv
      have d0 := (HW.out.cell (p := ⟨w.heap.size, 0, none⟩) (by dsimp only; omega)).trans k0
      have d1 := (HW.out.cell (p := ⟨w.heap.size, 1, none⟩) (by dsimp only; omega)).trans k1
      have d2 := (HW.out.cell (p := ⟨w.heap.size, 2, none⟩) (by dsimp only; omega)).trans k2
      have n1 : w.heap.size ≠ w1.heap.size := by omega
      have n2 : w.heap.size ≠ w1.heap.size + 1 := by omega
      have n3 : vb ≠ w1.heap.size := by omega
      have n4 : vb ≠ w1.heap.size + 1 := by omega
      have hsz := HT.out.size
      have hcl := HT.out.count_le
      dsimp only [zI, zB] at cg ca
      obtain ⟨b1, b2, b3⟩ := badS_ok (HBad.out i hlt)
      obtain ⟨g, hg⟩ := Int.eq_ofNat_of_zero_le b1
      rw [hg] at cg
      have hltS : i < (stP nv G A V (.int .i64 0) i).length := by rw [stP_length]; exact hlt
      have c9 := Tb.c0 HT.out
      have c3 := Tb.c3 HT.out
      have s0 := Tb.s0 HT.out hltS
      have s1 := Tb.s1 HT.out hltS
      have s2 := Tb.s2 HT.out hltS
      have fp := Tb.fp HT.out
      have fq := Tb.fq HT.out
      rw [stP_length] at c9
      have hget : (stP nv G A V (.int .i64 0) i).getD i (0, false, undef) = (0, false, .int .i64 0) := by rw [stP_get hlt, if_neg (Nat.lt_irrefl i)]
      rw [hget] at s0 s1 s2
      obtain ⟨m, hm⟩ : ∃ m, (stP nv G A V (.int .i64 0) i).countP alv = m := ⟨_, rfl⟩
      rw [hm] at c3 hcl
      have HM := Lib.hid hm
      have hcnt := countP_set' alv (0, false, undef) (stP nv G A V (.int .i64 0) i) i ((G i).toNat, A i, if A i then V i else .int .i64 0) hltS
      have hsucc := stP_succ (G := G) (A := A) (V := V) (Z := .int .i64 0) hlt
      have hgn : (G i).toNat = g := by rw [hg]; rfl
      rw [hget, hm] at hcnt
      rw [hgn] at hcnt hsucc
      cases hA : A i with
      | true =>
        rw [hA] at ca hcnt hsucc
        simp only [Bool.false_eq_true, ↓reduceIte] at hcnt hsucc
        have hX := Tb.stored HT.out u_slot u_tbl hltS (g, true, V i) (m + 1)
        obtain ⟨x, hv⟩ := hVf i
        dsimp only at hX
        rw [hv] at cv hX hcnt hsucc
        rw [show ((m + 1 : Nat) : Int) = (m : Int) + 1 by omega] at hX
        have HX := Lib.hid hX
        have HC := Lib.hid hcnt
        have HS := Lib.hid hsucc
        have HVV := Lib.hid hv
        clear hX hcnt hsucc hv hm hget hgn hg b1 b2 b3 hA
        go_wp2_with fail
        refine (note_tg i (g, true, (.int .i64 x)) _ HX.out hltS (by have h1 := HC.out; rw [show alv (0, false, .int .i64 0) = false from rfl] at h1; simp only [alv, Bool.false_eq_true, ↓reduceIte] at h1 ⊢; omega) (by simp only [World.size_setCell]; exact hsz)).mono ?_
        rintro e w3 ⟨rfl, t3, f3⟩
        have T3 := Lib.hid t3
        have F3 := Lib.hid f3
        clear t3 f3
        go_wp2
        refine ⟨⟨i + 1, by omega, by simp, Lib.hid ?_, Lib.hid ?_⟩, by simp [intOf]; omega⟩
        · have := T3.out
          rw [HS.out] at this
          exact this
        · exact Fr.below HW.out ((((Fr.setQ _ _ _).trans (Fr.setQ _ _ _)).trans (Fr.setQ _ _ _)).trans (Fr.setP _ _ _) |>.trans F3.out) (by omega) (Nat.le_refl _) hsz
      | false =>
        rw [hA] at ca hcnt hsucc
        simp only [Bool.false_eq_true, ↓reduceIte] at hcnt hsucc
        have hX := Tb.stored2 HT.out u_slot hltS (g, false, .int .i64 0) (by rw [hget])
        dsimp only at hX
        have HX := Lib.hid hX
        have HC := Lib.hid hcnt
        have HS := Lib.hid hsucc
        clear hX hcnt hsucc hm hget hgn hg b1 b2 b3 hA
        go_wp2_with fail
        refine (note_tg i (g, false, .int .i64 0) _ HX.out hltS (by have h1 := HC.out; have h2 := HM.out; rw [show alv (0, false, .int .i64 0) = false from rfl] at h1; simp only [alv, Bool.false_eq_true, ↓reduceIte] at h1 ⊢; omega) (by simp only [World.size_setCell]; exact hsz)).mono ?_
        rintro e w3 ⟨rfl, t3, f3⟩
        have T3 := Lib.hid t3
        have F3 := Lib.hid f3
        clear t3 f3
        go_wp2
        refine ⟨⟨i + 1, by omega, by simp, Lib.hid ?_, Lib.hid ?_⟩, by simp [intOf]; omega⟩
        · have := T3.out
          rw [HS.out] at this
          exact this
        · exact Fr.below HW.out (((Fr.setQ _ _ _).trans (Fr.setQ _ _ _)).trans F3.out) (by omega) (Nat.le_refl _) hsz
    · have hlb : decide (i < nv) = false := by simpa using hlt
      obtain rfl : i = nv := by omega
      go_wp2
      go_ret2
      exact ⟨_, _, rfl, Tg.base HT.out (by omega), HB1.out.trans (HW.out.mono (by omega))⟩
end
end Go.Proofs.YtpaecmpiokkdnaaDoor.Int
