/- Handles: Same of the reference: two states that read alike. | Handles: the reference's Find, Get, Len, over states that read as lists of slots. | Handles of type int: Check. | Handles of type int: made, handle, note. | Handles of type int: New. | Handles of type int: note. -/
import Derived.Test.YtpaecmpiokkdnaaDoorTypesZ11
import Derived.Test.YtpaecmpiokkdnaaDoorTypesZ4
import Derived.Test.YtpaecmpiokkdnaaDoorTypesZ5
import Derived.StillTailTactics
import Derived.Deep.RegionWith
namespace Go.Proofs.YtpaecmpiokkdnaaDoor
open Go.RowKit Go.Sort Go.Joins
attribute [local go_sem] cell_grow frozen_grow size_grow

set_option maxRecDepth 100000 in
set_option maxHeartbeats 3200000 in
theorem rsame_ok (w : World) {n : Nat} {G : Nat → Int} {A : Nat → Bool} {V : Nat → Value} {ga aa va gb ab vb : Option Addr} {gc ac vc gd ad vd : Nat} (hga : SlF w ga n (zI G)) (haa : SlF w aa n (zB A)) (hva : SlF w va n V) (hgb : SlF w gb n (zI G)) (hab : SlF w ab n (zB A)) (hvb : SlF w vb n V) (hVf : ∀ j, j < n → ∃ x : Int, V j = .int .i64 x) (hn : n ≤ 100000) :
    Calls Tryd.prog 20 #[.agg #[.slice ga n gc, .slice aa n ac, .slice va n vc], .agg #[.slice gb n gd, .slice ab n ad, .slice vb n vd]] w fun e w' => e = .returned (.bool true) ∧ Below w.heap.size w w' := by
  have bb := (below_box0 w (.cells #[.slice ga n gc, .slice aa n ac, .slice va n vc] 35)).trans ((below_box0 (w.alloc (.cells #[.slice ga n gc, .slice aa n ac, .slice va n vc] 35)) (.cells #[.slice gb n gd, .slice ab n ad, .slice vb n vd] 35)).mono (by simp))
  have HGA := Lib.hid (hga.below bb)
  have HAA := Lib.hid (haa.below bb)
  have HVA := Lib.hid (hva.below bb)
  have HGB := Lib.hid (hgb.below bb)
  have HAB := Lib.hid (hab.below bb)
  have HVB := Lib.hid (hvb.below bb)
  have HBB := Lib.hid bb
  have qn : ((n : Int) != (n : Int)) = false := by simp
  clear hga haa hva hgb hab hvb bb
  go_enter Tryd.func20, Tryd.ntmps20
  go_wp2
  generalize hW0 : World.alloc _ _ = W0 at *
  have HQ : Hid (∀ w', Below W0.heap.size W0 w' → (w'.cell? ⟨w.heap.size, 0, none⟩ = some (.slice ga n gc) ∧ w'.cell? ⟨w.heap.size, 1, none⟩ = some (.slice aa n ac) ∧ w'.cell? ⟨w.heap.size, 2, none⟩ = some (.slice va n vc)) ∧ w'.cell? ⟨w.heap.size + 1, 0, none⟩ = some (.slice gb n gd) ∧ w'.cell? ⟨w.heap.size + 1, 1, none⟩ = some (.slice ab n ad) ∧ w'.cell? ⟨w.heap.size + 1, 2, none⟩ = some (.slice vb n vd)) :=
    Lib.hid (fun w' hb => ⟨⟨cell_later hb (by rw [← hW0]; simp [go_sem]), cell_later hb (by rw [← hW0]; simp [go_sem]), cell_later hb (by rw [← hW0]; simp [go_sem])⟩, cell_later hb (by rw [← hW0]; simp [go_sem]), cell_later hb (by rw [← hW0]; simp [go_sem]), cell_later hb (by rw [← hW0]; simp [go_sem])⟩)
  have HR0 := Lib.hid (Below.refl W0.heap.size W0)
  clear hW0
  go_loopw [5] (fun i wr => ∃ k : Nat, i = .int .i64 k ∧ k ≤ n ∧ Hid (Below W0.heap.size W0 wr)) (fun i _ => n - (intOf i).toNat)
  case atStart => exact ⟨0, rfl, Nat.zero_le _, HR0⟩
  case round =>
    obtain ⟨k, rfl, hk, HD0⟩ := hrel
    obtain ⟨W1, rfl⟩ : ∃ W1 : World, W1 = wr := ⟨_, rfl⟩
    have a0 := (HQ.out _ HD0.out).1.1
    have b0 := (HQ.out _ HD0.out).2.1
    by_cases hlt : k < n
    · obtain ⟨xb, xo, rfl, ca⟩ := (HGA.out.below HD0.out).at_ hlt
      obtain ⟨yb, yo, rfl, cb⟩ := (HGB.out.below HD0.out).at_ hlt
      obtain ⟨g, hg⟩ : ∃ g, G k = g := ⟨_, rfl⟩
      dsimp only [zI] at ca cb
      rw [hg] at ca cb
      have qg : (g != g) = false := by simp
      clear hg
      have hlti : (k : Int) < (n : Int) := by omega
      have hk0 : (0 : Int) ≤ (k : Int) := by omega
      go_wp2
      go_quiet (fail)
      go_wp2
      go_roundw
      case rel => exact ⟨k + 1, by go_num, by omega, Lib.hid (HD0.out.trans ((below_draw _ _).mono HD0.out.size))⟩
      case measure => simp [intOf]; omega
    · go_wp2
      go_loopw [6] (fun i wr => ∃ k : Nat, i = .int .i64 k ∧ k ≤ n ∧ Hid (Below W0.heap.size W0 wr)) (fun i _ => n - (intOf i).toNat)
      case atStart => exact ⟨0, rfl, Nat.zero_le _, HD0⟩
      case round =>
        obtain ⟨k, rfl, hk, HD1⟩ := hrel
        obtain ⟨W2, rfl⟩ : ∃ W2 : World, W2 = wr := ⟨_, rfl⟩
        have a1 := (HQ.out _ HD1.out).1.2.1
        have b1 := (HQ.out _ HD1.out).2.2.1
        by_cases hlt : k < n
        · obtain ⟨xb, xo, rfl, ca⟩ := (HAA.out.below HD1.out).at_ hlt
          obtain ⟨yb, yo, rfl, cb⟩ := (HAB.out.below HD1.out).at_ hlt
          obtain ⟨g, hg⟩ : ∃ g, A k = g := ⟨_, rfl⟩
          dsimp only [zB] at ca cb
          rw [hg] at ca cb
          have qg : (g == g) = true := by simp
          have qh : (g != g) = false := by simp
          clear hg
          have hlti : (k : Int) < (n : Int) := by omega
          have hk0 : (0 : Int) ≤ (k : Int) := by omega
          go_wp2
          go_quiet (fail)
          go_wp2
          go_roundw
          case rel => exact ⟨k + 1, by go_num, by omega, Lib.hid (HD1.out.trans ((below_draw _ _).mono HD1.out.size))⟩
          case measure => simp [intOf]; omega
        · go_wp2
          go_loopw [7] (fun i wr => ∃ k : Nat, i = .int .i64 k ∧ k ≤ n ∧ Hid (Below W0.heap.size W0 wr)) (fun i _ => n - (intOf i).toNat)
          case atStart => exact ⟨0, rfl, Nat.zero_le _, HD1⟩
          case round =>
            obtain ⟨k, rfl, hk, HD2⟩ := hrel
            obtain ⟨W3, rfl⟩ : ∃ W3 : World, W3 = wr := ⟨_, rfl⟩
            have a2 := (HQ.out _ HD2.out).1.2.2
            have b2 := (HQ.out _ HD2.out).2.2.2
            by_cases hlt : k < n
            · obtain ⟨xb, xo, rfl, ca⟩ := (HVA.out.below HD2.out).at_ hlt
              obtain ⟨yb, yo, rfl, cb⟩ := (HVB.out.below HD2.out).at_ hlt
              obtain ⟨g, hg⟩ := hVf k hlt
              rw [hg] at ca cb
              have qg : (g != g) = false := by simp
              clear hg
              have hlti : (k : Int) < (n : Int) := by omega
              have hk0 : (0 : Int) ≤ (k : Int) := by omega
              go_wp2
              go_quiet (fail)
              go_wp2
              go_roundw
              case rel => exact ⟨k + 1, by go_num, by omega, Lib.hid (HD2.out.trans ((below_draw _ _).mono HD2.out.size))⟩
              case measure => simp [intOf]; omega
            · go_wp2
              go_ret
              exact ⟨rfl, HBB.out.trans (HD2.out.mono (by have := HBB.out.size; omega))⟩
theorem rsame_rs {w : World} {x y : Value} {st : List Slt} (hx : RS w x st) (hy : RS w y st) (hv : ∀ j, j < st.length → ∃ z : Int, vF st j = .int .i64 z) (hn : st.length ≤ 100000) :
    Calls Tryd.prog 20 #[x, y] w fun e w' => e = .returned (.bool true) ∧ Below w.heap.size w w' := by
  obtain ⟨ga, gc, aa, ac, va, vc, rfl, h⟩ := hx
  obtain ⟨gb, gd, ab, ad, vb, vd, rfl, k⟩ := hy
  exact rsame_ok w h.g h.a h.v k.g k.a k.v hv hn
end Go.Proofs.YtpaecmpiokkdnaaDoor

namespace Go.Proofs.YtpaecmpiokkdnaaDoor
open Go.RowKit Go.Sort Go.Joins
attribute [local go_sem] cell_grow frozen_grow size_grow

def findI (st : List Slt) (h : Int) : Int := if findE st h = 0 then slotI h else 0
theorem findI_bad {st : List Slt} {h e : Int} (he : e = findE st h) (h0 : e ≠ 0) : 0 = findI st h := by unfold findI; rw [if_neg (by rw [← he]; exact h0)]
theorem findI_ok {st : List Slt} {h : Int} {i : Nat} (he : 0 = findE st h) (hi : slotI h = i) : (i : Int) = findI st h := by unfold findI; rw [if_pos he.symm, hi]

section
variable {st : List Slt} {ga aa va : Option Addr} {gc ac vc : Nat}
set_option maxRecDepth 100000 in
set_option maxHeartbeats 3200000 in
theorem rfind_ok (h : Int) (w : World) (hr : RA w st ga aa va) (_hn : st.length ≤ 1024) :
    Calls Tryd.prog 75 #[.agg #[.slice ga st.length gc, .slice aa st.length ac, .slice va st.length vc], .int .i64 h] w fun e w' => e = .returned (.tuple #[.int .i64 (findI st h), .int .i64 (findE st h)]) ∧ Below w.heap.size w w' := by
  have hb := below_box0 w (.cells #[.slice ga st.length gc, .slice aa st.length ac, .slice va st.length vc] 35)
  have HB := Lib.hid hb
  by_cases h1 : slotI h < 0
  · have R := Lib.hid (find_none (q := 0) (st := st) (.inl h1)).2
    have d1 : decide (slotI h < 0) = true := by simpa using h1
    clear hb hr h1
    go_enter Tryd.func75, Tryd.ntmps75
    go_wp2_with fail
    refine (rslot_ok h _).mono ?_
    rintro e w1 ⟨rfl, rfl⟩
    go_wp2
    go_ret2
    exact ⟨ret_two (findI_bad R.out (by decide)) R.out, HB.out⟩
  obtain ⟨i, hi⟩ := Int.eq_ofNat_of_zero_le (by omega : 0 ≤ slotI h)
  have d1 : decide ((i : Int) < 0) = false := by simp
  by_cases h2 : st.length ≤ i
  · have R := Lib.hid (find_none (q := 0) (st := st) (h := h) (.inr (.inl (by omega)))).2
    have d2 : decide ((st.length : Int) ≤ (i : Int)) = true := by simpa using h2
    have d2' : decide (st.length ≤ i) = true := by simpa using h2
    have HI := Lib.hid hi
    clear hb hr h1 h2 hi
    go_enter Tryd.func75, Tryd.ntmps75
    go_wp2_with fail
    refine (rslot_ok h _).mono ?_
    rintro e w1 ⟨rfl, rfl⟩
    rw [HI.out]
    go_wp2
    go_ret2
    exact ⟨ret_two (findI_bad R.out (by decide)) R.out, HB.out⟩
  have hlt : i < st.length := by omega
  have d2 : decide ((st.length : Int) ≤ (i : Int)) = false := by simp; omega
  have d2' : decide (st.length ≤ i) = false := by simp; omega
  obtain ⟨gb, go, hga, cg⟩ := (hr.g.below hb).at_ hlt
  obtain ⟨ab, ao, haa, ca⟩ := (hr.a.below hb).at_ hlt
  have HGA := Lib.hid hga
  have HAA := Lib.hid haa
  obtain ⟨⟨g, al, v⟩, hS⟩ : ∃ S, st.getD i (0, false, undef) = S := ⟨_, rfl⟩
  dsimp only [zI, zB, gF, aF] at cg ca
  rw [hS] at cg ca
  dsimp only at cg ca
  have i0 : (0 : Int) ≤ (i : Int) := by omega
  have i1 : (i : Int) < (st.length : Int) := by omega
  have HI := Lib.hid hi
  have HCG := Lib.hid cg
  have HCA := Lib.hid ca
  clear hb hr hga haa cg ca
  have fin : ∀ (r : Int × Int), r.1 = findI st h → r.2 = findE st h → ((decide ((g : Int) < numI h) = true ∧ r = (0, 4)) ∨ (decide ((g : Int) < numI h) = false ∧ decide (numI h < (g : Int)) = true ∧ r = (0, 160)) ∨ (decide ((g : Int) < numI h) = false ∧ decide (numI h < (g : Int)) = false ∧ al = false ∧ r = (0, 160)) ∨ (decide ((g : Int) < numI h) = false ∧ decide (numI h < (g : Int)) = false ∧ al = true ∧ r = ((i : Int), 0))) →
      Calls Tryd.prog 75 #[.agg #[.slice ga st.length gc, .slice aa st.length ac, .slice va st.length vc], .int .i64 h] w fun e w' => e = .returned (.tuple #[.int .i64 (findI st h), .int .i64 (findE st h)]) ∧ Below w.heap.size w w' := by
    intro r hr1 hr2 hc
    rw [← hr1, ← hr2]
    clear hr1 hr2 hS h1 h2
    have cg := HCG.out
    have ca := HCA.out
    have e1 := HGA.out
    have e2 := HAA.out
    subst e1 e2
    rcases hc with ⟨d3, rfl⟩ | ⟨d3, d4, rfl⟩ | ⟨d3, d4, rfl, rfl⟩ | ⟨d3, d4, rfl, rfl⟩
    all_goals
      go_enter Tryd.func75, Tryd.ntmps75
      go_wp2_with fail
      refine (rslot_ok h _).mono ?_
      rintro e w1 ⟨rfl, rfl⟩
      rw [HI.out]
      go_wp2
      go_ret2
      exact ⟨rfl, HB.out⟩
  by_cases h3 : (g : Int) < numI h
  · have R := (find_far (q := 0) hi hlt (by rw [hS]; exact h3)).2
    exact fin (0, 4) (findI_bad R (by decide)) R (.inl ⟨by simpa using h3, rfl⟩)
  · have d3 : decide ((g : Int) < numI h) = false := by simpa using h3
    by_cases h4 : numI h < (g : Int)
    · have R := (find_old (q := 0) hi hlt (by rw [hS]; exact h3) (.inl (by rw [hS]; exact h4))).2
      exact fin (0, 160) (findI_bad R (by decide)) R (.inr (.inl ⟨d3, by simpa using h4, rfl⟩))
    · have d4 : decide (numI h < (g : Int)) = false := by simpa using h4
      cases hal : al with
      | false =>
        have R := (find_old (q := 0) hi hlt (by rw [hS]; exact h3) (.inr (by rw [hS]; exact hal))).2
        exact fin (0, 160) (findI_bad R (by decide)) R (.inr (.inr (.inl ⟨d3, d4, hal, rfl⟩)))
      | true =>
        have R := (find_yes (q := 0) hi hlt (by rw [hS]; exact h3) (by rw [hS]; exact h4) (by rw [hS]; exact hal)).2
        exact fin ((i : Int), 0) (findI_ok R hi) R (.inr (.inr (.inr ⟨d3, d4, hal, rfl⟩)))
/-- what Get answers -/
def getV (st : List Slt) (h : Int) : Value := if findE st h = 0 then (st.getD (slotI h).toNat (0, false, undef)).2.2 else .int .i64 0
set_option maxRecDepth 100000 in
set_option maxHeartbeats 1600000 in
theorem rget_ok (h : Int) (w : World) (hr : RA w st ga aa va) (hn : st.length ≤ 1024) (hv : ∀ j, j < st.length → ∃ z : Int, (st.getD j (0, false, undef)).2.2 = .int .i64 z) :
    Calls Tryd.prog 48 #[.agg #[.slice ga st.length gc, .slice aa st.length ac, .slice va st.length vc], .int .i64 h] w fun e w' => e = .returned (.tuple #[getV st h, .int .i64 (findE st h)]) ∧ Below w.heap.size w w' := by
  have hb := below_box0 w (.cells #[.slice ga st.length gc, .slice aa st.length ac, .slice va st.length vc] 35)
  have HB := Lib.hid hb
  have HR := Lib.hid (hr.below hb)
  by_cases he : findE st h = 0
  · have hlt : ∃ i : Nat, slotI h = i ∧ i < st.length := by
      unfold findE at he
      by_cases h1 : slotI h < 0 ∨ (st.length : Int) ≤ slotI h ∨ ((atH st h).1 : Int) < numI h
      · rw [if_pos h1] at he; cases he
      · obtain ⟨i, hi⟩ := Int.eq_ofNat_of_zero_le (by omega : 0 ≤ slotI h)
        exact ⟨i, hi, by omega⟩
    obtain ⟨i, hi, hil⟩ := hlt
    obtain ⟨z, hz⟩ := hv i hil
    have hgv : getV st h = .int .i64 z := by unfold getV; rw [if_pos he, hi, Int.toNat_natCast, hz]
    have hfi : findI st h = i := by unfold findI; rw [if_pos he, hi]
    rw [hgv, he]
    obtain ⟨vb, vo, hva, cv⟩ := HR.out.v.at_ hil
    have cv : (w.alloc (.cells #[.slice ga st.length gc, .slice aa st.length ac, .slice va st.length vc] 35)).cell? ⟨vb, vo + i, none⟩ = some (.int .i64 z) := cv.trans (by unfold vF; rw [hz])
    have hvl := World.block_lt_of_cell? _ _ cv
    have HF := Lib.hid hfi
    have HE := Lib.hid he
    have HVA := Lib.hid hva
    have HCV := Lib.hid cv
    have i0 : (0 : Int) ≤ (i : Int) := by omega
    have i1 : (i : Int) < (st.length : Int) := by omega
    clear hb hr he hi hz hgv hfi hva cv hv
    go_enter Tryd.func48, Tryd.ntmps48
    go_wp2_with fail
    refine (rfind_ok h _ HR.out hn).mono ?_
    rintro e w1 ⟨rfl, b1⟩
    rw [HF.out, HE.out]
    have c2 : w1.cell? ⟨w.heap.size, 2, none⟩ = some (.slice va st.length vc) := cell_later b1 (by simp [go_sem])
    rw [HVA.out] at c2
    have cv1 := (b1.cell (p := ⟨vb, vo + i, none⟩) hvl).trans HCV.out
    have HB1 := Lib.hid (HB.out.trans (b1.mono (by simp)))
    clear b1
    go_wp2
    go_ret2
    exact ⟨rfl, HB1.out⟩
  · have hgv : getV st h = .int .i64 0 := by unfold getV; rw [if_neg he]
    have hq := bne0_true he
    rw [hgv]
    clear hb hr he hgv hv
    go_enter Tryd.func48, Tryd.ntmps48
    go_wp2_with fail
    refine (rfind_ok h _ HR.out hn).mono ?_
    rintro e w1 ⟨rfl, b1⟩
    have HB1 := Lib.hid (HB.out.trans (b1.mono (by simp)))
    clear b1
    go_wp2
    go_ret2
    exact ⟨rfl, HB1.out⟩
end
end Go.Proofs.YtpaecmpiokkdnaaDoor

namespace Go.Proofs.YtpaecmpiokkdnaaDoor.Int
open Go.RowKit Go.Sort Go.Joins
attribute [local go_sem] cell_grow frozen_grow size_grow

section
variable {n na nv : Nat} {ga aa va : Option Addr} {gc ac vc : Nat} {G : Nat → Int} {A : Nat → Bool}
set_option maxRecDepth 100000 in
set_option maxHeartbeats 3200000 in
theorem check_ok (w : World) (hG : SlF w ga n (zI G)) (hA : SlF w aa na (zB A)) :
    Calls Tryd.prog 16 #[.agg #[.slice ga n gc, .slice aa na ac, .slice va nv vc]] w fun e w' => e = .returned (.tuple #[.int .i64 (hcI n na nv G A), .int .i64 (hcE n na nv G A)]) ∧ Below w.heap.size w w' := by
  have hb0 := below_box0 w (.cells #[.slice ga n gc, .slice aa na ac, .slice va nv vc] 35)
  have HB := Lib.hid hb0
  by_cases h1 : n < 1 ∨ 1024 < n
  · have R := Lib.hid (hc_range (na := na) (nv := nv) (G := G) (A := A) h1)
    clear hb0
    by_cases h2 : n < 1
    all_goals
      have h3 : ¬ n < 1 → 1024 < n := fun h => by omega
      first
        | (have d1 : decide ((n : Int) < 1) = true := by rw [decide_eq_true_eq]; omega
           clear h1 h2 h3)
        | (have d1 : decide ((n : Int) < 1) = false := by rw [decide_eq_false_iff_not]; omega
           have d2 : decide (1024 < n) = true := by rw [decide_eq_true_eq]; exact h3 h2
           have d3 : decide ((1024 : Int) < (n : Int)) = true := by rw [decide_eq_true_eq]; have := h3 h2; omega
           clear h1 h2 h3)
      go_enter Tryd.func16, Tryd.ntmps16
      go_wp2
      go_ret2
      exact ⟨ret_two R.out.1 R.out.2, HB.out⟩
  · have d1 : decide ((n : Int) < 1) = false := by rw [decide_eq_false_iff_not]; omega
    have d2 : decide (1024 < n) = false := by rw [decide_eq_false_iff_not]; omega
    have d3 : decide ((1024 : Int) < (n : Int)) = false := by rw [decide_eq_false_iff_not]; omega
    have hn : n ≤ 1024 := by omega
    by_cases h2 : na ≠ n ∨ nv ≠ n
    · have R := Lib.hid (hc_form (G := G) (A := A) h1 h2)
      clear hb0
      by_cases h3 : na = n
      all_goals
        have h4 : na = n → nv ≠ n := fun h => by omega
        first
          | (have d4 : ((na : Int) != (n : Int)) = false := by rw [bne_eq_false_iff_eq]; omega
             have d5 : ((nv : Int) != (n : Int)) = true := by rw [bne_iff_ne]; have := h4 h3; omega
             clear h1 h2 h3 h4)
          | (have d4 : ((na : Int) != (n : Int)) = true := by rw [bne_iff_ne]; omega
             clear h1 h2 h3 h4)
        go_enter Tryd.func16, Tryd.ntmps16
        go_wp2
        go_ret2
        exact ⟨ret_two R.out.1 R.out.2, HB.out⟩
    · obtain rfl : na = n := by omega
      obtain rfl : nv = na := by omega
      have HN := Lib.hid h1
      have HG := Lib.hid (hG.below hb0)
      have HA := Lib.hid (hA.below hb0)
      clear hb0 h1 h2 hG hA
      go_enter Tryd.func16, Tryd.ntmps16
      go_wp2
      go_loop [33] (fun x => ∃ i : Nat, i ≤ nv ∧ x = .int .i64 i ∧ Hid (∀ j, j < i → badS G A j = false)) (fun x => nv - (intOf x).toNat)
      case atStart => exact ⟨0, Nat.zero_le _, rfl, Lib.hid (fun j h => by omega)⟩
      case round =>
        obtain ⟨i, hi, rfl, HP⟩ := hrel
        by_cases hlt : i < nv
        · obtain ⟨gb, go, rfl, cg⟩ := HG.out.at_ hlt
          obtain ⟨ab, ao, rfl, ca⟩ := HA.out.at_ hlt
          have hli : (i : Int) < (nv : Int) := by omega
          have hl0 : (0 : Int) ≤ (i : Int) := by omega
          have hlb : decide (i < nv) = true := by simpa using hlt
          obtain ⟨g, hg⟩ : ∃ g, G i = g := ⟨_, rfl⟩
          obtain ⟨al, hal⟩ : ∃ al, A i = al := ⟨_, rfl⟩
          have HBad : Hid (badS G A i = (decide (g < 0) || decide (65535 < g) || (decide (g = 0) && al))) := Lib.hid (by unfold badS; rw [hg, hal])
          dsimp only [zI, zB] at cg ca
          rw [hg] at cg
          rw [hal] at ca
          clear hg hal
          by_cases g1 : g < 0
          · have d4 : decide (g < 0) = true := by simpa using g1
            have R := Lib.hid (hc_bad HN.out hlt (by rw [HBad.out, d4]; rfl) HP.out)
            clear g1
            go_wp2
            go_ret2
            exact ⟨ret_two R.out.1 R.out.2, HB.out⟩
          · have d4 : decide (g < 0) = false := by simpa using g1
            by_cases g2 : 65535 < g
            · have d5 : decide (65535 < g) = true := by simpa using g2
              have R := Lib.hid (hc_bad HN.out hlt (by rw [HBad.out, d4, d5]; rfl) HP.out)
              clear g1 g2
              go_wp2
              go_ret2
              exact ⟨ret_two R.out.1 R.out.2, HB.out⟩
            · have d5 : decide (65535 < g) = false := by simpa using g2
              by_cases g3 : g = 0
              · have d6 : (g == 0) = true := by simpa using g3
                cases al with
                | true =>
                  have R := Lib.hid (hc_bad HN.out hlt (by rw [HBad.out, d4, d5, decide_eq_true g3]; rfl) HP.out)
                  clear g1 g2 g3
                  go_wp2
                  go_ret2
                  exact ⟨ret_two R.out.1 R.out.2, HB.out⟩
                | false =>
                  have R := Lib.hid (show badS G A i = false by rw [HBad.out, d4, d5]; simp)
                  clear g1 g2 g3
                  go_wp2
                  go_round
                  case rel => exact ⟨i + 1, by omega, by go_num, Lib.hid (fun j h => by
                    by_cases hj : j = i
                    · rw [hj]; exact R.out
                    · exact HP.out j (by omega))⟩
                  case measure => simp [intOf]; omega
              · have d6 : (g == 0) = false := by simpa using g3
                have R := Lib.hid (show badS G A i = false by rw [HBad.out, d4, d5, decide_eq_false g3]; rfl)
                clear g1 g2 g3
                go_wp2
                go_round
                case rel => exact ⟨i + 1, by omega, by go_num, Lib.hid (fun j h => by
                  by_cases hj : j = i
                  · rw [hj]; exact R.out
                  · exact HP.out j (by omega))⟩
                case measure => simp [intOf]; omega
        · have hlb : decide (i < nv) = false := by simpa using hlt
          have R := Lib.hid (hc_good HN.out (fun j h => HP.out j (by omega)))
          go_wp2
          go_ret2
          exact ⟨ret_two R.out.1 R.out.2, HB.out⟩
end
end Go.Proofs.YtpaecmpiokkdnaaDoor.Int

namespace Go.Proofs.YtpaecmpiokkdnaaDoor.Int
open Go.RowKit Go.Sort Go.Joins
attribute [local go_sem] cell_grow frozen_grow size_grow

abbrev TBL : TypeId := 99
abbrev SLOT : TypeId := 105
theorem u_slot : 144 ≠ SLOT := by decide
theorem u_tbl : 144 ≠ TBL := by decide

theorem made_ok {B p q : Nat} {st : List Slt} {m : Nat} {r : Nat → Bool} (w : World) (h : Tb 99 105 w B p q st m r) :
    Calls Tryd.prog 52 #[.pointer (some ⟨p, 0, none⟩)] w fun e w' => e = .returned (.bool true) ∧ w = w' := by
  have c0 := h.c0
  have n1 := h.n1
  have d1 : decide (0 < st.length) = true := by simp; omega
  go_enter Tryd.func52, Tryd.ntmps52
  go_wp2
  go_ret
  exact ⟨rfl, rfl⟩

theorem handle_ok {B p q : Nat} {st : List Slt} {m : Nat} {r : Nat → Bool} (i g : Nat) (w : World) (h : Tb 99 105 w B p q st m r) (hi : i < st.length) (hg : (st.getD i (0, false, undef)).1 = g) (hg2 : g ≤ 65535) :
    Calls Tryd.prog 55 #[.pointer (some ⟨p, 0, none⟩), .int .i64 i] w fun e w' => e = .returned (.int .i64 ((g : Int) * 65536 + i)) ∧ w = w' := by
  have c0 := h.c0
  have n2 := h.n2
  have s0 := h.s0 hi
  rw [hg] at s0
  have i0 : (0 : Int) ≤ (i : Int) := by omega
  have i1 : (i : Int) < (st.length : Int) := by omega
  clear hg h
  go_enter Tryd.func55, Tryd.ntmps55
  go_wp2
  go_ret
  exact ⟨rfl, rfl⟩

end Go.Proofs.YtpaecmpiokkdnaaDoor.Int

namespace Go.Proofs.YtpaecmpiokkdnaaDoor.Int
open Go.RowKit Go.Sort Go.Joins
attribute [local go_sem] cell_grow frozen_grow size_grow

theorem info_slot : (Tryd.prog.info? 105).map (fun i => (i.zero, i.size, i.bytes)) = some (some (.agg #[.int .i64 0, .bool false, .int .i64 0]), 3, 24) := by kernel_rfl

theorem run_make_slots (n : Nat) (hn : n ≤ 1024) (w : World) :
    (Instr.makeSlice 94 (.int .i64 (n : Int)) (.int .i64 (n : Int))).run Tryd.prog w = .ok (.slice (some ⟨w.heap.size, 0, none⟩) n n) (w.alloc (.cells (slotCells (List.replicate n (0, false, .int .i64 0))).toArray 105)) := by
  obtain ⟨i0, hi, hz0, hz1, hz2⟩ := info_parts info_slot
  have h := run_make (P := Tryd.prog) w 94 105 i0 _ Tryd.underlying94 hi hz0 .i64 .i64 n n (by omega) (by omega) (by rw [hz2]; omega) (by omega)
  have e : madeCells #[.int .i64 0, .bool false, .int .i64 0] (n * 3) = (slotCells (List.replicate n (0, false, .int .i64 0))).toArray := by rw [← made_slots]
  rw [h, Int.toNat_natCast, hz1]
  exact congrArg (fun c => Result.ok (Value.slice (some ⟨w.heap.size, 0, none⟩) n n) (w.alloc (.cells c 105))) e

set_option maxHeartbeats 1600000 in
theorem new_bad (N : Int) (w : World) (h : N < 1 ∨ 1024 < N) :
    Calls Tryd.prog 13 #[.int .i64 N] w fun e w' => e = .returned (.tuple #[.pointer none, .int .i64 7]) ∧ w = w' := by
  by_cases h1 : N < 1
  · go_enter Tryd.func13, Tryd.ntmps13
    go_wp2
    go_ret2
    exact ⟨rfl, rfl⟩
  · have h2 : 1024 < N := by omega
    clear h
    go_enter Tryd.func13, Tryd.ntmps13
    go_wp2
    go_ret2
    exact ⟨rfl, rfl⟩

set_option maxRecDepth 100000 in
set_option maxHeartbeats 1600000 in
theorem new_ok (n : Nat) (w : World) (h1 : 1 ≤ n) (h2 : n ≤ 1024) :
    Calls Tryd.prog 13 #[.int .i64 n] w fun e w' => e = .returned (.tuple #[.pointer (some ⟨w.heap.size + 1, 0, none⟩), .int .i64 0]) ∧
      Tb 99 105 w' w.heap.size (w.heap.size + 1) w.heap.size (List.replicate n (0, false, .int .i64 0)) 0 (fun i => decide (i < n)) ∧ Below w.heap.size w w' := by
  have hmk := run_make_slots n h2
  obtain ⟨cs, hcs⟩ : ∃ cs, cs = (slotCells (List.replicate n ((0, false, .int .i64 0) : Slt))).toArray := ⟨_, rfl⟩
  rw [← hcs] at hmk
  have HC := Lib.hid hcs
  clear hcs
  have HF := Lib.hid (bNew_ok n true ((w.alloc (.cells cs 105)).alloc (.cells #[.slice (some ⟨w.heap.size, 0, none⟩) n n, .int .i64 0, .slice none 0 0, .int .i64 0] 99)) (by omega))
  go_enter Tryd.func13, Tryd.ntmps13
  go_wp2_with fail
  refine HF.out.mono ?_
  rintro e w1 ⟨a, cap, rfl, hown, hb⟩
  have b1 : w1.heap[w.heap.size + 1]? = some (.cells #[.slice (some ⟨w.heap.size, 0, none⟩) n n, .int .i64 0, .slice none 0 0, .int .i64 0] 99 (0, 0)) := by
    rw [hb.block _ (by simp)]
    have := heap_alloc_new (w.alloc (.cells cs 105)) (.cells #[.slice (some ⟨w.heap.size, 0, none⟩) n n, .int .i64 0, .slice none 0 0, .int .i64 0] 99)
    rwa [World.size_alloc] at this
  have b0 : w1.heap[w.heap.size]? = some (.cells cs 105 (0, 0)) := by
    rw [hb.block _ (by simp; omega), Below.heap_alloc _ _ _ (by simp)]
    exact heap_alloc_new w _
  have p1 : w1.cell? ⟨w.heap.size + 1, 1, none⟩ = some (.int .i64 0) := by rw [cell_of_block b1]; rfl
  have p2 : w1.cell? ⟨w.heap.size + 1, 2, none⟩ = some (.slice none 0 0) := by rw [cell_of_block b1]; rfl
  have p3 : ∀ j, w1.frozen? ⟨w.heap.size + 1, j, none⟩ = false := fun j => unfrozen_of_block b1 j
  have HB1 := Lib.hid b1
  have HB0 := Lib.hid b0
  have HO := Lib.hid hown
  have HB := Lib.hid hb
  clear b1 b0 hown hb
  go_wp2
  go_ret2
  refine ⟨rfl, ?_, ((((Below.refl w.heap.size w).alloc (Nat.le_refl _) _).alloc (by simp) _).trans (HB.out.mono (by simp; omega))).setCell (p := ⟨w.heap.size + 1, 1, none⟩) (by simp) _ |>.setCell (p := ⟨w.heap.size + 1, 2, none⟩) (by simp) _⟩
  have o2 := own_ne HO.out HB1.out u_tbl
  refine ⟨by omega, Nat.le_refl _, by omega, by simpa using h1, by simpa using h2, ⟨a, cap, ?_, ?_⟩, ?_, fun i hi => by simp at hi; simp; omega⟩
  · rw [setCell_block (setCell_block HB1.out _) _]; simp
  · rw [List.length_replicate]
    have := ownsRow_setCell_other (ownsRow_setCell_other HO.out (a := ⟨w.heap.size + 1, 1, none⟩) o2 (.int .i64 (n : Int))) (a := ⟨w.heap.size + 1, 2, none⟩) o2 (.slice a ((n + 63) / 64) cap)
    exact ownsRow_le this (by simp; omega)
  · rw [Below.heap_setCell _ _ _ _ (by dsimp only; omega), Below.heap_setCell _ _ _ _ (by dsimp only; omega), HB0.out, HC.out]
end Go.Proofs.YtpaecmpiokkdnaaDoor.Int

namespace Go.Proofs.YtpaecmpiokkdnaaDoor.Int
open Go.RowKit Go.Sort Go.Joins
attribute [local go_sem] cell_grow frozen_grow size_grow

theorem rdy_f (g : Nat) (v : Value) : decide ((g : Int) < 65535) = rdy (g, false, v) := by
  simp only [rdy, Bool.not_false, Bool.true_and]
  exact decide_eq_decide.2 (by omega)
theorem rdy_t (g : Nat) (v : Value) : false = rdy (g, true, v) := by simp [rdy]

set_option maxRecDepth 100000 in
set_option maxHeartbeats 1600000 in
theorem note_ok {B p q : Nat} {st : List Slt} {m : Nat} {r : Nat → Bool} (i : Nat) (w : World) (h : Tb 99 105 w B p q st m r) (hB : B ≤ w.heap.size) (hi : i < st.length) :
    Calls Tryd.prog 54 #[.pointer (some ⟨p, 0, none⟩), .int .i64 i] w fun e w' => e = .returned (.tuple #[]) ∧ Tb 99 105 w' B p q st m (filled r i (i + 1) (rdy (st.getD i (0, false, undef)))) ∧ Fr p q w w' := by
  have c0 := h.c0
  have c1 := h.c1
  obtain ⟨ra, rcap, c2, hsl⟩ := h.c2
  have n2 := h.n2
  have s0 := h.s0 hi
  have s1 := h.s1 hi
  have hc := h.chk0
  have f1 := h.fp
  have hpl : p < w.heap.size := World.block_lt_of_cell? _ _ c1
  obtain ⟨⟨g, al, v⟩, hS⟩ : ∃ S, S = st.getD i (0, false, undef) := ⟨_, rfl⟩
  rw [← hS] at s0 s1 ⊢
  dsimp only at s0 s1
  have i0 : (0 : Int) ≤ (i : Int) := by omega
  have i1 : (i : Int) < (st.length : Int) := by omega
  have H := Lib.hid h
  have e1 : ((i + 1 : Nat) : Int) = (i : Int) + 1 := by omega
  have hsl' : SlK .u64 w.drew ra ((st.length + 63) / 64) (pack r ((st.length + 63) / 64)) := ⟨hsl.length, hsl.cells⟩
  have hwr : IntKind.i64.wrap ((i : Int) + 1) = (i : Int) + 1 := IntWalk.i64_in _ (by omega)
  have hF := fun b => bSet_ok st.length i (i + 1) b ra ((st.length + 63) / 64) rcap _ w.drew hsl' (pack_lt _ _) hc (by omega) (by omega)
  rw [e1] at hF
  have HF := Lib.hid hF
  clear hc hS h e1 hsl hsl' hF
  cases al
  · go_enter Tryd.func54, Tryd.ntmps54
    go_wp2
    first | go_region_with ((go_at_call 80; refine (HF.out (decide ((g : Int) < 65535))).mono ?_; rintro e w' ⟨a', cap', rfl, hown, hbl⟩; have p1 : w'.cell? ⟨p, 1, none⟩ = some (.int .i64 (st.length : Int)) := cell_later hbl c1; have p2 : w'.cell? ⟨p, 2, none⟩ = some (.slice ra ((st.length + 63) / 64) rcap) := cell_later hbl c2; have p3 : ∀ j, w'.frozen? ⟨p, j, none⟩ = false := fun j => (hbl.frozen (p := ⟨p, j, none⟩) hpl).trans (f1 j))) | fail
    all_goals go_end0
    all_goals exact ⟨rfl, H.out.noted' u_tbl hi hB (rdy_f _ _) hbl hown⟩
  · go_enter Tryd.func54, Tryd.ntmps54
    go_wp2
    first | go_region_with ((go_at_call 80; refine (HF.out false).mono ?_; rintro e w' ⟨a', cap', rfl, hown, hbl⟩; have p1 : w'.cell? ⟨p, 1, none⟩ = some (.int .i64 (st.length : Int)) := cell_later hbl c1; have p2 : w'.cell? ⟨p, 2, none⟩ = some (.slice ra ((st.length + 63) / 64) rcap) := cell_later hbl c2; have p3 : ∀ j, w'.frozen? ⟨p, j, none⟩ = false := fun j => (hbl.frozen (p := ⟨p, j, none⟩) hpl).trans (f1 j))) | fail
    all_goals go_end0
    all_goals exact ⟨rfl, H.out.noted' u_tbl hi hB (rdy_t _ _) hbl hown⟩
end Go.Proofs.YtpaecmpiokkdnaaDoor.Int
