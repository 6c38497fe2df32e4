/- Handles: HandlesSpent returns true. -/
import Derived.Test.YtpaecmpiokkdnaaDoorTypesZ17
namespace Go.Proofs.YtpaecmpiokkdnaaDoor
open Go.RowKit Go.Sort Go.Joins
attribute [local go_sem] cell_grow frozen_grow size_grow

theorem cnt_filled (r : Nat → Bool) (i : Nat) : ∀ n, i < n → r i = true → cnt (filled r i (i + 1) false) 0 n + 1 = cnt r 0 n
  | 0, h, _ => by omega
  | n + 1, h, hr => by
    by_cases e : i = n
    · subst e
      have h1 : cnt (filled r i (i + 1) false) 0 i = cnt r 0 i := cnt_congr i (fun j hj => by unfold filled; rw [if_neg (by omega)])
      have h2 : filled r i (i + 1) false i = false := by unfold filled; rw [if_pos ⟨Nat.le_refl _, by omega⟩]
      simp only [cnt, h1, h2, hr]; simp
    · have h1 := cnt_filled r i n (by omega) hr
      have h2 : filled r i (i + 1) false n = r n := by unfold filled; rw [if_neg (by omega)]
      simp only [cnt, h2]; omega
/-- the state while slots are filled -/
structure SP (st0 st : List Slt) (room k : Nat) : Prop where
  len : st.length = st0.length
  rd : ∀ j, rdyF st j = true → st.getD j (0, false, undef) = st0.getD j (0, false, undef)
  num : cnt (rdyF st) 0 st.length + k = room
  g : ∀ j, j < st.length → (st.getD j (0, false, undef)).1 ≤ 65535 ∧ ((st.getD j (0, false, undef)).2.1 = true → 1 ≤ (st.getD j (0, false, undef)).1)
  v : ∀ j, j < st.length → ∃ z : Int, (st.getD j (0, false, undef)).2.2 = .int .i64 z
theorem getD_set {st : List Slt} {i j : Nat} {s : Slt} (hi : i < st.length) : (st.set i s).getD j (0, false, undef) = if i = j then s else st.getD j (0, false, undef) := by
  rw [List.getD_eq_getElem?_getD, List.getElem?_set]
  by_cases e : i = j
  · subst e; rw [if_pos rfl, if_pos rfl, if_pos hi]; rfl
  · rw [if_neg e, if_neg e, List.getD_eq_getElem?_getD]
theorem SP.next {st0 st : List Slt} {room k : Nat} (h : SP st0 st room k) (hk : k < room) : ∃ i, nxt (rdyF st) 0 st.length = i ∧ i < st.length ∧ rdyF st i = true := by
  obtain ⟨_, h2, h3, h4⟩ := nxt_spec (p := rdyF st) (a := 0) (n := st.length) (Nat.zero_le _)
  refine ⟨_, rfl, ?_, ?_⟩
  · rcases Nat.lt_or_ge (nxt (rdyF st) 0 st.length) st.length with h5 | h5
    · exact h5
    · have := cnt_none (p := rdyF st) (a := 0) st.length (fun i hi _ => h3 i (Nat.zero_le _) (by omega))
      have := h.num
      omega
  · refine h4 ?_
    rcases Nat.lt_or_ge (nxt (rdyF st) 0 st.length) st.length with h5 | h5
    · exact h5
    · have := cnt_none (p := rdyF st) (a := 0) st.length (fun i hi _ => h3 i (Nat.zero_le _) (by omega))
      have := h.num
      omega
theorem SP.put {st0 st : List Slt} {room k i : Nat} (h : SP st0 st room k) (hi : i < st.length) (hr : rdyF st i = true) (z : Int) : SP st0 (st.set i ((st.getD i (0, false, undef)).1 + 1, true, .int .i64 z)) room (k + 1) := by
  obtain ⟨_, h1, h2⟩ := Int.rdyF_at hr
  have e : rdyF (st.set i ((st.getD i (0, false, undef)).1 + 1, true, .int .i64 z)) = filled (rdyF st) i (i + 1) false := by
    rw [← rdyF_set _ hi, ← Int.rdy_t]
  refine ⟨by simpa using h.len, fun j hj => ?_, ?_, fun j hj => ?_, fun j hj => ?_⟩
  · rw [e] at hj
    unfold filled at hj
    by_cases e1 : i ≤ j ∧ j < i + 1
    · rw [if_pos e1] at hj; cases hj
    · rw [if_neg e1] at hj
      rw [getD_set hi, if_neg (by omega)]
      exact h.rd j hj
  · have := cnt_filled (rdyF st) i st.length hi hr
    have := h.num
    rw [e, List.length_set]; omega
  · rw [List.length_set] at hj
    rw [getD_set hi]
    by_cases e1 : i = j
    · rw [if_pos e1]; exact ⟨by dsimp only; omega, fun _ => by dsimp only; omega⟩
    · rw [if_neg e1]; exact h.g j hj
  · rw [List.length_set] at hj
    rw [getD_set hi]
    by_cases e1 : i = j
    · rw [if_pos e1]; exact ⟨z, rfl⟩
    · rw [if_neg e1]; exact h.v j hj
theorem SP.full {st0 st : List Slt} {room : Nat} (h : SP st0 st room room) : ∀ j, j < st.length → rdyF st j = false := by
  have h1 : cnt (rdyF st) 0 st.length = 0 := by have := h.num; omega
  exact fun j hj => cnt_eq_zero h1 j (Nat.zero_le _) hj
theorem no_next {r : Nat → Bool} {n : Nat} (h : ∀ j, j < n → r j = false) : nxt r 0 n = n := nxt_eq (Nat.zero_le _) (Nat.zero_le _) (Nat.le_refl _) (fun j _ hj => h j hj) (fun h => by omega)
theorem SP.start {n : Nat} {G : Nat → Int} {A : Nat → Bool} {V : Nat → Int} (hb : ∀ j, j < n → badS G A j = false) : SP (stP n G A (zI V) (.int .i64 0) n) (stP n G A (zI V) (.int .i64 0) n) (cnt (rdyF (stP n G A (zI V) (.int .i64 0) n)) 0 n) 0 := by
  refine ⟨rfl, fun _ _ => rfl, by rw [stP_length]; rfl, fun j hj => ?_, fun j hj => ?_⟩
  · rw [stP_length] at hj
    rw [stP_get hj, if_pos hj]
    obtain ⟨b1, b2, b3⟩ := badS_ok (hb j hj)
    dsimp only
    exact ⟨by omega, fun ha => by have := b3 ha; omega⟩
  · rw [stP_length] at hj
    rw [stP_get hj, if_pos hj]
    cases A j
    · exact ⟨0, by simp⟩
    · exact ⟨V j, by simp⟩

theorem alv_len (st : List Slt) : (alvL st st.length).length = st.countP alv := by
  have h : st = (List.range st.length).map (fun j => st.getD j (0, false, undef)) := by
    apply List.ext_getElem?
    intro j
    by_cases hj : j < st.length
    · simp [hj]
    · simp [hj]
  rw [show List.countP alv st = List.countP alv (List.map (fun j => st.getD j (0, false, undef)) (List.range st.length)) from congrArg (List.countP alv) h, List.countP_map]
  unfold alvL
  rw [List.countP_eq_length_filter]
  rfl
theorem rd_drop {st : List Slt} {x g : Nat} {z : Value} (hx : x < st.length) (hf : ∀ j, j < st.length → rdyF st j = false) : nxt (rdyF (st.set x (g, false, z))) 0 (st.set x (g, false, z)).length = if g < 65535 then x else st.length := by
  have e : ∀ j, rdyF (st.set x (g, false, z)) j = if j = x then decide (g < 65535) else rdyF st j := fun j => by
    rw [← rdyF_set _ hx]
    unfold filled rdy
    by_cases h : j = x
    · subst h; rw [if_pos ⟨Nat.le_refl _, by omega⟩, if_pos rfl]; simp
    · rw [if_neg (by omega), if_neg h]
  rw [List.length_set]
  by_cases hg : g < 65535
  · rw [if_pos hg]
    exact nxt_eq (Nat.zero_le _) (Nat.zero_le _) (by omega) (fun j _ hj => by rw [e, if_neg (by omega)]; exact hf j (by omega)) (fun _ => by rw [e, if_pos rfl]; simpa using hg)
  · rw [if_neg hg]
    exact no_next fun j hj => by
      rw [e]
      by_cases h : j = x
      · rw [if_pos h]; simpa using hg
      · rw [if_neg h]; exact hf j hj
section
variable {n na nv nd : Nat} {ga aa va : Option Addr} {gc ac vc : Nat} {G : Nat → Int} {A : Nat → Bool} {V : Nat → Int}
set_option maxRecDepth 100000 in
set_option maxHeartbeats 6400000 in
theorem law_spent_ok (dr : Nat) (w : World) (hG : SlF w ga n (zI G)) (hA : SlF w aa n (zB A)) (hV : SlF w va n (zI V)) (hn : n ≤ 60) (hdr : dr ≤ 255) (he : hcE n n n G A = 0) (hT : Tab w) :
    Calls Tryd.prog 8 #[.agg #[.slice ga n gc, .slice aa n ac, .slice va n vc], .int .u8 (dr : Int)] w fun e w' => e = .returned (.bool true) ∧ Below w.heap.size w w' := by
  obtain ⟨hn1, -, -, -, hbad⟩ := hcE_zero he
  obtain ⟨st0, hst⟩ : ∃ st, stP n G A (zI V) (.int .i64 0) n = st := ⟨_, rfl⟩
  have hsl : st0.length = n := by rw [← hst, stP_length]
  have hs0 := SP.start (V := V) hbad
  have hGx : ∀ j, j < n → G j = ((st0.getD j (0, false, undef)).1 : Int) := fun j hj => by
    rw [← hst, stP_get hj, if_pos hj]
    have := (badS_ok (hbad j hj)).1
    dsimp only; omega
  rw [hst] at hs0
  obtain ⟨rm, hrm⟩ : ∃ rm, cnt (rdyF st0) 0 n = rm := ⟨_, rfl⟩
  have hrb : rm ≤ n := by rw [← hrm]; exact cnt_le _ _ _
  rw [hrm] at hs0
  have hTl := hT.lt
  have bb := below_box0 w (.cells #[.slice ga n gc, .slice aa n ac, .slice va n vc] 35)
  have HB := Lib.hid bb
  have HG := Lib.hid (hG.below bb)
  have HA := Lib.hid (hA.below bb)
  have HV := Lib.hid (hV.below bb)
  have HGw := Lib.hid hG
  have HT := Lib.hid (hT.below bb)
  have HTl := Lib.hid hTl
  have HE := Lib.hid he
  have HST := Lib.hid hst
  have HSL := Lib.hid hsl
  have HS0 := Lib.hid hs0
  have HRM := Lib.hid hrm
  have HGX := Lib.hid hGx
  have d1 : decide ((60 : Int) < (n : Int)) = false := by simp; omega
  have d2 : decide (60 < n) = false := by simp; omega
  clear hG hA hV hT hTl he hbad hst hs0 hsl hrm hGx bb
  go_enter Tryd.func8, Tryd.ntmps8
  go_wp2_with fail
  refine (Int.load_ok _ HG.out HA.out HV.out (fun _ => ⟨_, rfl⟩) HE.out).mono ?_
  rintro e w1 ⟨p, q, rfl, t1, b1⟩
  rw [HST.out] at t1
  have hp := Tb.hp t1
  have hq := Tb.hq t1
  simp only [World.size_alloc] at hp hq t1
  have hbox : w1.heap[w.heap.size]? = some (.cells #[.slice ga n gc, .slice aa n ac, .slice va n vc] 35 (0, 0)) := (b1.block _ (by simp)).trans (heap_alloc_new w _)
  have hpl := Tb.c0 t1
  have hpl := World.block_lt_of_cell? _ _ hpl
  have hql := blk_lt (Tb.slots t1)
  dsimp only at hpl
  have T1 := Lib.hid t1
  have X1 := Lib.hid (HT.out.below b1)
  have B1 := Lib.hid (HB.out.trans (b1.mono (by simp)))
  have BX1 := Lib.hid hbox
  clear t1 b1 hbox
  go_wp2_with fail
  refine (Int.room_ok _ T1.out).mono ?_
  rintro e w2 ⟨rfl, b2⟩
  rw [HSL.out, HRM.out]
  have T2 := Lib.hid (Tg.below T1.out b2)
  have X2 := Lib.hid (X1.out.below b2)
  have B2 := Lib.hid (B1.out.trans (b2.mono B1.out.size))
  have BX2 := Lib.hid ((b2.block _ (blk_lt BX1.out)).trans BX1.out)
  clear b2
  go_wp2
  go_loopw [8] (fun x wr => ∃ (k : Nat) (st : List Slt), x = .int .i64 k ∧ k ≤ rm ∧ Hid (SP st0 st rm k) ∧ Hid (Int.TT wr (w.heap.size + 1) p q st) ∧ Hid (Tab wr) ∧ Hid (Below w.heap.size w wr) ∧ Hid (wr.heap[w.heap.size]? = some (.cells #[.slice ga n gc, .slice aa n ac, .slice va n vc] 35 (0, 0)))) (fun x _ => rm - (intOf x).toNat)
  case atStart => exact ⟨0, st0, rfl, Nat.zero_le _, HS0, T2, X2, B2, BX2⟩
  case round =>
    clear T1 X1 B1 BX1 T2 X2 B2 BX2
    obtain ⟨k, st, rfl, hk, HS, HT1, HX, HK, HBX⟩ := hrel
    have hsn : st.length = n := HS.out.len.trans HSL.out
    by_cases hlt : k < rm
    · obtain ⟨i, hi, hil, hri⟩ := HS.out.next hlt
      have hil2 : i < n := by omega
      obtain ⟨_, hal, hg9⟩ := Int.rdyF_at hri
      have hgi := HGX.out i hil2
      rw [← HS.out.rd i hri] at hgi
      obtain ⟨g, hg⟩ : ∃ g, (st.getD i (0, false, undef)).1 = g := ⟨_, rfl⟩
      have hput := Int.tput_ok i (k : Int) wr HT1.out HX.out hi hil
      have hsp := HS.out.put hil hri (k : Int)
      rw [hg] at hput hgi hg9 hsp
      have hcnt := hsp.num
      rw [List.length_set] at hcnt
      obtain ⟨c, hc⟩ : ∃ c, cnt (rdyF (st.set i (g + 1, true, .int .i64 (k : Int)))) 0 st.length = c := ⟨_, rfl⟩
      rw [hc] at hcnt
      obtain ⟨e1, e2⟩ := hnd_slot (g := g + 1) (x := i) (by omega) (by omega) (by omega)
      rw [show ((g + 1 : Nat) : Int) = (g : Int) + 1 by omega] at e1 e2
      obtain ⟨gb, go, hga, cg⟩ := HGw.out.at_ hil2
      have HGA := Lib.hid hga
      clear hga
      have hlg := World.block_lt_of_cell? _ _ cg
      have n0 : (0 : Int) ≤ (i : Int) := by omega
      have n1 : (i : Int) < (n : Int) := by omega
      have q1 : decide ((k : Int) < (rm : Int)) = true := by simp; omega
      have q2 : decide (k < rm) = true := by simpa using hlt
      have q3 : decide ((i : Int) < 0) = false := by simp
      have q4 : decide ((n : Int) ≤ (i : Int)) = false := by simp; omega
      have q5 : decide (n ≤ i) = false := by simp; omega
      have q6 : ((c : Int) != (rm : Int) - 1 - (k : Int)) = false := by simp; omega
      have q7 : (((g : Int) + 1) != (g : Int) + 1) = false := by simp
      dsimp only [zI] at cg
      dsimp only at hlg
      rw [hgi] at cg
      have HP := Lib.hid hput
      have HSP := Lib.hid hsp
      have HC := Lib.hid hc
      have HE1 := Lib.hid e1
      have HE2 := Lib.hid e2
      have HSN := Lib.hid hsn
      clear hput hsp hc e1 e2 hg hgi hal hri hi hcnt hsn
      go_wp2_with fail
      refine HP.out.mono ?_
      rintro e w3 ⟨rfl, t3, f3⟩
      have T3 := Lib.hid t3
      have X3 := Lib.hid (HX.out.fr f3 (by have := HTl.out; omega) (by have := HTl.out; omega))
      have K3 := Lib.hid (Fr.below HK.out f3 (by omega) (by omega) HK.out.size)
      have BX3 := Lib.hid ((f3.block _ (blk_lt HBX.out) (by omega) (by omega)).trans HBX.out)
      clear t3 f3
      go_wp2_with fail
      refine (slot_ok _ _).mono ?_
      rintro e w4 ⟨rfl, rfl⟩
      rw [HE1.out, HE2.out]
      go_wp2_with fail
      refine (Int.room_ok _ T3.out).mono ?_
      rintro e w5 ⟨rfl, b5⟩
      rw [List.length_set, HC.out]
      have bx5 := (b5.block _ (blk_lt BX3.out)).trans BX3.out
      have T5 := Lib.hid (Tg.below T3.out b5)
      have X5 := Lib.hid (X3.out.below b5)
      have K5 := Lib.hid (K3.out.trans (b5.mono K3.out.size))
      have c20 : w5.cell? ⟨w.heap.size, 0, none⟩ = some (.slice ga n gc) := by rw [cell_of_block bx5]; rfl
      rw [HGA.out] at c20
      have cg5 := (K5.out.cell (p := ⟨gb, go + i, none⟩) hlg).trans cg
      have BX5 := Lib.hid bx5
      clear bx5 b5 cg
      go_wp2
      refine ⟨⟨k + 1, _, by simp, by omega, HSP, T5, X5, K5, BX5⟩, by simp [intOf]; omega⟩
    · have q1 : decide ((k : Int) < (rm : Int)) = false := by simp; omega
      have q2 : decide (k < rm) = false := by simpa using hlt
      obtain rfl : k = rm := by omega
      have q3 : decide ((k : Int) < 0) = false := by simp
      have hful := HS.out.full
      have HF := Lib.hid hful
      have HSN := Lib.hid hsn
      have hnx : ¬ nxt (rdyF st) 0 st.length < st.length := by rw [no_next hful]; omega
      have HNX := Lib.hid hnx
      clear hful hsn hnx
      go_wp2_with fail
      refine (Int.tput_full 1 _ HT1.out HX.out HNX.out).mono ?_
      rintro e w3 ⟨rfl, b3⟩
      have T3 := Lib.hid (Tg.below HT1.out b3)
      have X3 := Lib.hid (HX.out.below b3)
      have K3 := Lib.hid (HK.out.trans (b3.mono HK.out.size))
      have BX3 := Lib.hid ((b3.block _ (blk_lt HBX.out)).trans HBX.out)
      clear b3
      go_wp2_with fail
      refine (walked_ok _ T3.out (fun j hj => (HS.out.g j hj).1) (fun j hj => HS.out.v j hj)).mono ?_
      rintro e w4 ⟨a0, k0, a1, k1, rfl, o0, o1, b4⟩
      have T4 := Lib.hid (Tg.below T3.out b4)
      have X4 := Lib.hid (X3.out.below b4)
      have K4 := Lib.hid (K3.out.trans (b4.mono K3.out.size))
      have BX4 := Lib.hid ((b4.block _ (blk_lt BX3.out)).trans BX3.out)
      obtain ⟨N, hN⟩ : ∃ N, (alvL st st.length).length = N := ⟨_, rfl⟩
      have hcp := alv_len st
      rw [hN] at hcp o0
      rw [hN]
      have O0 := Lib.hid o0
      have HNN := Lib.hid hN
      have HCP := Lib.hid hcp
      have hNb : N ≤ n := by rw [hcp, ← HSN.out]; exact List.countP_le_length
      clear b4 o0 o1 hN hcp
      by_cases hN0 : N = 0
      · subst hN0
        have hlen := Int.len_ok _ T4.out
        rw [← HCP.out] at hlen
        have HLN := Lib.hid hlen
        clear hlen
        go_wp2_with fail
        refine HLN.out.mono ?_
        rintro e w5 ⟨rfl, rfl⟩
        go_wp2_with fail
        refine (awake_ok _ X4.out).mono ?_
        rintro e w6 ⟨rfl, b6⟩
        have K6 := Lib.hid (K4.out.trans (b6.mono K4.out.size))
        clear b6
        go_wp2
        go_ret
        exact ⟨rfl, K6.out⟩
      · obtain ⟨m, hm⟩ : ∃ m, dr % N = m := ⟨_, rfl⟩
        have hmN : m < N := by rw [← hm]; exact Nat.mod_lt _ (by omega)
        have hm1 : (dr : Int) % (N : Int) = (m : Int) := by rw [← hm]; rfl
        have hm2 : (dr : Int).tmod (N : Int) = (m : Int) := by rw [← hm]; rfl
        have qN : ((N : Int) == 0) = false := by simp; omega
        have qN2 : decide (N = 0) = false := by simpa using hN0
        have m0 : (0 : Int) ≤ (m : Int) := by omega
        have m1 : (m : Int) < (N : Int) := by omega
        have dr0 : (0 : Int) ≤ (dr : Int) := by omega
        have dr1 : (dr : Int) ≤ 255 := by omega
        have N1 : (0 : Int) < (N : Int) := by omega
        obtain ⟨x, hx⟩ : ∃ x, (alvL st st.length).getD m 0 = x := ⟨_, rfl⟩
        have hxm : x ∈ alvL st st.length := by
          rw [← hx, List.getD_eq_getElem?_getD, List.getElem?_eq_getElem (by rw [HNN.out]; exact hmN)]
          exact List.getElem_mem _
        have hxl : x < st.length := alvL_lt hxm
        have hxa : (st.getD x (0, false, undef)).2.1 = true := by have := (List.mem_filter.1 hxm).2; simpa using this
        obtain ⟨v, hv⟩ := HS.out.v x hxl
        obtain ⟨hg1, hg2⟩ := HS.out.g x hxl
        have hg3 := hg2 hxa
        obtain ⟨g, hg⟩ : ∃ g, (st.getD x (0, false, undef)).1 = g := ⟨_, rfl⟩
        rw [hg] at hg1 hg3
        have hSx : st.getD x (0, false, undef) = (g, true, .int .i64 v) := by
          rw [← hg, ← hxa, ← hv]
        have hsf : SlF w4 a0 N (fun j => .int .i64 (hndI st ((alvL st st.length).getD j 0))) := SlF.of_own O0.out (fun j hj => by
          have hj : j < (alvL st st.length).length := by rw [HNN.out]; exact hj
          simp [hndL, List.getElem?_map, List.getElem?_eq_getElem hj])
        obtain ⟨hb, ho, rfl, ch⟩ := hsf.at_ hmN
        rw [hx] at ch
        have hnd1 : hndI st x = (g : Int) * 65536 + x := by unfold hndI; rw [hSx]
        rw [hnd1] at ch
        have hxn : x < n := by rw [← HSN.out]; exact hxl
        obtain ⟨e1, e2⟩ := hnd_slot (x := x) hg3 hg1 (by omega)
        have hfind := find_hnd hxl hSx hg3 hg1 (by omega)
        have hdrop := Int.tdrop_ok ((g : Int) * 65536 + x) x w4 T4.out hfind e1
        rw [hSx] at hdrop
        have hrd := rd_drop (g := g) (z := .int .i64 0) hxl HF.out
        have HD := Lib.hid hdrop
        have HE1 := Lib.hid e1
        have HE2 := Lib.hid e2
        have HRD := Lib.hid hrd
        have HXL := Lib.hid hxl
        have hc4 : w4.cell? ⟨w.heap.size, 0, none⟩ = some (.slice ga n gc) := by rw [cell_of_block BX4.out]; rfl
        clear hm hN0 hx hxm hxl hxa hv hg2 hg hSx hsf hnd1 e1 e2 hfind hdrop hrd
        go_wp2_with fail
        refine HD.out.mono ?_
        rintro e w5 ⟨rfl, t5, f5⟩
        have T5 := Lib.hid t5
        have X5 := Lib.hid (X4.out.fr f5 (by have := HTl.out; omega) (by have := HTl.out; omega))
        have K5 := Lib.hid (Fr.below K4.out f5 (by omega) (by omega) K4.out.size)
        have BX5 := Lib.hid ((f5.block _ (blk_lt BX4.out) (by omega) (by omega)).trans BX4.out)
        clear t5 f5
        go_wp2_with fail
        refine (slot_ok _ _).mono ?_
        rintro e w6 ⟨rfl, rfl⟩
        rw [HE1.out, HE2.out]
        by_cases hgm : g < 65535
        · have hnx := HRD.out
          rw [if_pos hgm] at hnx
          have hput := Int.tput_ok x 2 w5 T5.out X5.out hnx (by rw [List.length_set]; exact HXL.out)
          rw [getD_set HXL.out, if_pos rfl] at hput
          have HP := Lib.hid hput
          have q1 : ((g : Int) == 65535) = false := by simp; omega
          have q2 : ((((g : Int) + 1) * 65536 + (x : Int)) == 65536 * ((g : Int) + 1) + (x : Int)) = true := by simp; omega
          clear hnx hput
          go_wp2_with fail
          refine HP.out.mono ?_
          rintro e w7 ⟨rfl, t7, f7⟩
          obtain ⟨C, hC⟩ : ∃ C, List.countP alv ((st.set x (g, false, .int .i64 0)).set x (g + 1, true, .int .i64 2)) = C := ⟨_, rfl⟩
          have hCn : C ≤ n := by
            rw [← hC, ← HSN.out]
            refine Nat.le_trans List.countP_le_length ?_
            simp
          have q3 : decide ((n : Int) < (C : Int)) = false := by simp; omega
          have q4 : decide (n < C) = false := by simp; omega
          have HLN : Hid (∀ m, Calls Tryd.prog 24 #[.pointer (some ⟨p, 0, none⟩)] (w7.drewN m) fun e w' => e = .returned (.int .i64 (C : Int)) ∧ w' = w7.drewN m) := Lib.hid (fun m => (Int.len_ok _ (Tg.below t7 (below_draw _ m))).mono fun e w' h => ⟨by rw [← hC]; exact h.1, h.2.symm⟩)
          have X7 := Lib.hid (X5.out.fr f7 (by have := HTl.out; omega) (by have := HTl.out; omega))
          have K7 := Lib.hid (Fr.below K5.out f7 (by omega) (by omega) K5.out.size)
          have bx7 := (f7.block _ (blk_lt BX5.out) (by omega) (by omega)).trans BX5.out
          have c7 : w7.cell? ⟨w.heap.size, 0, none⟩ = some (.slice ga n gc) := by rw [cell_of_block bx7]; rfl
          have HC := Lib.hid hC
          clear t7 f7 bx7 hC
          go_wp2
          go_quiet ((go_at_call 24; exact Calls.quiet_of_same (HLN.out _)))
          go_wp2_with fail
          refine (awake_ok _ (X7.out.below (below_draw _ _))).mono ?_
          rintro e w9 ⟨rfl, b9⟩
          have K9 := Lib.hid ((K7.out.trans ((below_draw w7 nq).mono K7.out.size)).trans (b9.mono (by have := K7.out.size; exact this)))
          clear b9
          go_wp2
          go_ret
          exact ⟨rfl, K9.out⟩
        · have q1 : ((g : Int) == 65535) = true := by simp; omega
          have hnx : ¬ nxt (rdyF (st.set x (g, false, .int .i64 0))) 0 (st.set x (g, false, .int .i64 0)).length < (st.set x (g, false, .int .i64 0)).length := by
            rw [HRD.out, if_neg hgm, List.length_set]; omega
          have HP := Lib.hid (Int.tput_full 2 w5 T5.out X5.out hnx)
          clear hnx hgm
          go_wp2_with fail
          refine HP.out.mono ?_
          rintro e w7 ⟨rfl, b7⟩
          obtain ⟨C, hC⟩ : ∃ C, List.countP alv (st.set x (g, false, .int .i64 0)) = C := ⟨_, rfl⟩
          have hCn : C ≤ n := by
            rw [← hC, ← HSN.out]
            refine Nat.le_trans List.countP_le_length ?_
            simp
          have q3 : decide ((n : Int) < (C : Int)) = false := by simp; omega
          have q4 : decide (n < C) = false := by simp; omega
          have HLN : Hid (∀ m, Calls Tryd.prog 24 #[.pointer (some ⟨p, 0, none⟩)] (w7.drewN m) fun e w' => e = .returned (.int .i64 (C : Int)) ∧ w' = w7.drewN m) := Lib.hid (fun m => (Int.len_ok _ (Tg.below (Tg.below T5.out b7) (below_draw _ m))).mono fun e w' h => ⟨by rw [← hC]; exact h.1, h.2.symm⟩)
          have X7 := Lib.hid (X5.out.below b7)
          have K7 := Lib.hid (K5.out.trans (b7.mono K5.out.size))
          have bx7 := (b7.block _ (blk_lt BX5.out)).trans BX5.out
          have c7 : w7.cell? ⟨w.heap.size, 0, none⟩ = some (.slice ga n gc) := by rw [cell_of_block bx7]; rfl
          have HC := Lib.hid hC
          clear b7 bx7 hC
          go_wp2
          go_quiet ((go_at_call 24; exact Calls.quiet_of_same (HLN.out _)))
          go_wp2_with fail
          refine (awake_ok _ (X7.out.below (below_draw _ _))).mono ?_
          rintro e w9 ⟨rfl, b9⟩
          have K9 := Lib.hid ((K7.out.trans ((below_draw w7 nq).mono K7.out.size)).trans (b9.mono (by have := K7.out.size; exact this)))
          clear b9
          go_wp2
          go_ret
          exact ⟨rfl, K9.out⟩
set_option maxRecDepth 100000 in
set_option maxHeartbeats 1600000 in
theorem law_spent (dr : Nat) (w : World) (hG : SlF w ga n (zI G)) (hA : SlF w aa na (zB A)) (hV : SlF w va nv (zI V)) (hn : n ≤ 9223372036854775807) (hdr : dr ≤ 255) (hT : Tab w) :
    Calls Tryd.prog 8 #[.agg #[.slice ga n gc, .slice aa na ac, .slice va nv vc], .int .u8 (dr : Int)] w fun e w' => e = .returned (.bool true) ∧ Below w.heap.size w w' := by
  have bb := below_box0 w (.cells #[.slice ga n gc, .slice aa na ac, .slice va nv vc] 35)
  by_cases hfar : 60 < n
  · have d1 : decide ((60 : Int) < (n : Int)) = true := by simp; omega
    have d2 : decide (60 < n) = true := by simpa using hfar
    have HB := Lib.hid bb
    have HT := Lib.hid (hT.below bb)
    clear bb hfar hT hG hA hV
    go_enter Tryd.func8, Tryd.ntmps8
    go_wp2_with fail
    refine (awake_ok _ HT.out).mono ?_
    rintro e w1 ⟨rfl, b1⟩
    have HB1 := Lib.hid (HB.out.trans (b1.mono (by simp)))
    clear b1
    go_wp2
    go_ret
    exact ⟨rfl, HB1.out⟩
  · by_cases he : hcE n na nv G A = 0
    · obtain ⟨-, -, rfl, rfl, -⟩ := hcE_zero he
      exact law_spent_ok dr w hG hA hV (by omega) hdr he hT
    · have d1 : decide ((60 : Int) < (n : Int)) = false := by simp; omega
      have d2 : decide (60 < n) = false := by simpa using hfar
      have hb := bne0_true he
      have HE := Lib.hid he
      have HB := Lib.hid bb
      have HT := Lib.hid (hT.below bb)
      have HG := Lib.hid (hG.below bb)
      have HA := Lib.hid (hA.below bb)
      clear bb hfar hT hG hA hV he
      go_enter Tryd.func8, Tryd.ntmps8
      go_wp2_with fail
      refine (Int.load_err _ HG.out HA.out HE.out).mono ?_
      rintro e w1 ⟨rfl, b1⟩
      have HB1 := Lib.hid (HB.out.trans (b1.mono (by simp)))
      have HT1 := Lib.hid (HT.out.below b1)
      clear b1
      go_wp2_with fail
      refine (awake_ok _ HT1.out).mono ?_
      rintro e w2 ⟨rfl, b2⟩
      have HB2 := Lib.hid (HB1.out.trans (b2.mono HB1.out.size))
      clear b2
      go_wp2
      go_ret
      exact ⟨rfl, HB2.out⟩
end
end Go.Proofs.YtpaecmpiokkdnaaDoor
