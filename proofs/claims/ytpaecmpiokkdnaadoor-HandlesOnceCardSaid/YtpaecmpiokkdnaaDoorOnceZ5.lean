/- Handles: HandlesOnce returns true. | The frame of a statement of this seat: the table of math/bits as the row lists it. | The arguments of types HnState[int] and []bool, as a row hands them. | Slices of structs whose fields are one cell each, as a row hands them. | The argument of type []Call, as a row hands it. | HandlesOnce returns true for every input, on every schedule; its arguments read afterwards as they read before. No condition beyond the row's own. -/
import Derived.Test.YtpaecmpiokkdnaaDoorOnceZ4
import Derived.RegionTactic
import Derived.Test.YtpaecmpiokkdnaaDoorCards
import Derived.Test.YtpaecmpiokkdnaaDoorTie
import Derived.Test.YtpaecmpiokkdnaaDoorOnceZ1
import Derived.ProofKit
import Derived.OpenShut
import Derived.Deep.DeepHandedRow
import Derived.Lib.LaidTab
import Derived.Test.YtpaecmpiokkdnaaDoorOnceZ2
import Derived.Lib.SmallJoins
import Derived.Deep.Grids
import Derived.Deep.Slices
import Derived.Deep.Fields
import Derived.ChangeSame
namespace Go.Proofs.YtpaecmpiokkdnaaDoor
open Go.RowKit Go.Sort Go.Joins Go.Shelf
attribute [local go_sem] cell_grow frozen_grow size_grow

theorem knL_h (st : List Slt) (l : List Nat) : kH (knL st l) = hndL st l := by simp [kH, knL, hndL]
theorem knL_v {st : List Slt} (hv : ∀ j, j < st.length → ∃ z : Int, (sAt st j).2.2 = .int .i64 z) : ∀ {l : List Nat}, (∀ j ∈ l, j < st.length) → kV (knL st l) = valL st l
  | [], _ => rfl
  | j :: l, h => by
    obtain ⟨z, hz⟩ := hv j (h j (by simp))
    have ih := knL_v hv (l := l) (fun i hi => h i (by simp [hi]))
    unfold kV knL valL at ih ⊢
    rw [List.map_cons, List.map_cons, List.map_cons, ih, hz]
theorem knL_len (st : List Slt) (l : List Nat) : (knL st l).length = l.length := by simp [knL]
theorem knL_get {st : List Slt} {l : List Nat} {k : Nat} (h : k < l.length) : ∃ u v, (knL st l).getD k (0, false, 0) = (u, true, v) := by
  have e : (knL st l).getD k (0, false, 0) = (hndI st l[k], true, match (sAt st l[k]).2.2 with | .int .i64 z => z | _ => 0) := by simp [knL, List.getD_eq_getElem?_getD, h]; rfl
  exact ⟨_, _, e⟩
theorem take_kn {K : List Kn} {k : Nat} {t : Kn} (h : k < K.length) (e : K.getD k (0, false, 0) = t) : K.take (k + 1) = K.take k ++ [t] := by
  rw [List.take_succ_eq_append_getElem h, ← e, List.getD_eq_getElem?_getD, List.getElem?_eq_getElem h]; rfl
theorem own_at {w : World} {base n m g cap j : Nat} {e : TypeId} {xs : List Value} {u : Value} (h : w.ownsRow base e 1 (.slice (some ⟨g, 0, none⟩) m cap) n xs) (hj : xs[j]? = some u) : w.cell? ⟨g, j, none⟩ = some u := by
  have hmn : m = n := by
    rcases h.2 with ⟨h1, _⟩ | ⟨g', cap', cur, e1, _⟩
    · cases h1
    · simp only [Value.slice.injEq] at e1
      exact e1.2.1
  subst hmn
  have hl := h.1
  have hjl : j < xs.length := (List.getElem?_eq_some_iff.1 hj).1
  rw [h.cellAt j (by omega), hj]
theorem own_free2 {W : World} {base n m : Nat} {e : TypeId} {g cap : Nat} {xs : List Value} (h : W.ownsRow base e 1 (.slice (some ⟨g, 0, none⟩) m cap) n xs) (j : Nat) : W.frozen? ⟨g, j, none⟩ = false := by
  rcases h.2 with ⟨h1, _⟩ | ⟨g', cap', cur, e1, _, e3, _⟩
  · cases h1
  · simp only [Value.slice.injEq, Option.some.injEq, Addr.mk.injEq, and_true, true_and] at e1
    obtain ⟨rfl, _, rfl⟩ := e1
    exact unfrozen_of_block e3 j
section
variable {n na nv m : Nat} {ga aa va ca : Option Addr} {gc ac vc cc : Nat} {G : Nat → Int} {A : Nat → Bool} {V : Nat → Int} {C : Nat → Cll}
set_option maxRecDepth 100000 in
set_option maxHeartbeats 12800000 in
theorem law_once_ok (w : World) (hG : SlF w ga n (zI G)) (hA : SlF w aa n (zB A)) (hV : SlF w va n (zI V)) (hC : SlC w ca m C) (hn : n ≤ 60) (hm : m ≤ 60) (hcb : ∀ j, j < m → (C j).1 ≤ 255 ∧ (C j).2.2.1 ≤ 255) (he : hcE n n n G A = 0) (hT : Tab w) :
    Calls Tryd.prog 6 #[.agg #[.slice ga n gc, .slice aa n ac, .slice va n vc], .slice ca m cc] w fun e w' => e = .returned (.bool true) ∧ Below w.heap.size w w' := by
  obtain ⟨i0, hi0, hz0, hs0, hb0⟩ := info_parts info_i64
  obtain ⟨i1, hi1, hz1, hs1, hb1⟩ := info_parts info_bool'
  obtain ⟨i2, hi2, hz2, hs2, hb2⟩ := info_parts info_int2
  obtain ⟨hn1, -, -, -, hbad⟩ := hcE_zero he
  obtain ⟨st0, hst⟩ : ∃ st, stP n G A (zI V) (.int .i64 0) n = st := ⟨_, rfl⟩
  have hsl : st0.length = n := by rw [← hst, stP_length]
  have hsp0 := SP.start (V := V) hbad
  rw [hst] at hsp0
  have hTl := hT.lt
  have bb := below_box0 w (.cells #[.slice ga n gc, .slice aa n ac, .slice va n vc] 35)
  have HB := Lib.hid bb
  have HG := Lib.hid (hG.below bb)
  have HA := Lib.hid (hA.below bb)
  have HV := Lib.hid (hV.below bb)
  have HCw := Lib.hid hC
  have HCB := Lib.hid hcb
  have HT := Lib.hid (hT.below bb)
  have HTl := Lib.hid hTl
  have HE := Lib.hid he
  have HST := Lib.hid hst
  have HSL := Lib.hid hsl
  have HS0 := Lib.hid hsp0
  have d1 : decide ((60 : Int) < (n : Int)) = false := by simp; omega
  have d2 : decide (60 < n) = false := by simp; omega
  have d3 : decide ((60 : Int) < (m : Int)) = false := by simp; omega
  have d4 : decide (60 < m) = false := by simp; omega
  clear hG hA hV hC hcb hT hTl he hbad hst hsp0 hsl bb
  go_enter Tryd.func6, Tryd.ntmps6
  go_wp2_with fail
  refine (Int.load_ok _ HG.out HA.out HV.out (fun _ => ⟨_, rfl⟩) HE.out).mono ?_
  rintro e w1 ⟨p, q, rfl, t1, b1⟩
  rw [HST.out] at t1
  have hp := Tb.hp t1
  have hq := Tb.hq t1
  simp only [World.size_alloc] at hp hq t1
  have T1 := Lib.hid t1
  have X1 := Lib.hid (HT.out.below b1)
  have B1 := Lib.hid (HB.out.trans (b1.mono (by simp)))
  clear t1 b1
  go_wp2_with fail
  refine (walked_ok _ T1.out (fun j hj => (HS0.out.g j hj).1) (fun j hj => HS0.out.v j hj)).mono ?_
  rintro e w2 ⟨a0, k0, a1, k1, rfl, o0, o1, b2⟩
  have T2 := Lib.hid (Tg.below T1.out b2)
  have X2 := Lib.hid (X1.out.below b2)
  have B2 := Lib.hid (B1.out.trans (b2.mono B1.out.size))
  obtain ⟨N, hN⟩ : ∃ N, (alvL st0 st0.length).length = N := ⟨_, rfl⟩
  obtain ⟨K0, hK0⟩ : ∃ K, knL st0 (alvL st0 st0.length) = K := ⟨_, rfl⟩
  have hcp := alv_len st0
  have hNb : N ≤ n := by rw [← hN, hcp, ← HSL.out]; exact List.countP_le_length
  have hKl : K0.length = N := by rw [← hK0, knL_len, hN]
  have hki := KI.start (by rw [HSL.out]; exact hn) HS0.out.g HS0.out.v
  rw [hK0] at hki
  have hkg : ∀ k, k < N → ∃ u v, K0.getD k (0, false, 0) = (u, true, v) := fun k hk => by rw [← hK0]; exact knL_get (by rw [hN]; exact hk)
  rw [hN] at o0 o1
  rw [← knL_h, hK0] at o0
  rw [← knL_v HS0.out.v (fun j hj => alvL_lt hj), hK0] at o1
  have hsf0 : SlF w2 a0 N (fun j => .int .i64 (K0.getD j (0, false, 0)).1) := SlF.of_own o0 (fun j hj => kH_get (by omega))
  have hsf1 : SlF w2 a1 N (fun j => .int .i64 (K0.getD j (0, false, 0)).2.2) := SlF.of_own o1 (fun j hj => kV_get (by omega))
  obtain ⟨Z, hZ⟩ : ∃ Z, w2.heap.size = Z := ⟨_, rfl⟩
  rw [hN]
  have HSF0 := Lib.hid hsf0
  have HSF1 := Lib.hid hsf1
  have HKI0 := Lib.hid hki
  have HKG := Lib.hid hkg
  have HKL0 := Lib.hid hKl
  have HZ := Lib.hid hZ
  have HWZ : Hid (w.heap.size ≤ Z) := Lib.hid (by rw [← hZ]; exact B2.out.size)
  have HTZ : Hid (0 < Z) := Lib.hid (by have := HTl.out; have := HWZ.out; omega)
  clear b2 o0 o1 hcp hki hkg hKl hsf0 hsf1 hZ hN hK0
  go_wp2
  go_loopw [7, 8, 9, 12] (fun s0 s1 s2 x wr => ∃ (k : Nat) (r0 r1 r2 : Value), r0 = s0 ∧ r1 = s1 ∧ r2 = s2 ∧ k ≤ N ∧ x = .int .i64 k ∧ Hid (RR Z wr (K0.take k) r0 r1 r2) ∧ Hid (KB Z w2 wr)) (fun _ _ _ x _ => N - (intOf x).toNat)
  case atStart => exact ⟨0, _, _, _, rfl, rfl, rfl, Nat.zero_le _, rfl, Lib.hid (by rw [List.take_zero]; exact RR.start _ _), Lib.hid (KB.of_below (Below.refl _ _))⟩
  case round =>
    obtain ⟨k, r0, r1, r2, rfl, rfl, rfl, hk, rfl, HR, HKB⟩ := hrel
    by_cases hlt : k < N
    · obtain ⟨u, v, huv⟩ := HKG.out k hlt
      obtain ⟨gb0, go0, ha0, c0⟩ := HSF0.out.at_ hlt
      obtain ⟨gb1, go1, ha1, c1⟩ := HSF1.out.at_ hlt
      try dsimp only at c0 c1
      rw [huv] at c0 c1
      subst ha0 ha1
      have l0 := World.block_lt_of_cell? _ _ c0
      have l1 := World.block_lt_of_cell? _ _ c1
      dsimp only at l0 l1 c0 c1
      rw [HZ.out] at l0 l1
      have HC0 : Hid (wr.cell? ⟨gb0, go0 + k, none⟩ = some (.int .i64 u)) := Lib.hid ((World.cell?_of_block (w := w2) (HKB.out.old gb0 (by rw [HZ.out]; exact l0) l0)).trans c0)
      have HC1 : Hid (wr.cell? ⟨gb1, go1 + k, none⟩ = some (.int .i64 v)) := Lib.hid ((World.cell?_of_block (w := w2) (HKB.out.old gb1 (by rw [HZ.out]; exact l1) l1)).trans c1)
      have HKS : Hid (K0.take (k + 1) = K0.take k ++ [(u, true, v)]) := Lib.hid (take_kn (by have := HKL0.out; omega) huv)
      have HKL : Hid ((K0.take k).length = k) := Lib.hid (by rw [List.length_take, HKL0.out]; omega)
      have n0 : (0 : Int) ≤ (k : Int) := by omega
      have n1 : (k : Int) < (N : Int) := by omega
      have n2 : decide ((k : Int) < (N : Int)) = true := by simp; omega
      have n3 : decide (k < N) = true := by simpa using hlt
      clear c0 c1 huv
      go_wp2
      refine wp_region_any (by kernel_rfl) ?_
      change wpAny _ _ _ _ _ _ _ (World.drew _)
      refine wpAny_takeD 1 60 (.slice (some ⟨gb0, go0, none⟩) N k0) rfl rfl (by kernel_rfl) (by kernel_rfl) (by kernel_rfl) (fun _ _ _ h => h) (by rfl) (fun w => by go_simp) ?_
      try simp only [Act.put, List.setIfInBounds_toArray, List.set_cons_zero, List.set_cons_succ]
      refine wpAny_takeD 2 61 (.int .i64 (k : Int)) rfl rfl (by kernel_rfl) (by kernel_rfl) (by kernel_rfl) (fun _ _ _ h => h) (by rfl) (fun w => by go_simp) ?_
      try simp only [Act.put, List.setIfInBounds_toArray, List.set_cons_zero, List.set_cons_succ]
      refine wpAny_takeD 3 62 (.pointer (some ⟨gb0, go0 + k, none⟩)) rfl rfl (by kernel_rfl) (by kernel_rfl) (by kernel_rfl) (fun _ _ _ h => h) (by rfl) (fun w => by go_simp) ?_
      try simp only [Act.put, List.setIfInBounds_toArray, List.set_cons_zero, List.set_cons_succ]
      refine wpAny_takeD 11 70 (.slice (some ⟨gb1, go1, none⟩) N k1) rfl rfl (by kernel_rfl) (by kernel_rfl) (by kernel_rfl) (fun _ _ _ h => h) (by rfl) (fun w => by go_simp) ?_
      try simp only [Act.put, List.setIfInBounds_toArray, List.set_cons_zero, List.set_cons_succ]
      refine wpAny_takeD 12 71 (.int .i64 (k : Int)) rfl rfl (by kernel_rfl) (by kernel_rfl) (by kernel_rfl) (fun _ _ _ h => h) (by rfl) (fun w => by go_simp) ?_
      try simp only [Act.put, List.setIfInBounds_toArray, List.set_cons_zero, List.set_cons_succ]
      refine wpAny_takeD 13 72 (.pointer (some ⟨gb1, go1 + k, none⟩)) rfl rfl (by kernel_rfl) (by kernel_rfl) (by kernel_rfl) (fun _ _ _ h => h) (by rfl) (fun w => by go_simp) ?_
      try simp only [Act.put, List.setIfInBounds_toArray, List.set_cons_zero, List.set_cons_succ]
      generalize hWd : World.drew _ = W
      have HWD := Lib.hid hWd
      clear hWd
      have HRR : Hid (RR Z W (K0.take k) r0 r1 r2) := Lib.hid (by rw [← HWD.out]; exact HR.out.below (Below.refl _ _).drew)
      have HO0 : Hid (W.ownsRow Z 2 1 r0 k (kH (K0.take k))) := Lib.hid (by have := HRR.out.o0; rw [HKL.out] at this; exact this)
      have HO1 : Hid (W.ownsRow Z 4 1 r1 k (kA (K0.take k))) := Lib.hid (by have := HRR.out.o1; rw [HKL.out] at this; exact this)
      have HO2 : Hid (W.ownsRow Z 3 1 r2 k (kV (K0.take k))) := Lib.hid (by have := HRR.out.o2; rw [HKL.out] at this; exact this)
      have HKBW : Hid (KB Z w2 W) := Lib.hid (by rw [← HWD.out]; exact HKB.out.trans (KB.of_below (Below.refl _ _).drew))
      have HE0 : Hid (W.cell? ⟨gb0, go0 + k, none⟩ = some (.int .i64 u)) := Lib.hid (by rw [← HWD.out]; exact HC0.out)
      have HE1 : Hid (W.cell? ⟨gb1, go1 + k, none⟩ = some (.int .i64 v)) := Lib.hid (by rw [← HWD.out]; exact HC1.out)
      have HZW : Hid (Z ≤ W.heap.size) := Lib.hid (by have := HKBW.out.size; have := HZ.out; omega)
      refine wpAny_named (fun A0 hA0 => ?_)
      have HA0 := Lib.hid hA0
      clear hA0
      have HCELL : Hid (∀ (d0 d1 d2 : ChDyn) (wx : World), Chains W [((ChSpec.mk Z 2 2 r0 k (kH (K0.take k)) (.int .i64 u) [.int .i64 u]), d0), ((ChSpec.mk Z 4 4 r1 k (kA (K0.take k)) (.bool true) [.bool true]), d1), ((ChSpec.mk Z 3 3 r2 k (kV (K0.take k)) (.int .i64 v) [.int .i64 v]), d2)] wx → wx.cell? ⟨gb0, go0 + k, none⟩ = some (.int .i64 u) ∧ wx.cell? ⟨gb1, go1 + k, none⟩ = some (.int .i64 v)) := Lib.hid (by
        intro d0 d1 d2 wx HC
        have hrow : ∀ k, k < W.heap.size → (((ChSpec.mk Z 2 2 r0 k (kH (K0.take k)) (.int .i64 u) [.int .i64 u])).row.ownBlock ≠ some k ∧ ((ChSpec.mk Z 4 4 r1 k (kA (K0.take k)) (.bool true) [.bool true])).row.ownBlock ≠ some k ∧ ((ChSpec.mk Z 3 3 r2 k (kV (K0.take k)) (.int .i64 v) [.int .i64 v])).row.ownBlock ≠ some k) → wx.heap[k]? = W.heap[k]? := fun k hk hn => HC.block k hk (by
          intro c hc
          simp only [List.mem_cons, List.not_mem_nil, or_false] at hc
          rcases hc with rfl | rfl | rfl
          · exact hn.1
          · exact hn.2.1
          · exact hn.2.2
        )
        refine ⟨(World.cell?_of_block (w := W) (hrow gb0 (by have := HZW.out; omega) ⟨fun e => by have := (HRR.out.o0.lt _ e).1; omega, fun e => by have := (HRR.out.o1.lt _ e).1; omega, fun e => by have := (HRR.out.o2.lt _ e).1; omega⟩)).trans HE0.out, (World.cell?_of_block (w := W) (hrow gb1 (by have := HZW.out; omega) ⟨fun e => by have := (HRR.out.o0.lt _ e).1; omega, fun e => by have := (HRR.out.o1.lt _ e).1; omega, fun e => by have := (HRR.out.o2.lt _ e).1; omega⟩)).trans HE1.out⟩
        )
      refine wpAny_inv (fun l a wx => ∃ (d0 d1 d2 : ChDyn), l = #[d0.r, true, true, true, d0.y, d0.b, d0.a, d1.r, d1.b, d1.a, d2.r, true, true, true, d2.y, d2.b, d2.a, false, false, false] ∧ a = (((((((((((A0.put (some 59) d0.vr).put (some 63) d0.vx).put (some 64) d0.vb).put (some 65) d0.va).put (some 66) d1.vr).put (some 67) d1.vb).put (some 68) d1.va).put (some 69) d2.vr).put (some 73) d2.vx).put (some 74) d2.vb).put (some 75) d2.va) ∧ ((d1.a = true → d0.a = true) ∧ (d2.a = true → d1.a = true)) ∧ Chains W [((ChSpec.mk Z 2 2 r0 k (kH (K0.take k)) (.int .i64 u) [.int .i64 u]), d0), ((ChSpec.mk Z 4 4 r1 k (kA (K0.take k)) (.bool true) [.bool true]), d1), ((ChSpec.mk Z 3 3 r2 k (kV (K0.take k)) (.int .i64 v) [.int .i64 v]), d2)] wx) (by kernel_rfl) (by rintro l a wx ⟨_, _, _, rfl, _, _⟩; rfl) ?step _ _ _ _ (by kernel_rfl) ?start
      case start =>
        refine ⟨ChDyn.new (ChSpec.mk Z 2 2 r0 k (kH (K0.take k)) (.int .i64 u) [.int .i64 u]) (A0.tmps[59]?.getD undef) (A0.tmps[63]?.getD undef) (A0.tmps[64]?.getD undef) (A0.tmps[65]?.getD undef), ChDyn.new (ChSpec.mk Z 4 4 r1 k (kA (K0.take k)) (.bool true) [.bool true]) (A0.tmps[66]?.getD undef) undef (A0.tmps[67]?.getD undef) (A0.tmps[68]?.getD undef), ChDyn.new (ChSpec.mk Z 3 3 r2 k (kV (K0.take k)) (.int .i64 v) [.int .i64 v]) (A0.tmps[69]?.getD undef) (A0.tmps[73]?.getD undef) (A0.tmps[74]?.getD undef) (A0.tmps[75]?.getD undef), rfl, ?_, ⟨(fun h => by cases h), (fun h => by cases h)⟩, ?_⟩
        · simp only [ChDyn.new, put_self]
        · exact (((Chains.nil W).add (ChSpec.mk Z 3 3 r2 k (kV (K0.take k)) (.int .i64 v) [.int .i64 v]) _ _ _ _ HO2.out (fun gk hg c hc => by cases hc)).add (ChSpec.mk Z 4 4 r1 k (kA (K0.take k)) (.bool true) [.bool true]) _ _ _ _ HO1.out (fun gk hg c hc => by simp only [List.mem_cons, List.not_mem_nil, or_false] at hc; subst hc; exact fun hm => HRR.out.n12 gk hg (by simpa [ChDyn.new] using hm))).add (ChSpec.mk Z 2 2 r0 k (kH (K0.take k)) (.int .i64 u) [.int .i64 u]) _ _ _ _ HO0.out (fun gk hg c hc => by simp only [List.mem_cons, List.not_mem_nil, or_false] at hc; rcases hc with rfl | rfl; exact fun hm => HRR.out.n01 gk hg (by simpa [ChDyn.new] using hm); exact fun hm => HRR.out.n02 gk hg (by simpa [ChDyn.new] using hm))
      case step =>
        rintro l a wx ⟨⟨cr0, cy0, cb0, ca0, cvr0, cvx0, cvb0, cva0, cu0⟩, ⟨cr1, cy1, cb1, ca1, cvr1, cvx1, cvb1, cva1, cu1⟩, ⟨cr2, cy2, cb2, ca2, cvr2, cvx2, cvb2, cva2, cu2⟩, rfl, rfl, HACH, HC⟩
        have hA0 := HA0.out
        subst hA0
        clear HA0
        have HE := HCELL.out _ _ _ _ HC
        clear HCELL
        have q0 := HE.1
        have q1 := HE.2
        have hsz := HC.size
        by_cases hdone : ca0 = true ∧ ca1 = true ∧ ca2 = true
        · left
          obtain ⟨rfl, rfl, rfl⟩ := hdone
          obtain ⟨z1, z2, z3, g0, cap0, z4, hu0, own0⟩ := (Chains.at0 HC).done rfl
          dsimp only at z1 z2 z3 z4
          subst z1 z2 z3 z4
          obtain ⟨z1, z2, z3, g1, cap1, z4, hu1, own1⟩ := (Chains.at1 HC).done rfl
          dsimp only at z1 z2 z3 z4
          subst z1 z2 z3 z4
          obtain ⟨z1, z2, z3, g2, cap2, z4, hu2, own2⟩ := (Chains.at2 HC).done rfl
          dsimp only at z1 z2 z3 z4
          subst z1 z2 z3 z4
          refine wpAny_fuel 3 (by kernel_rfl) ?_
          simp only [Act.put, List.setIfInBounds_toArray, List.set_cons_zero, List.set_cons_succ]
          have HCC := Lib.hid HC
          clear HC
          refine wpAny_ready (rs := [17]) (by kernel_rfl) (by simp) (AllReady.cons rfl (fun K hK => ?_) AllReady.nil)
          go_simp
          refine hK _ _ ?_
          clear hK K
          refine wpAny_ready (rs := [18]) (by kernel_rfl) (by simp) (AllReady.cons rfl (fun K hK => ?_) AllReady.nil)
          go_simp
          refine hK _ _ ?_
          clear hK K
          refine wpAny_ready (rs := [19]) (by kernel_rfl) (by simp) (AllReady.cons rfl (fun K hK => ?_) AllReady.nil)
          go_simp
          refine hK _ _ ?_
          clear hK K
          refine wpAny_done (by kernel_rfl) ?_ _
          go_wp2
          have hnx := RR.next HKL.out HCC.out own0 own1 own2 hu0 hu1 hu2
          rw [← HKS.out] at hnx
          refine ⟨⟨k + 1, _, _, _, rfl, rfl, rfl, by omega, by simp, Lib.hid hnx, Lib.hid (HKBW.out.trans (KB.chains HRR.out HCC.out))⟩, by simp [intOf]; omega⟩
        · right
          refine ⟨openOps_pos (i := 19) (by decide) rfl, fun i hi => ?_⟩
          obtain ⟨ho, hlt⟩ := ready_open hi
          have hlt2 : i < 20 := hlt
          rcases (by omega : i = 0 ∨ i = 1 ∨ i = 2 ∨ i = 3 ∨ i = 4 ∨ i = 5 ∨ i = 6 ∨ i = 7 ∨ i = 8 ∨ i = 9 ∨ i = 10 ∨ i = 11 ∨ i = 12 ∨ i = 13 ∨ i = 14 ∨ i = 15 ∨ i = 16 ∨ i = 17 ∨ i = 18 ∨ i = 19) with rfl | rfl | rfl | rfl | rfl | rfl | rfl | rfl | rfl | rfl | rfl | rfl | rfl | rfl | rfl | rfl | rfl | rfl | rfl | rfl
          · refine wpOp_step rfl (fun K hK => ?_)
            simp only [Act.put, List.setIfInBounds_toArray, List.set_cons_zero, List.set_cons_succ]
            go_simp
            refine hK _ _ ⟨⟨true, cy0, cb0, ca0, ((ChSpec.mk Z 2 2 r0 k (kH (K0.take k)) (.int .i64 u) [.int .i64 u])).row, cvx0, cvb0, cva0, cu0⟩, ⟨cr1, cy1, cb1, ca1, cvr1, cvx1, cvb1, cva1, cu1⟩, ⟨cr2, cy2, cb2, ca2, cvr2, cvx2, cvb2, cva2, cu2⟩, ?_, ?_, HACH, ?_⟩
            · rfl
            · simp only [Act.put, List.setIfInBounds_toArray, List.set_cons_zero, List.set_cons_succ]
            · exact Chains.r0 HC
          · exact absurd (show true = false from ho) (by decide)
          · exact absurd (show true = false from ho) (by decide)
          · exact absurd (show true = false from ho) (by decide)
          · refine wpOp_step rfl (fun K hK => ?_)
            simp only [Act.put, List.setIfInBounds_toArray, List.set_cons_zero, List.set_cons_succ]
            go_simp
            refine hK _ _ ⟨⟨cr0, true, cb0, ca0, cvr0, ((ChSpec.mk Z 2 2 r0 k (kH (K0.take k)) (.int .i64 u) [.int .i64 u])).x, cvb0, cva0, cu0⟩, ⟨cr1, cy1, cb1, ca1, cvr1, cvx1, cvb1, cva1, cu1⟩, ⟨cr2, cy2, cb2, ca2, cvr2, cvx2, cvb2, cva2, cu2⟩, ?_, ?_, HACH, ?_⟩
            · rfl
            · simp only [Act.put, List.setIfInBounds_toArray, List.set_cons_zero, List.set_cons_succ]
            · exact Chains.y0 HC
          · have hY : cy0 = true := needs_ready (j := 4) hi (by kernel_rfl)
            have hb0 : cb0 = false := ho
            have hx := (Chains.at0 HC).val hY
            have ha0 : ca0 = false := by
              cases hq : ca0 with
              | false => rfl
              | true => have := ((Chains.at0 HC).done hq).2.2.1; dsimp only at this; rw [hb0] at this; cases this
            dsimp only at hx
            subst hx
            refine wpOp_step rfl (fun K hK => ?_)
            simp only [Act.put, List.setIfInBounds_toArray, List.set_cons_zero, List.set_cons_succ]
            go_simp
            refine hK _ _ ⟨⟨cr0, cy0, true, ca0, cvr0, ((ChSpec.mk Z 2 2 r0 k (kH (K0.take k)) (.int .i64 u) [.int .i64 u])).x, (.slice (some ⟨wx.heap.size, 0, none⟩) 1 1), cva0, (wx.heap.size :: cu0)⟩, ⟨cr1, cy1, cb1, ca1, cvr1, cvx1, cvb1, cva1, cu1⟩, ⟨cr2, cy2, cb2, ca2, cvr2, cvx2, cvb2, cva2, cu2⟩, ?_, ?_, HACH, ?_⟩
            · rfl
            · simp only [Act.put, List.setIfInBounds_toArray, List.set_cons_zero, List.set_cons_succ]
            · exact Chains.b0 HC ha0 hY
          · have hR : cr0 = true := needs_ready (j := 0) hi (by kernel_rfl)
            have hbq : cb0 = true := needs_ready (j := 5) hi (by kernel_rfl)
            have ha0 : ca0 = false := ho
            have hat0 := Chains.at0 HC
            have hr := (hat0.row hR).symm
            obtain ⟨gl, hvb, hgu, hlit⟩ := hat0.lit hbq ha0
            dsimp only at hr hvb
            subst hr hvb
            refine wpOp_step rfl (fun K hK => ?_)
            simp only [Act.put, List.setIfInBounds_toArray, List.set_cons_zero, List.set_cons_succ]
            refine (if_pos (show Region.wanted _ _ = true from rfl)).mpr ?_
            refine wp_append_lies wx (.tmp 59) (.tmp 64) 51 (by rfl) Z 2 i0 (.int .i64 0) 1 8 Tryd.underlying51 hi0 hz0 hs0 hb0 rfl (by decide) ((ChSpec.mk Z 2 2 r0 k (kH (K0.take k)) (.int .i64 u) [.int .i64 u])).row k ((ChSpec.mk Z 2 2 r0 k (kH (K0.take k)) (.int .i64 u) [.int .i64 u])).xs (by rfl) (hat0.own ha0) ⟨gl, 0, none⟩ 1 1 ((ChSpec.mk Z 2 2 r0 k (kH (K0.take k)) (.int .i64 u) [.int .i64 u])).xc (by rfl) (by rfl) (World.news_of_block hlit) (by intro u hu; simp at hu; subst hu; rfl) (by decide) (by simp only [maxLen]; omega) (by omega) (by have := HZW.out; omega) wx.heap.size rfl ?_
            intro gn cap w1 hown hgrow hat hlt1
            refine hK _ _ ⟨⟨cr0, cy0, cb0, true, ((ChSpec.mk Z 2 2 r0 k (kH (K0.take k)) (.int .i64 u) [.int .i64 u])).row, cvx0, (.slice (some ⟨gl, 0, none⟩) 1 1), (.slice (some ⟨gn, 0, none⟩) (k + 1) cap), (gn :: cu0)⟩, ⟨cr1, cy1, cb1, ca1, cvr1, cvx1, cvb1, cva1, cu1⟩, ⟨cr2, cy2, cb2, ca2, cvr2, cvx2, cvb2, cva2, cu2⟩, ?_, ?_, ⟨(fun _ => rfl), HACH.2⟩, ?_⟩
            · rfl
            · simp only [List.getElem_toArray, List.getElem_cons_succ, List.getElem_cons_zero, Act.put, List.setIfInBounds_toArray, List.set_cons_zero, List.set_cons_succ]
            · exact Chains.a0 HC hR hbq hown hgrow hat hlt1
          · refine wpOp_step rfl (fun K hK => ?_)
            simp only [Act.put, List.setIfInBounds_toArray, List.set_cons_zero, List.set_cons_succ]
            go_simp
            refine hK _ _ ⟨⟨cr0, cy0, cb0, ca0, cvr0, cvx0, cvb0, cva0, cu0⟩, ⟨true, cy1, cb1, ca1, ((ChSpec.mk Z 4 4 r1 k (kA (K0.take k)) (.bool true) [.bool true])).row, cvx1, cvb1, cva1, cu1⟩, ⟨cr2, cy2, cb2, ca2, cvr2, cvx2, cvb2, cva2, cu2⟩, ?_, ?_, HACH, ?_⟩
            · rfl
            · simp only [Act.put, List.setIfInBounds_toArray, List.set_cons_zero, List.set_cons_succ]
            · exact Chains.r1 HC
          · have hb0 : cb1 = false := ho
            have ha0 : ca1 = false := by
              cases hq : ca1 with
              | false => rfl
              | true => have := ((Chains.at1 HC).done hq).2.2.1; dsimp only at this; rw [hb0] at this; cases this
            refine wpOp_step rfl (fun K hK => ?_)
            simp only [Act.put, List.setIfInBounds_toArray, List.set_cons_zero, List.set_cons_succ]
            go_simp
            refine hK _ _ ⟨⟨cr0, cy0, cb0, ca0, cvr0, cvx0, cvb0, cva0, cu0⟩, ⟨cr1, true, true, ca1, cvr1, ((ChSpec.mk Z 4 4 r1 k (kA (K0.take k)) (.bool true) [.bool true])).x, (.slice (some ⟨wx.heap.size, 0, none⟩) 1 1), cva1, (wx.heap.size :: cu1)⟩, ⟨cr2, cy2, cb2, ca2, cvr2, cvx2, cvb2, cva2, cu2⟩, ?_, ?_, HACH, ?_⟩
            · rfl
            · simp only [Act.put, List.setIfInBounds_toArray, List.set_cons_zero, List.set_cons_succ]
            · exact Chains.b1 (Chains.y1 HC) ha0 rfl
          · have hR : cr1 = true := needs_ready (j := 7) hi (by kernel_rfl)
            have hbq : cb1 = true := needs_ready (j := 8) hi (by kernel_rfl)
            have ha0 : ca1 = false := ho
            have hat0 := Chains.at1 HC
            have hr := (hat0.row hR).symm
            obtain ⟨gl, hvb, hgu, hlit⟩ := hat0.lit hbq ha0
            dsimp only at hr hvb
            subst hr hvb
            refine wpOp_step rfl (fun K hK => ?_)
            simp only [Act.put, List.setIfInBounds_toArray, List.set_cons_zero, List.set_cons_succ]
            refine (if_pos (show Region.wanted _ _ = true from rfl)).mpr ?_
            refine wp_append_lies wx (.tmp 66) (.tmp 67) 33 (by rfl) Z 4 i1 (.bool false) 1 1 Tryd.underlying33 hi1 hz1 hs1 hb1 rfl (by decide) ((ChSpec.mk Z 4 4 r1 k (kA (K0.take k)) (.bool true) [.bool true])).row k ((ChSpec.mk Z 4 4 r1 k (kA (K0.take k)) (.bool true) [.bool true])).xs (by rfl) (hat0.own ha0) ⟨gl, 0, none⟩ 1 1 ((ChSpec.mk Z 4 4 r1 k (kA (K0.take k)) (.bool true) [.bool true])).xc (by rfl) (by rfl) (World.news_of_block hlit) (by intro u hu; simp at hu; subst hu; rfl) (by decide) (by simp only [maxLen]; omega) (by omega) (by have := HZW.out; omega) wx.heap.size rfl ?_
            intro gn cap w1 hown hgrow hat hlt1
            have hprev : ca0 = true := needs_ready (j := 6) hi (by kernel_rfl)
            refine hK _ _ ⟨⟨cr0, cy0, cb0, ca0, cvr0, cvx0, cvb0, cva0, cu0⟩, ⟨cr1, cy1, cb1, true, ((ChSpec.mk Z 4 4 r1 k (kA (K0.take k)) (.bool true) [.bool true])).row, cvx1, (.slice (some ⟨gl, 0, none⟩) 1 1), (.slice (some ⟨gn, 0, none⟩) (k + 1) cap), (gn :: cu1)⟩, ⟨cr2, cy2, cb2, ca2, cvr2, cvx2, cvb2, cva2, cu2⟩, ?_, ?_, ⟨(fun _ => hprev), (fun _ => rfl)⟩, ?_⟩
            · rfl
            · simp only [List.getElem_toArray, List.getElem_cons_succ, List.getElem_cons_zero, Act.put, List.setIfInBounds_toArray, List.set_cons_zero, List.set_cons_succ]
            · exact Chains.a1 HC hR hbq hown hgrow hat hlt1
          · refine wpOp_step rfl (fun K hK => ?_)
            simp only [Act.put, List.setIfInBounds_toArray, List.set_cons_zero, List.set_cons_succ]
            go_simp
            refine hK _ _ ⟨⟨cr0, cy0, cb0, ca0, cvr0, cvx0, cvb0, cva0, cu0⟩, ⟨cr1, cy1, cb1, ca1, cvr1, cvx1, cvb1, cva1, cu1⟩, ⟨true, cy2, cb2, ca2, ((ChSpec.mk Z 3 3 r2 k (kV (K0.take k)) (.int .i64 v) [.int .i64 v])).row, cvx2, cvb2, cva2, cu2⟩, ?_, ?_, HACH, ?_⟩
            · rfl
            · simp only [Act.put, List.setIfInBounds_toArray, List.set_cons_zero, List.set_cons_succ]
            · exact Chains.r2 HC
          · exact absurd (show true = false from ho) (by decide)
          · exact absurd (show true = false from ho) (by decide)
          · exact absurd (show true = false from ho) (by decide)
          · refine wpOp_step rfl (fun K hK => ?_)
            simp only [Act.put, List.setIfInBounds_toArray, List.set_cons_zero, List.set_cons_succ]
            go_simp
            refine hK _ _ ⟨⟨cr0, cy0, cb0, ca0, cvr0, cvx0, cvb0, cva0, cu0⟩, ⟨cr1, cy1, cb1, ca1, cvr1, cvx1, cvb1, cva1, cu1⟩, ⟨cr2, true, cb2, ca2, cvr2, ((ChSpec.mk Z 3 3 r2 k (kV (K0.take k)) (.int .i64 v) [.int .i64 v])).x, cvb2, cva2, cu2⟩, ?_, ?_, HACH, ?_⟩
            · rfl
            · simp only [Act.put, List.setIfInBounds_toArray, List.set_cons_zero, List.set_cons_succ]
            · exact Chains.y2 HC
          · have hY : cy2 = true := needs_ready (j := 14) hi (by kernel_rfl)
            have hb0 : cb2 = false := ho
            have hx := (Chains.at2 HC).val hY
            have ha0 : ca2 = false := by
              cases hq : ca2 with
              | false => rfl
              | true => have := ((Chains.at2 HC).done hq).2.2.1; dsimp only at this; rw [hb0] at this; cases this
            dsimp only at hx
            subst hx
            refine wpOp_step rfl (fun K hK => ?_)
            simp only [Act.put, List.setIfInBounds_toArray, List.set_cons_zero, List.set_cons_succ]
            go_simp
            refine hK _ _ ⟨⟨cr0, cy0, cb0, ca0, cvr0, cvx0, cvb0, cva0, cu0⟩, ⟨cr1, cy1, cb1, ca1, cvr1, cvx1, cvb1, cva1, cu1⟩, ⟨cr2, cy2, true, ca2, cvr2, ((ChSpec.mk Z 3 3 r2 k (kV (K0.take k)) (.int .i64 v) [.int .i64 v])).x, (.slice (some ⟨wx.heap.size, 0, none⟩) 1 1), cva2, (wx.heap.size :: cu2)⟩, ?_, ?_, HACH, ?_⟩
            · rfl
            · simp only [Act.put, List.setIfInBounds_toArray, List.set_cons_zero, List.set_cons_succ]
            · exact Chains.b2 HC ha0 hY
          · have hR : cr2 = true := needs_ready (j := 10) hi (by kernel_rfl)
            have hbq : cb2 = true := needs_ready (j := 15) hi (by kernel_rfl)
            have ha0 : ca2 = false := ho
            have hat0 := Chains.at2 HC
            have hr := (hat0.row hR).symm
            obtain ⟨gl, hvb, hgu, hlit⟩ := hat0.lit hbq ha0
            dsimp only at hr hvb
            subst hr hvb
            refine wpOp_step rfl (fun K hK => ?_)
            simp only [Act.put, List.setIfInBounds_toArray, List.set_cons_zero, List.set_cons_succ]
            refine (if_pos (show Region.wanted _ _ = true from rfl)).mpr ?_
            refine wp_append_lies wx (.tmp 69) (.tmp 74) 32 (by rfl) Z 3 i2 (.int .i64 0) 1 8 Tryd.underlying32 hi2 hz2 hs2 hb2 rfl (by decide) ((ChSpec.mk Z 3 3 r2 k (kV (K0.take k)) (.int .i64 v) [.int .i64 v])).row k ((ChSpec.mk Z 3 3 r2 k (kV (K0.take k)) (.int .i64 v) [.int .i64 v])).xs (by rfl) (hat0.own ha0) ⟨gl, 0, none⟩ 1 1 ((ChSpec.mk Z 3 3 r2 k (kV (K0.take k)) (.int .i64 v) [.int .i64 v])).xc (by rfl) (by rfl) (World.news_of_block hlit) (by intro u hu; simp at hu; subst hu; rfl) (by decide) (by simp only [maxLen]; omega) (by omega) (by have := HZW.out; omega) wx.heap.size rfl ?_
            intro gn cap w1 hown hgrow hat hlt1
            have hprev : ca1 = true := needs_ready (j := 9) hi (by kernel_rfl)
            refine hK _ _ ⟨⟨cr0, cy0, cb0, ca0, cvr0, cvx0, cvb0, cva0, cu0⟩, ⟨cr1, cy1, cb1, ca1, cvr1, cvx1, cvb1, cva1, cu1⟩, ⟨cr2, cy2, cb2, true, ((ChSpec.mk Z 3 3 r2 k (kV (K0.take k)) (.int .i64 v) [.int .i64 v])).row, cvx2, (.slice (some ⟨gl, 0, none⟩) 1 1), (.slice (some ⟨gn, 0, none⟩) (k + 1) cap), (gn :: cu2)⟩, ?_, ?_, ⟨HACH.1, (fun _ => hprev)⟩, ?_⟩
            · rfl
            · simp only [List.getElem_toArray, List.getElem_cons_succ, List.getElem_cons_zero, Act.put, List.setIfInBounds_toArray, List.set_cons_zero, List.set_cons_succ]
            · exact Chains.a2 HC hR hbq hown hgrow hat hlt1
          · have hA2 : ca2 = true := needs_ready (j := 16) hi (by kernel_rfl)
            have hA1 : ca1 = true := HACH.2 hA2
            have hA0 : ca0 = true := HACH.1 hA1
            exact absurd ⟨hA0, hA1, hA2⟩ hdone
          · exact absurd (show false = true from needs_ready (j := 17) hi (by kernel_rfl)) (by decide)
          · exact absurd (show false = true from needs_ready (j := 18) hi (by kernel_rfl)) (by decide)
    · have n2 : decide ((k : Int) < (N : Int)) = false := by simp; omega
      have n3 : decide (k < N) = false := by simpa using hlt
      obtain rfl : k = N := by omega
      have hr := HR.out
      rw [List.take_of_length_le (by rw [HKL0.out]; exact Nat.le_refl _)] at hr
      have HR1 := Lib.hid hr
      have HT3 := Lib.hid (HKB.out.tt T2.out)
      have HX3 := Lib.hid (HKB.out.tab X2.out HTZ.out)
      have HK3 := Lib.hid (HKB.out.below B2.out HWZ.out B2.out.size)
      have HZ3 : Hid (Z ≤ wr.heap.size) := Lib.hid (by have := HKB.out.size; have := HZ.out; omega)
      clear hr HR HKB
      go_wp2
      go_loopw [7, 8, 9, 13] (fun s0 s1 s2 x wr => ∃ (k : Nat) (r0 r1 r2 : Value) (st : List Slt) (KK : List Kn), r0 = s0 ∧ r1 = s1 ∧ r2 = s2 ∧ k ≤ m ∧ x = .int .i64 k ∧ Hid (KI st KK) ∧ Hid (Int.TT wr (w.heap.size + 1) p q st) ∧ Hid (Tab wr) ∧ Hid (Below w.heap.size w wr) ∧ Hid (RR Z wr KK r0 r1 r2) ∧ KK.length ≤ 60 + k ∧ Hid (Z ≤ wr.heap.size)) (fun _ _ _ x _ => m - (intOf x).toNat)
      case atStart => exact ⟨0, _, _, _, st0, K0, rfl, rfl, rfl, Nat.zero_le _, rfl, HKI0, HT3, HX3, HK3, HR1, by have := HKL0.out; omega, HZ3⟩
      case round =>
        clear T1 X1 B1 T2 X2 B2 HR1 HT3 HX3 HK3 HZ3 HKI0 HKG HSF0 HSF1 HKL0
        obtain ⟨k, r0, r1, r2, st, KK, rfl, rfl, rfl, hk, rfl, HKI, HT4, HX4, HK4, HR4, hKl, HZ4⟩ := hrel
        by_cases hlt : k < m
        · obtain ⟨cb, co, hca, hcc⟩ := HCw.out.resolve_left (by omega)
          obtain ⟨hc0, hc1, hc2, hc3⟩ := hcc k hlt
          obtain ⟨hw1, ho1⟩ := HCB.out k hlt
          subst hca
          obtain ⟨⟨wh, hh, oo, vv⟩, hCk⟩ : ∃ c, C k = c := ⟨_, rfl⟩
          rw [hCk] at hc0 hc1 hc2 hc3 hw1 ho1
          dsimp only at hc0 hc1 hc2 hc3 hw1 ho1
          have hcl := World.block_lt_of_cell? _ _ hc0
          dsimp only at hcl
          have c0 := (HK4.out.cell (p := ⟨cb, co + k * 4, none⟩) hcl).trans hc0
          have c1 := (HK4.out.cell (p := ⟨cb, co + k * 4 + 1, none⟩) hcl).trans hc1
          have c2 := (HK4.out.cell (p := ⟨cb, co + k * 4 + 2, none⟩) hcl).trans hc2
          have c3 := (HK4.out.cell (p := ⟨cb, co + k * 4 + 3, none⟩) hcl).trans hc3
          obtain ⟨n2, hn2⟩ : ∃ n2, KK.length = n2 := ⟨_, rfl⟩
          have hr4 := HR4.out
          have e0 := hr4.o0
          have e1 := hr4.o1
          have e2 := hr4.o2
          rw [hn2] at e0 e1 e2 hKl
          obtain ⟨u0, q0, rfl⟩ := own_slice e0
          obtain ⟨u1, q1, rfl⟩ := own_slice e1
          obtain ⟨u2, q2, rfl⟩ := own_slice e2
          have HSF : Hid (SlF wr u0 n2 (fun j => .int .i64 (KK.getD j (0, false, 0)).1)) := Lib.hid (SlF.of_own e0 (fun j hj => kH_get (by omega)))
          have HKN := Lib.hid hn2
          obtain ⟨r, hr⟩ : ∃ r : Nat, wh % 6 = r := ⟨_, rfl⟩
          have hr6 : r < 6 := by rw [← hr]; exact Nat.mod_lt _ (by decide)
          have m1 : (wh : Int) % 6 = (r : Int) := by omega
          have wh0 : (0 : Int) ≤ (wh : Int) := by omega
          have wh1 : (wh : Int) ≤ 255 := by omega
          have z0 : (0 : Int) ≤ (k : Int) := by omega
          have z1 : (k : Int) < (m : Int) := by omega
          have z2 : decide ((k : Int) < (m : Int)) = true := by simp; omega
          have z3 : decide (k < m) = true := by simpa using hlt
          have HM1 := Lib.hid m1
          clear hc0 hc1 hc2 hc3 hcc hCk hn2 hr4 e0 e1 e2 hr m1
          go_wp2_with fail
          refine (handle_ok (wh, hh, oo, vv) _ (HSF.out.below (below_box0 _ _)) HKN.out (by omega) (by dsimp only; omega)).mono ?_
          rintro e w3 ⟨rfl, b3⟩
          obtain ⟨h, hhd⟩ : ∃ h, hndC hh oo KK = h := ⟨_, rfl⟩
          rw [hhd]
          have bbx : Below wr.heap.size wr w3 := (below_box0 _ _).trans (b3.mono (by simp))
          have T3 := Lib.hid (Tg.below HT4.out bbx)
          have X3 := Lib.hid (HX4.out.below bbx)
          have K3 := Lib.hid (HK4.out.trans (bbx.mono HK4.out.size))
          have R3 := Lib.hid (HR4.out.below bbx)
          have Z3 : Hid (Z ≤ w3.heap.size) := Lib.hid (by have := bbx.size; have := HZ4.out; omega)
          have BX3 := Lib.hid ((b3.block _ (by simp)).trans (heap_alloc_new wr (.cells #[.int .u8 (wh : Int), .int .i64 hh, .int .u8 (oo : Int), .int .i64 vv] 55)))
          have SF3 := Lib.hid (HSF.out.below bbx)
          have hpl := World.block_lt_of_cell? _ _ (Tb.c0 HT4.out)
          have hql := blk_lt (Tb.slots HT4.out)
          dsimp only at hpl
          have b30 : w3.cell? ⟨wr.heap.size, 0, none⟩ = some (.int .u8 (wh : Int)) := by rw [cell_of_block BX3.out]; rfl
          have b33 : w3.cell? ⟨wr.heap.size, 3, none⟩ = some (.int .i64 vv) := by rw [cell_of_block BX3.out]; rfl
          clear hhd b3 bbx c0 c1 c2 c3 HT4 HX4 HK4 HR4 HZ4 HSF z0 z1 z2 z3
          go_wp2
          go_loop [16, 17] (fun s x => ∃ (j : Nat) (a : Int), j ≤ n2 ∧ x = .int .i64 j ∧ s = .int .i64 a ∧ Hid (AtR KK h j a)) (fun _ x => n2 - (intOf x).toNat)
          case atStart => exact ⟨0, -1, Nat.zero_le _, rfl, rfl, Lib.hid (AtR.zero KK h)⟩
          case round =>
            obtain ⟨j, a, hj, rfl, rfl, HAT⟩ := hrel
            by_cases hjl : j < n2
            · obtain ⟨gb, go, hga, cg⟩ := SF3.out.at_ hjl
              subst hga
              try dsimp only at cg
              obtain ⟨z, hz⟩ : ∃ z, (KK.getD j (0, false, 0)).1 = z := ⟨_, rfl⟩
              rw [hz] at cg
              have j0 : (0 : Int) ≤ (j : Int) := by omega
              have j1 : (j : Int) < (n2 : Int) := by omega
              have j2 : decide ((j : Int) < (n2 : Int)) = true := by simp; omega
              have j3 : decide (j < n2) = true := by simpa using hjl
              have HZj := Lib.hid hz
              clear hz
              by_cases heq : z = h
              · have q : (z == h) = true := by simpa using heq
                have HEQ := Lib.hid heq
                clear heq
                go_wp2
                go_round
                case rel => exact ⟨j + 1, j, by omega, by go_num, rfl, Lib.hid (AtR.yes (HZj.out.trans HEQ.out))⟩
                case measure => simp [intOf]; omega
              · have q : (z == h) = false := by simpa using heq
                have HNE := Lib.hid heq
                clear heq
                go_wp2
                go_round
                case rel => exact ⟨j + 1, a, by omega, by go_num, rfl, Lib.hid (AtR.no HAT.out (by rw [HZj.out]; exact HNE.out))⟩
                case measure => simp [intOf]; omega
            · have j2 : decide ((j : Int) < (n2 : Int)) = false := by simp; omega
              have j3 : decide (j < n2) = false := by simpa using hjl
              obtain rfl : n2 = j := by omega
              have hrm := HM1.out
              by_cases hr2 : r < 2
              · have qa : decide ((r : Int) < 2) = true := by simp; omega
                have qb : decide (r < 2) = true := by simpa using hr2
                by_cases hfull : nxt (rdyF st) 0 st.length < st.length
                · obtain ⟨i, hi⟩ : ∃ i, nxt (rdyF st) 0 st.length = i := ⟨_, rfl⟩
                  rw [hi] at hfull
                  have hri := Int.next_at hi hfull
                  obtain ⟨_, hal, hg9⟩ := Int.rdyF_at hri
                  obtain ⟨g, hg⟩ : ∃ g, (st.getD i (0, false, undef)).1 = g := ⟨_, rfl⟩
                  have hput := Int.tput_ok i vv w3 T3.out X3.out hi hfull
                  rw [hg] at hput hg9
                  obtain ⟨hki, hnw⟩ := KI.put HKI.out hfull hg hg9 hal vv
                  obtain ⟨hnew, hhn⟩ : ∃ z : Int, ((g : Int) + 1) * 65536 + i = z := ⟨_, rfl⟩
                  rw [hhn] at hput hki hnw
                  have HP := Lib.hid hput
                  have HKI5 := Lib.hid hki
                  have HNEW := Lib.hid hnw
                  clear hput hki hnw hhn hg hal hri hi hg9 hfull
                  go_wp2_with fail
                  refine HP.out.mono ?_
                  rintro e w5 ⟨rfl, t5, f5⟩
                  have HT5 := Lib.hid t5
                  have HX5 := Lib.hid (X3.out.fr f5 (by have := HTl.out; omega) (by have := HTl.out; omega))
                  have HK5 := Lib.hid (Fr.below K3.out f5 (by omega) (by omega) K3.out.size)
                  have HR5 := Lib.hid (R3.out.fr T3.out f5)
                  have HBX5 := Lib.hid ((f5.block _ (blk_lt BX3.out) (by omega) (by omega)).trans BX3.out)
                  have HZ5 : Hid (Z ≤ w5.heap.size) := Lib.hid (Nat.le_trans Z3.out f5.size)
                  have SF5 : Hid (SlF w5 u0 n2 (fun j => .int .i64 (KK.getD j (0, false, 0)).1)) := Lib.hid (SlF.of_own (by have := HR5.out.o0; rw [HKN.out] at this; exact this) (fun j hj => kH_get (by have := HKN.out; omega)))
                  clear t5 f5 b30 b33
                  go_wp2
                  go_loop [18] (fun x => ∃ j : Nat, j ≤ n2 ∧ x = .int .i64 j) (fun x => n2 - (intOf x).toNat)
                  case atStart => exact ⟨0, Nat.zero_le _, rfl⟩
                  case round =>
                    obtain ⟨j, hj, rfl⟩ := hrel
                    by_cases hjl : j < n2
                    · obtain ⟨gb, go, hga, cg⟩ := SF5.out.at_ hjl
                      subst hga
                      try dsimp only at cg
                      obtain ⟨z, hz⟩ : ∃ z, (KK.getD j (0, false, 0)).1 = z := ⟨_, rfl⟩
                      rw [hz] at cg
                      have hzn : z ≠ hnew := by rw [← hz]; exact HNEW.out _ (getD_mem (by have := HKN.out; omega))
                      have q : (z == hnew) = false := by simpa using hzn
                      have j0 : (0 : Int) ≤ (j : Int) := by omega
                      have j1 : (j : Int) < (n2 : Int) := by omega
                      have j2 : decide ((j : Int) < (n2 : Int)) = true := by simp; omega
                      have j3 : decide (j < n2) = true := by simpa using hjl
                      clear hz hzn
                      go_wp2
                      go_round
                      case rel => exact ⟨j + 1, by omega, by go_num⟩
                      case measure => simp [intOf]; omega
                    · have j2 : decide ((j : Int) < (n2 : Int)) = false := by simp; omega
                      have j3 : decide (j < n2) = false := by simpa using hjl
                      obtain rfl : n2 = j := by omega
                      go_wp2
                      refine wp_region_any (by kernel_rfl) ?_
                      change wpAny _ _ _ _ _ _ _ (World.drew _)
                      refine wpAny_takeD 1 133 (.int .i64 hnew) rfl rfl (by kernel_rfl) (by kernel_rfl) (by kernel_rfl) (fun _ _ _ h => h) (by rfl) (fun w => by go_simp) ?_
                      try simp only [Act.put, List.setIfInBounds_toArray, List.set_cons_zero, List.set_cons_succ]
                      refine wpAny_takeD 8 140 (.pointer (some ⟨wr.heap.size, 3, none⟩)) rfl rfl (by kernel_rfl) (by kernel_rfl) (by kernel_rfl) (fun _ _ _ h => h) (by rfl) (fun w => by go_simp) ?_
                      try simp only [Act.put, List.setIfInBounds_toArray, List.set_cons_zero, List.set_cons_succ]
                      generalize hWd : World.drew _ = W
                      have HWD := Lib.hid hWd
                      clear hWd
                      have HRR : Hid (RR Z W KK (.slice u0 n2 q0) (.slice u1 n2 q1) (.slice u2 n2 q2)) := Lib.hid (by rw [← HWD.out]; exact HR5.out.below (Below.refl _ _).drew)
                      have HO0 : Hid (W.ownsRow Z 2 1 (.slice u0 n2 q0) n2 (kH KK)) := Lib.hid (by have := HRR.out.o0; rw [HKN.out] at this; exact this)
                      have HO1 : Hid (W.ownsRow Z 4 1 (.slice u1 n2 q1) n2 (kA KK)) := Lib.hid (by have := HRR.out.o1; rw [HKN.out] at this; exact this)
                      have HO2 : Hid (W.ownsRow Z 3 1 (.slice u2 n2 q2) n2 (kV KK)) := Lib.hid (by have := HRR.out.o2; rw [HKN.out] at this; exact this)
                      have HT6 : Hid (Int.TT W (w.heap.size + 1) p q (st.set i (g + 1, true, .int .i64 vv))) := Lib.hid (by rw [← HWD.out]; exact Tg.below HT5.out (Below.refl _ _).drew)
                      have HX6 : Hid (Tab W) := Lib.hid (by rw [← HWD.out]; exact HX5.out.below (Below.refl _ _).drew)
                      have HK6 : Hid (Below w.heap.size w W) := Lib.hid (by rw [← HWD.out]; exact HK5.out.trans ((Below.refl _ _).drew))
                      have HBX : Hid (W.heap[wr.heap.size]? = some (.cells #[.int .u8 (wh : Int), .int .i64 hh, .int .u8 (oo : Int), .int .i64 vv] 55 (0, 0))) := Lib.hid (by rw [← HWD.out]; exact HBX5.out)
                      have HZW : Hid (Z ≤ W.heap.size) := Lib.hid (by have : W.heap.size = w5.heap.size := (by rw [← HWD.out]; rfl); have := HZ5.out; omega)
                      refine wpAny_named (fun A0 hA0 => ?_)
                      have HA0 := Lib.hid hA0
                      clear hA0
                      have HCELL : Hid (∀ (d0 d1 d2 : ChDyn) (wx : World), Chains W [((ChSpec.mk Z 2 2 (.slice u0 n2 q0) n2 (kH KK) (.int .i64 hnew) [.int .i64 hnew]), d0), ((ChSpec.mk Z 4 4 (.slice u1 n2 q1) n2 (kA KK) (.bool true) [.bool true]), d1), ((ChSpec.mk Z 3 3 (.slice u2 n2 q2) n2 (kV KK) (.int .i64 vv) [.int .i64 vv]), d2)] wx → wx.cell? ⟨wr.heap.size, 3, none⟩ = some (.int .i64 vv)) := Lib.hid (by
                        intro d0 d1 d2 wx HC
                        have hrow : ∀ k, k < W.heap.size → (((ChSpec.mk Z 2 2 (.slice u0 n2 q0) n2 (kH KK) (.int .i64 hnew) [.int .i64 hnew])).row.ownBlock ≠ some k ∧ ((ChSpec.mk Z 4 4 (.slice u1 n2 q1) n2 (kA KK) (.bool true) [.bool true])).row.ownBlock ≠ some k ∧ ((ChSpec.mk Z 3 3 (.slice u2 n2 q2) n2 (kV KK) (.int .i64 vv) [.int .i64 vv])).row.ownBlock ≠ some k) → wx.heap[k]? = W.heap[k]? := fun k hk hn => HC.block k hk (by
                          intro c hc
                          simp only [List.mem_cons, List.not_mem_nil, or_false] at hc
                          rcases hc with rfl | rfl | rfl
                          · exact hn.1
                          · exact hn.2.1
                          · exact hn.2.2
                        )
                        rw [World.cell?_of_block (w := W) (hrow wr.heap.size (by have := blk_lt HBX.out; omega) ⟨own_ne HRR.out.o0 HBX.out (by decide), own_ne HRR.out.o1 HBX.out (by decide), own_ne HRR.out.o2 HBX.out (by decide)⟩), cell_of_block HBX.out]; rfl
                        )
                      refine wpAny_inv (fun l a wx => ∃ (d0 d1 d2 : ChDyn), l = #[d0.r, true, d0.b, d0.a, d1.r, d1.b, d1.a, d2.r, true, d2.y, d2.b, d2.a, false, false, false] ∧ a = ((((((((((A0.put (some 132) d0.vr).put (some 134) d0.vb).put (some 135) d0.va).put (some 136) d1.vr).put (some 137) d1.vb).put (some 138) d1.va).put (some 139) d2.vr).put (some 141) d2.vx).put (some 142) d2.vb).put (some 143) d2.va) ∧ ((d1.a = true → d0.a = true) ∧ (d2.a = true → d1.a = true)) ∧ Chains W [((ChSpec.mk Z 2 2 (.slice u0 n2 q0) n2 (kH KK) (.int .i64 hnew) [.int .i64 hnew]), d0), ((ChSpec.mk Z 4 4 (.slice u1 n2 q1) n2 (kA KK) (.bool true) [.bool true]), d1), ((ChSpec.mk Z 3 3 (.slice u2 n2 q2) n2 (kV KK) (.int .i64 vv) [.int .i64 vv]), d2)] wx) (by kernel_rfl) (by rintro l a wx ⟨_, _, _, rfl, _, _⟩; rfl) ?step _ _ _ _ (by kernel_rfl) ?start
                      case start =>
                        refine ⟨ChDyn.new (ChSpec.mk Z 2 2 (.slice u0 n2 q0) n2 (kH KK) (.int .i64 hnew) [.int .i64 hnew]) (A0.tmps[132]?.getD undef) undef (A0.tmps[134]?.getD undef) (A0.tmps[135]?.getD undef), ChDyn.new (ChSpec.mk Z 4 4 (.slice u1 n2 q1) n2 (kA KK) (.bool true) [.bool true]) (A0.tmps[136]?.getD undef) undef (A0.tmps[137]?.getD undef) (A0.tmps[138]?.getD undef), ChDyn.new (ChSpec.mk Z 3 3 (.slice u2 n2 q2) n2 (kV KK) (.int .i64 vv) [.int .i64 vv]) (A0.tmps[139]?.getD undef) (A0.tmps[141]?.getD undef) (A0.tmps[142]?.getD undef) (A0.tmps[143]?.getD undef), rfl, ?_, ⟨(fun h => by cases h), (fun h => by cases h)⟩, ?_⟩
                        · simp only [ChDyn.new, put_self]
                        · exact (((Chains.nil W).add (ChSpec.mk Z 3 3 (.slice u2 n2 q2) n2 (kV KK) (.int .i64 vv) [.int .i64 vv]) _ _ _ _ HO2.out (fun gk hg c hc => by cases hc)).add (ChSpec.mk Z 4 4 (.slice u1 n2 q1) n2 (kA KK) (.bool true) [.bool true]) _ _ _ _ HO1.out (fun gk hg c hc => by simp only [List.mem_cons, List.not_mem_nil, or_false] at hc; subst hc; exact fun hm => HRR.out.n12 gk hg (by simpa [ChDyn.new] using hm))).add (ChSpec.mk Z 2 2 (.slice u0 n2 q0) n2 (kH KK) (.int .i64 hnew) [.int .i64 hnew]) _ _ _ _ HO0.out (fun gk hg c hc => by simp only [List.mem_cons, List.not_mem_nil, or_false] at hc; rcases hc with rfl | rfl; exact fun hm => HRR.out.n01 gk hg (by simpa [ChDyn.new] using hm); exact fun hm => HRR.out.n02 gk hg (by simpa [ChDyn.new] using hm))
                      case step =>
                        rintro l a wx ⟨⟨cr0, cy0, cb0, ca0, cvr0, cvx0, cvb0, cva0, cu0⟩, ⟨cr1, cy1, cb1, ca1, cvr1, cvx1, cvb1, cva1, cu1⟩, ⟨cr2, cy2, cb2, ca2, cvr2, cvx2, cvb2, cva2, cu2⟩, rfl, rfl, HACH, HC⟩
                        have hA0 := HA0.out
                        subst hA0
                        clear HA0
                        have HE := HCELL.out _ _ _ _ HC
                        clear HCELL
                        have qx := HE
                        have hsz := HC.size
                        by_cases hdone : ca0 = true ∧ ca1 = true ∧ ca2 = true
                        · left
                          obtain ⟨rfl, rfl, rfl⟩ := hdone
                          obtain ⟨z1, z2, z3, g0, cap0, z4, hu0, own0⟩ := (Chains.at0 HC).done rfl
                          dsimp only at z1 z2 z3 z4
                          subst z1 z2 z3 z4
                          obtain ⟨z1, z2, z3, g1, cap1, z4, hu1, own1⟩ := (Chains.at1 HC).done rfl
                          dsimp only at z1 z2 z3 z4
                          subst z1 z2 z3 z4
                          obtain ⟨z1, z2, z3, g2, cap2, z4, hu2, own2⟩ := (Chains.at2 HC).done rfl
                          dsimp only at z1 z2 z3 z4
                          subst z1 z2 z3 z4
                          refine wpAny_fuel 3 (by kernel_rfl) ?_
                          simp only [Act.put, List.setIfInBounds_toArray, List.set_cons_zero, List.set_cons_succ]
                          have HCC := Lib.hid HC
                          clear HC
                          refine wpAny_ready (rs := [12]) (by kernel_rfl) (by simp) (AllReady.cons rfl (fun K hK => ?_) AllReady.nil)
                          go_simp
                          refine hK _ _ ?_
                          clear hK K
                          refine wpAny_ready (rs := [13]) (by kernel_rfl) (by simp) (AllReady.cons rfl (fun K hK => ?_) AllReady.nil)
                          go_simp
                          refine hK _ _ ?_
                          clear hK K
                          refine wpAny_ready (rs := [14]) (by kernel_rfl) (by simp) (AllReady.cons rfl (fun K hK => ?_) AllReady.nil)
                          go_simp
                          refine hK _ _ ?_
                          clear hK K
                          refine wpAny_done (by kernel_rfl) ?_ _
                          go_wp2
                          refine ⟨⟨k + 1, _, _, _, st.set i (g + 1, true, .int .i64 vv), KK ++ [(hnew, true, vv)], rfl, rfl, rfl, by omega, by simp, HKI5, Lib.hid ((KB.chains HRR.out HCC.out).tt HT6.out), Lib.hid ((KB.chains HRR.out HCC.out).tab HX6.out HTZ.out), Lib.hid ((KB.chains HRR.out HCC.out).below HK6.out HWZ.out (Nat.le_trans HWZ.out HZW.out)), Lib.hid (RR.next HKN.out HCC.out own0 own1 own2 hu0 hu1 hu2), by rw [List.length_append]; have := HKN.out; simp; omega, Lib.hid (Nat.le_trans HZW.out HCC.out.size)⟩, by simp [intOf]; omega⟩
                        · right
                          refine ⟨openOps_pos (i := 14) (by decide) rfl, fun i hi => ?_⟩
                          obtain ⟨ho, hlt⟩ := ready_open hi
                          have hlt2 : i < 15 := hlt
                          rcases (by omega : i = 0 ∨ i = 1 ∨ i = 2 ∨ i = 3 ∨ i = 4 ∨ i = 5 ∨ i = 6 ∨ i = 7 ∨ i = 8 ∨ i = 9 ∨ i = 10 ∨ i = 11 ∨ i = 12 ∨ i = 13 ∨ i = 14) with rfl | rfl | rfl | rfl | rfl | rfl | rfl | rfl | rfl | rfl | rfl | rfl | rfl | rfl | rfl
                          · refine wpOp_step rfl (fun K hK => ?_)
                            simp only [Act.put, List.setIfInBounds_toArray, List.set_cons_zero, List.set_cons_succ]
                            go_simp
                            refine hK _ _ ⟨⟨true, cy0, cb0, ca0, ((ChSpec.mk Z 2 2 (.slice u0 n2 q0) n2 (kH KK) (.int .i64 hnew) [.int .i64 hnew])).row, cvx0, cvb0, cva0, cu0⟩, ⟨cr1, cy1, cb1, ca1, cvr1, cvx1, cvb1, cva1, cu1⟩, ⟨cr2, cy2, cb2, ca2, cvr2, cvx2, cvb2, cva2, cu2⟩, ?_, ?_, HACH, ?_⟩
                            · rfl
                            · simp only [Act.put, List.setIfInBounds_toArray, List.set_cons_zero, List.set_cons_succ]
                            · exact Chains.r0 HC
                          · exact absurd (show true = false from ho) (by decide)
                          · have hb0 : cb0 = false := ho
                            have ha0 : ca0 = false := by
                              cases hq : ca0 with
                              | false => rfl
                              | true => have := ((Chains.at0 HC).done hq).2.2.1; dsimp only at this; rw [hb0] at this; cases this
                            refine wpOp_step rfl (fun K hK => ?_)
                            simp only [Act.put, List.setIfInBounds_toArray, List.set_cons_zero, List.set_cons_succ]
                            go_simp
                            refine hK _ _ ⟨⟨cr0, true, true, ca0, cvr0, ((ChSpec.mk Z 2 2 (.slice u0 n2 q0) n2 (kH KK) (.int .i64 hnew) [.int .i64 hnew])).x, (.slice (some ⟨wx.heap.size, 0, none⟩) 1 1), cva0, (wx.heap.size :: cu0)⟩, ⟨cr1, cy1, cb1, ca1, cvr1, cvx1, cvb1, cva1, cu1⟩, ⟨cr2, cy2, cb2, ca2, cvr2, cvx2, cvb2, cva2, cu2⟩, ?_, ?_, HACH, ?_⟩
                            · rfl
                            · simp only [Act.put, List.setIfInBounds_toArray, List.set_cons_zero, List.set_cons_succ]
                            · exact Chains.b0 (Chains.y0 HC) ha0 rfl
                          · have hR : cr0 = true := needs_ready (j := 0) hi (by kernel_rfl)
                            have hbq : cb0 = true := needs_ready (j := 2) hi (by kernel_rfl)
                            have ha0 : ca0 = false := ho
                            have hat0 := Chains.at0 HC
                            have hr := (hat0.row hR).symm
                            obtain ⟨gl, hvb, hgu, hlit⟩ := hat0.lit hbq ha0
                            dsimp only at hr hvb
                            subst hr hvb
                            refine wpOp_step rfl (fun K hK => ?_)
                            simp only [Act.put, List.setIfInBounds_toArray, List.set_cons_zero, List.set_cons_succ]
                            refine (if_pos (show Region.wanted _ _ = true from rfl)).mpr ?_
                            refine wp_append_lies wx (.tmp 132) (.tmp 134) 51 (by rfl) Z 2 i0 (.int .i64 0) 1 8 Tryd.underlying51 hi0 hz0 hs0 hb0 rfl (by decide) ((ChSpec.mk Z 2 2 (.slice u0 n2 q0) n2 (kH KK) (.int .i64 hnew) [.int .i64 hnew])).row n2 ((ChSpec.mk Z 2 2 (.slice u0 n2 q0) n2 (kH KK) (.int .i64 hnew) [.int .i64 hnew])).xs (by rfl) (hat0.own ha0) ⟨gl, 0, none⟩ 1 1 ((ChSpec.mk Z 2 2 (.slice u0 n2 q0) n2 (kH KK) (.int .i64 hnew) [.int .i64 hnew])).xc (by rfl) (by rfl) (World.news_of_block hlit) (by intro u hu; simp at hu; subst hu; rfl) (by decide) (by simp only [maxLen]; omega) (by omega) (by have := HZW.out; omega) wx.heap.size rfl ?_
                            intro gn cap w1 hown hgrow hat hlt1
                            refine hK _ _ ⟨⟨cr0, cy0, cb0, true, ((ChSpec.mk Z 2 2 (.slice u0 n2 q0) n2 (kH KK) (.int .i64 hnew) [.int .i64 hnew])).row, cvx0, (.slice (some ⟨gl, 0, none⟩) 1 1), (.slice (some ⟨gn, 0, none⟩) (n2 + 1) cap), (gn :: cu0)⟩, ⟨cr1, cy1, cb1, ca1, cvr1, cvx1, cvb1, cva1, cu1⟩, ⟨cr2, cy2, cb2, ca2, cvr2, cvx2, cvb2, cva2, cu2⟩, ?_, ?_, ⟨(fun _ => rfl), HACH.2⟩, ?_⟩
                            · rfl
                            · simp only [List.getElem_toArray, List.getElem_cons_succ, List.getElem_cons_zero, Act.put, List.setIfInBounds_toArray, List.set_cons_zero, List.set_cons_succ]
                            · exact Chains.a0 HC hR hbq hown hgrow hat hlt1
                          · refine wpOp_step rfl (fun K hK => ?_)
                            simp only [Act.put, List.setIfInBounds_toArray, List.set_cons_zero, List.set_cons_succ]
                            go_simp
                            refine hK _ _ ⟨⟨cr0, cy0, cb0, ca0, cvr0, cvx0, cvb0, cva0, cu0⟩, ⟨true, cy1, cb1, ca1, ((ChSpec.mk Z 4 4 (.slice u1 n2 q1) n2 (kA KK) (.bool true) [.bool true])).row, cvx1, cvb1, cva1, cu1⟩, ⟨cr2, cy2, cb2, ca2, cvr2, cvx2, cvb2, cva2, cu2⟩, ?_, ?_, HACH, ?_⟩
                            · rfl
                            · simp only [Act.put, List.setIfInBounds_toArray, List.set_cons_zero, List.set_cons_succ]
                            · exact Chains.r1 HC
                          · have hb0 : cb1 = false := ho
                            have ha0 : ca1 = false := by
                              cases hq : ca1 with
                              | false => rfl
                              | true => have := ((Chains.at1 HC).done hq).2.2.1; dsimp only at this; rw [hb0] at this; cases this
                            refine wpOp_step rfl (fun K hK => ?_)
                            simp only [Act.put, List.setIfInBounds_toArray, List.set_cons_zero, List.set_cons_succ]
                            go_simp
                            refine hK _ _ ⟨⟨cr0, cy0, cb0, ca0, cvr0, cvx0, cvb0, cva0, cu0⟩, ⟨cr1, true, true, ca1, cvr1, ((ChSpec.mk Z 4 4 (.slice u1 n2 q1) n2 (kA KK) (.bool true) [.bool true])).x, (.slice (some ⟨wx.heap.size, 0, none⟩) 1 1), cva1, (wx.heap.size :: cu1)⟩, ⟨cr2, cy2, cb2, ca2, cvr2, cvx2, cvb2, cva2, cu2⟩, ?_, ?_, HACH, ?_⟩
                            · rfl
                            · simp only [Act.put, List.setIfInBounds_toArray, List.set_cons_zero, List.set_cons_succ]
                            · exact Chains.b1 (Chains.y1 HC) ha0 rfl
                          · have hR : cr1 = true := needs_ready (j := 4) hi (by kernel_rfl)
                            have hbq : cb1 = true := needs_ready (j := 5) hi (by kernel_rfl)
                            have ha0 : ca1 = false := ho
                            have hat0 := Chains.at1 HC
                            have hr := (hat0.row hR).symm
                            obtain ⟨gl, hvb, hgu, hlit⟩ := hat0.lit hbq ha0
                            dsimp only at hr hvb
                            subst hr hvb
                            refine wpOp_step rfl (fun K hK => ?_)
                            simp only [Act.put, List.setIfInBounds_toArray, List.set_cons_zero, List.set_cons_succ]
                            refine (if_pos (show Region.wanted _ _ = true from rfl)).mpr ?_
                            refine wp_append_lies wx (.tmp 136) (.tmp 137) 33 (by rfl) Z 4 i1 (.bool false) 1 1 Tryd.underlying33 hi1 hz1 hs1 hb1 rfl (by decide) ((ChSpec.mk Z 4 4 (.slice u1 n2 q1) n2 (kA KK) (.bool true) [.bool true])).row n2 ((ChSpec.mk Z 4 4 (.slice u1 n2 q1) n2 (kA KK) (.bool true) [.bool true])).xs (by rfl) (hat0.own ha0) ⟨gl, 0, none⟩ 1 1 ((ChSpec.mk Z 4 4 (.slice u1 n2 q1) n2 (kA KK) (.bool true) [.bool true])).xc (by rfl) (by rfl) (World.news_of_block hlit) (by intro u hu; simp at hu; subst hu; rfl) (by decide) (by simp only [maxLen]; omega) (by omega) (by have := HZW.out; omega) wx.heap.size rfl ?_
                            intro gn cap w1 hown hgrow hat hlt1
                            have hprev : ca0 = true := needs_ready (j := 3) hi (by kernel_rfl)
                            refine hK _ _ ⟨⟨cr0, cy0, cb0, ca0, cvr0, cvx0, cvb0, cva0, cu0⟩, ⟨cr1, cy1, cb1, true, ((ChSpec.mk Z 4 4 (.slice u1 n2 q1) n2 (kA KK) (.bool true) [.bool true])).row, cvx1, (.slice (some ⟨gl, 0, none⟩) 1 1), (.slice (some ⟨gn, 0, none⟩) (n2 + 1) cap), (gn :: cu1)⟩, ⟨cr2, cy2, cb2, ca2, cvr2, cvx2, cvb2, cva2, cu2⟩, ?_, ?_, ⟨(fun _ => hprev), (fun _ => rfl)⟩, ?_⟩
                            · rfl
                            · simp only [List.getElem_toArray, List.getElem_cons_succ, List.getElem_cons_zero, Act.put, List.setIfInBounds_toArray, List.set_cons_zero, List.set_cons_succ]
                            · exact Chains.a1 HC hR hbq hown hgrow hat hlt1
                          · refine wpOp_step rfl (fun K hK => ?_)
                            simp only [Act.put, List.setIfInBounds_toArray, List.set_cons_zero, List.set_cons_succ]
                            go_simp
                            refine hK _ _ ⟨⟨cr0, cy0, cb0, ca0, cvr0, cvx0, cvb0, cva0, cu0⟩, ⟨cr1, cy1, cb1, ca1, cvr1, cvx1, cvb1, cva1, cu1⟩, ⟨true, cy2, cb2, ca2, ((ChSpec.mk Z 3 3 (.slice u2 n2 q2) n2 (kV KK) (.int .i64 vv) [.int .i64 vv])).row, cvx2, cvb2, cva2, cu2⟩, ?_, ?_, HACH, ?_⟩
                            · rfl
                            · simp only [Act.put, List.setIfInBounds_toArray, List.set_cons_zero, List.set_cons_succ]
                            · exact Chains.r2 HC
                          · exact absurd (show true = false from ho) (by decide)
                          · refine wpOp_step rfl (fun K hK => ?_)
                            simp only [Act.put, List.setIfInBounds_toArray, List.set_cons_zero, List.set_cons_succ]
                            go_simp
                            refine hK _ _ ⟨⟨cr0, cy0, cb0, ca0, cvr0, cvx0, cvb0, cva0, cu0⟩, ⟨cr1, cy1, cb1, ca1, cvr1, cvx1, cvb1, cva1, cu1⟩, ⟨cr2, true, cb2, ca2, cvr2, ((ChSpec.mk Z 3 3 (.slice u2 n2 q2) n2 (kV KK) (.int .i64 vv) [.int .i64 vv])).x, cvb2, cva2, cu2⟩, ?_, ?_, HACH, ?_⟩
                            · rfl
                            · simp only [Act.put, List.setIfInBounds_toArray, List.set_cons_zero, List.set_cons_succ]
                            · exact Chains.y2 HC
                          · have hY : cy2 = true := needs_ready (j := 9) hi (by kernel_rfl)
                            have hb0 : cb2 = false := ho
                            have hx := (Chains.at2 HC).val hY
                            have ha0 : ca2 = false := by
                              cases hq : ca2 with
                              | false => rfl
                              | true => have := ((Chains.at2 HC).done hq).2.2.1; dsimp only at this; rw [hb0] at this; cases this
                            dsimp only at hx
                            subst hx
                            refine wpOp_step rfl (fun K hK => ?_)
                            simp only [Act.put, List.setIfInBounds_toArray, List.set_cons_zero, List.set_cons_succ]
                            go_simp
                            refine hK _ _ ⟨⟨cr0, cy0, cb0, ca0, cvr0, cvx0, cvb0, cva0, cu0⟩, ⟨cr1, cy1, cb1, ca1, cvr1, cvx1, cvb1, cva1, cu1⟩, ⟨cr2, cy2, true, ca2, cvr2, ((ChSpec.mk Z 3 3 (.slice u2 n2 q2) n2 (kV KK) (.int .i64 vv) [.int .i64 vv])).x, (.slice (some ⟨wx.heap.size, 0, none⟩) 1 1), cva2, (wx.heap.size :: cu2)⟩, ?_, ?_, HACH, ?_⟩
                            · rfl
                            · simp only [Act.put, List.setIfInBounds_toArray, List.set_cons_zero, List.set_cons_succ]
                            · exact Chains.b2 HC ha0 hY
                          · have hR : cr2 = true := needs_ready (j := 7) hi (by kernel_rfl)
                            have hbq : cb2 = true := needs_ready (j := 10) hi (by kernel_rfl)
                            have ha0 : ca2 = false := ho
                            have hat0 := Chains.at2 HC
                            have hr := (hat0.row hR).symm
                            obtain ⟨gl, hvb, hgu, hlit⟩ := hat0.lit hbq ha0
                            dsimp only at hr hvb
                            subst hr hvb
                            refine wpOp_step rfl (fun K hK => ?_)
                            simp only [Act.put, List.setIfInBounds_toArray, List.set_cons_zero, List.set_cons_succ]
                            refine (if_pos (show Region.wanted _ _ = true from rfl)).mpr ?_
                            refine wp_append_lies wx (.tmp 139) (.tmp 142) 32 (by rfl) Z 3 i2 (.int .i64 0) 1 8 Tryd.underlying32 hi2 hz2 hs2 hb2 rfl (by decide) ((ChSpec.mk Z 3 3 (.slice u2 n2 q2) n2 (kV KK) (.int .i64 vv) [.int .i64 vv])).row n2 ((ChSpec.mk Z 3 3 (.slice u2 n2 q2) n2 (kV KK) (.int .i64 vv) [.int .i64 vv])).xs (by rfl) (hat0.own ha0) ⟨gl, 0, none⟩ 1 1 ((ChSpec.mk Z 3 3 (.slice u2 n2 q2) n2 (kV KK) (.int .i64 vv) [.int .i64 vv])).xc (by rfl) (by rfl) (World.news_of_block hlit) (by intro u hu; simp at hu; subst hu; rfl) (by decide) (by simp only [maxLen]; omega) (by omega) (by have := HZW.out; omega) wx.heap.size rfl ?_
                            intro gn cap w1 hown hgrow hat hlt1
                            have hprev : ca1 = true := needs_ready (j := 6) hi (by kernel_rfl)
                            refine hK _ _ ⟨⟨cr0, cy0, cb0, ca0, cvr0, cvx0, cvb0, cva0, cu0⟩, ⟨cr1, cy1, cb1, ca1, cvr1, cvx1, cvb1, cva1, cu1⟩, ⟨cr2, cy2, cb2, true, ((ChSpec.mk Z 3 3 (.slice u2 n2 q2) n2 (kV KK) (.int .i64 vv) [.int .i64 vv])).row, cvx2, (.slice (some ⟨gl, 0, none⟩) 1 1), (.slice (some ⟨gn, 0, none⟩) (n2 + 1) cap), (gn :: cu2)⟩, ?_, ?_, ⟨HACH.1, (fun _ => hprev)⟩, ?_⟩
                            · rfl
                            · simp only [List.getElem_toArray, List.getElem_cons_succ, List.getElem_cons_zero, Act.put, List.setIfInBounds_toArray, List.set_cons_zero, List.set_cons_succ]
                            · exact Chains.a2 HC hR hbq hown hgrow hat hlt1
                          · have hA2 : ca2 = true := needs_ready (j := 11) hi (by kernel_rfl)
                            have hA1 : ca1 = true := HACH.2 hA2
                            have hA0 : ca0 = true := HACH.1 hA1
                            exact absurd ⟨hA0, hA1, hA2⟩ hdone
                          · exact absurd (show false = true from needs_ready (j := 12) hi (by kernel_rfl)) (by decide)
                          · exact absurd (show false = true from needs_ready (j := 13) hi (by kernel_rfl)) (by decide)
                · have HF := Lib.hid hfull
                  clear hfull
                  go_wp2_with fail
                  refine (Int.tput_full vv _ T3.out X3.out HF.out).mono ?_
                  rintro e w5 ⟨rfl, b5⟩
                  have HT5 := Lib.hid (Tg.below T3.out b5)
                  have HX5 := Lib.hid (X3.out.below b5)
                  have HK5 := Lib.hid (K3.out.trans (b5.mono K3.out.size))
                  have HR5 := Lib.hid (R3.out.below b5)
                  have HZ5 : Hid (Z ≤ w5.heap.size) := Lib.hid (Nat.le_trans Z3.out b5.size)
                  clear b5 b30 b33
                  go_wp2
                  go_loop [18] (fun x => x = .int .i64 ((0 : Nat) : Int)) (fun _ => 0)
                  case atStart => rfl
                  case round =>
                    obtain rfl := hrel
                    by_cases hn0 : 0 < n2
                    · have j2 : decide (0 < n2) = true := by simpa using hn0
                      have j3 : decide ((0 : Int) < (n2 : Int)) = true := by simp; omega
                      go_wp2
                      refine ⟨⟨k + 1, _, _, _, st, KK, rfl, rfl, rfl, by omega, by simp, HKI, HT5, HX5, HK5, HR5, by have := HKN.out; omega, HZ5⟩, by simp [intOf]; omega⟩
                    · have j2 : decide (0 < n2) = false := by simpa using hn0
                      have j3 : decide ((0 : Int) < (n2 : Int)) = false := by simp; omega
                      go_wp2
                      refine ⟨⟨k + 1, _, _, _, st, KK, rfl, rfl, rfl, by omega, by simp, HKI, HT5, HX5, HK5, HR5, by have := HKN.out; omega, HZ5⟩, by simp [intOf]; omega⟩
              · have qa : decide ((r : Int) < 2) = false := by simp; omega
                have qb : decide (r < 2) = false := by simpa using hr2
                rcases HAT.out with ⟨ha, _⟩ | ⟨at_, ha, hal, hah⟩
                · subst ha
                  have q3 : decide ((-1 : Int) < 0) = true := by decide
                  go_wp2
                  refine ⟨⟨k + 1, _, _, _, st, KK, rfl, rfl, rfl, by omega, by simp, HKI, T3, X3, K3, R3, by have := HKN.out; omega, Z3⟩, by simp [intOf]; omega⟩
                · subst ha
                  have q3 : decide ((at_ : Int) < 0) = false := by simp
                  have HAH := Lib.hid hah
                  clear hah
                  have a0' : (0 : Int) ≤ (at_ : Int) := by omega
                  have a1' : (at_ : Int) < (n2 : Int) := by omega
                  by_cases hr3 : r = 2
                  · have q4 : ((r : Int) == 3) = false := by simp; omega
                    have q5 : decide (3 < (r : Int)) = false := by simp; omega
                    have q6 : decide (3 < r) = false := by simp; omega
                    have q7 : (r == 3) = false := by simp; omega
                    clear hr3
                    go_wp2
                    refine ⟨⟨k + 1, _, _, _, st, KK, rfl, rfl, rfl, by omega, by simp, HKI, T3, X3, K3, R3, by have := HKN.out; omega, Z3⟩, by simp [intOf]; omega⟩
                  · obtain ⟨⟨th, tal, tv⟩, ht⟩ : ∃ t, KK.getD at_ (0, false, 0) = t := ⟨_, rfl⟩
                    have hkn := HKN.out
                    have hmem := kn_eta (K := KK) (k := at_) (by omega)
                    rw [ht] at hmem
                    have hhe := HAH.out
                    rw [ht] at hhe
                    dsimp only at hhe
                    subst hhe
                    obtain ⟨x, g, hka⟩ := HKI.out.at_ _ (List.mem_iff_getElem?.2 ⟨_, hmem⟩)
                    have hgb := HKI.out.gb x hka.x1
                    have e1 := R3.out.o1
                    have e2 := R3.out.o2
                    rw [hkn] at e1 e2
                    obtain ⟨g1, q1', hf1⟩ := own_form' e1 (by omega)
                    obtain ⟨g2, q2', hf2⟩ := own_form' e2 (by omega)
                    simp only [Value.slice.injEq] at hf1 hf2
                    obtain ⟨rfl, -, rfl⟩ := hf1
                    obtain ⟨rfl, -, rfl⟩ := hf2
                    have HMEM := Lib.hid hmem
                    have HTT := Lib.hid ht
                    have HKA := Lib.hid hka
                    clear hmem ht HAH
                    by_cases hr4 : r = 3
                    · have q4 : ((r : Int) == 3) = true := by simp; omega
                      have q7 : (r == 3) = true := by simpa using hr4
                      cases tal with
                      | true =>
                        obtain ⟨f1, f2, f3⟩ := HKA.out.alive hgb HKI.out.n rfl
                        have f3' : st.getD x (0, false, undef) = (g, true, .int .i64 tv) := f3
                        have hset := Int.set_ok th x vv w3 T3.out f1 f2
                        rw [f3'] at hset
                        have hki := KI.change HKI.out HMEM.out HKA.out (by rw [f3]) (by rw [f3]) true vv vv (fun _ => rfl)
                        dsimp only at hset hki
                        have HS := Lib.hid hset
                        have HKI5 := Lib.hid hki
                        clear hset hki f1 f2 f3 f3' hka e1 e2 hkn hr3 hr4 hgb
                        go_wp2_with fail
                        refine HS.out.mono ?_
                        rintro e w5 ⟨rfl, t5, f5⟩
                        have HT5 := Lib.hid t5
                        have HX5 := Lib.hid (X3.out.fr f5 (by have := HTl.out; omega) (by have := HTl.out; omega))
                        have HK5 := Lib.hid (Fr.below K3.out f5 (by omega) (by omega) K3.out.size)
                        have HR5 := Lib.hid (R3.out.fr T3.out f5)
                        have bx5 := (f5.block _ (blk_lt BX3.out) (by omega) (by omega)).trans BX3.out
                        have HZ5 : Hid (Z ≤ w5.heap.size) := Lib.hid (Nat.le_trans Z3.out f5.size)
                        have b53 : w5.cell? ⟨wr.heap.size, 3, none⟩ = some (.int .i64 vv) := by rw [cell_of_block bx5]; rfl
                        have r5 := HR5.out.o1
                        have s5 := HR5.out.o2
                        have y1 : w5.cell? ⟨g1, at_, none⟩ = some (.bool true) := by
                          have h1 := HKN.out
                          rw [own_at r5 (kA_get (by omega)), HTT.out]
                        have y2 : w5.cell? ⟨g2, at_, none⟩ = some (.int .i64 tv) := by
                          have h1 := HKN.out
                          rw [own_at s5 (kV_get (by omega)), HTT.out]
                        have y3 := own_free2 s5 at_
                        have HKB5 : Hid (KB Z w5 (w5.setCell ⟨g2, at_, none⟩ (.int .i64 vv))) := Lib.hid (KB.set (by have := HR5.out.o2; rw [HKN.out] at this; exact this) (.inr (.inr rfl)) _)
                        have hR6 := HR5.out.setV HKN.out hal vv
                        rw [HTT.out] at hR6
                        have HR6 := Lib.hid hR6
                        clear t5 f5 b30 b33 r5 s5 bx5 hR6
                        go_wp2
                        refine ⟨⟨k + 1, _, _, _, st.set x (g, true, .int .i64 vv), KK.set at_ (th, true, vv), rfl, rfl, rfl, by omega, by simp, HKI5, Lib.hid (HKB5.out.tt HT5.out), Lib.hid (HKB5.out.tab HX5.out HTZ.out), Lib.hid (HKB5.out.below HK5.out HWZ.out (Nat.le_trans HWZ.out HZ5.out)), HR6, by rw [List.length_set]; have := HKN.out; omega, Lib.hid (Nat.le_trans HZ5.out HKB5.out.size)⟩, by simp [intOf]; omega⟩
                      | false =>
                        have f1 := HKA.out.dead hgb HKI.out.n rfl
                        have hset := Int.set_err th vv w3 T3.out (by rw [f1]; decide)
                        rw [f1] at hset
                        have HS := Lib.hid hset
                        have r5 := R3.out.o1
                        have y1 : w3.cell? ⟨g1, at_, none⟩ = some (.bool false) := by
                          have h1 := HKN.out
                          rw [own_at r5 (kA_get (by omega)), HTT.out]
                        clear hset f1 hka e1 e2 hkn hr3 hr4 hgb r5
                        go_wp2_with fail
                        refine HS.out.mono ?_
                        rintro e w5 ⟨rfl, rfl⟩
                        go_wp2
                        refine ⟨⟨k + 1, _, _, _, st, KK, rfl, rfl, rfl, by omega, by simp, HKI, T3, X3, K3, R3, by have := HKN.out; omega, Z3⟩, by simp [intOf]; omega⟩
                    · have q4 : ((r : Int) == 3) = false := by simp; omega
                      have q7 : (r == 3) = false := by simp; omega
                      have q5 : decide (3 < (r : Int)) = true := by simp; omega
                      have q6 : decide (3 < r) = true := by simp; omega
                      cases tal with
                      | true =>
                        obtain ⟨f1, f2, f3⟩ := HKA.out.alive hgb HKI.out.n rfl
                        have f3' : st.getD x (0, false, undef) = (g, true, .int .i64 tv) := f3
                        have hset := Int.tdrop_ok th x w3 T3.out f1 f2
                        rw [f3'] at hset
                        have hki := KI.change HKI.out HMEM.out HKA.out (by rw [f3]) (by rw [f3]) false tv 0 (fun h => by cases h)
                        dsimp only at hset hki
                        have HS := Lib.hid hset
                        have HKI5 := Lib.hid hki
                        have q8 : (tv == tv) = true := by simp
                        have q9 : (tv != tv) = false := by simp
                        clear hset hki f1 f2 f3 f3' hka e1 e2 hkn hr3 hr4 hgb
                        go_wp2_with fail
                        refine HS.out.mono ?_
                        rintro e w5 ⟨rfl, t5, f5⟩
                        have HT5 := Lib.hid t5
                        have HX5 := Lib.hid (X3.out.fr f5 (by have := HTl.out; omega) (by have := HTl.out; omega))
                        have HK5 := Lib.hid (Fr.below K3.out f5 (by omega) (by omega) K3.out.size)
                        have HR5 := Lib.hid (R3.out.fr T3.out f5)
                        have HZ5 : Hid (Z ≤ w5.heap.size) := Lib.hid (Nat.le_trans Z3.out f5.size)
                        have r5 := HR5.out.o1
                        have s5 := HR5.out.o2
                        have y1 : w5.cell? ⟨g1, at_, none⟩ = some (.bool true) := by
                          have h1 := HKN.out
                          rw [own_at r5 (kA_get (by omega)), HTT.out]
                        have y2 : w5.cell? ⟨g2, at_, none⟩ = some (.int .i64 tv) := by
                          have h1 := HKN.out
                          rw [own_at s5 (kV_get (by omega)), HTT.out]
                        have y3 := own_free2 r5 at_
                        have HKB5 : Hid (KB Z w5 (w5.setCell ⟨g1, at_, none⟩ (.bool false))) := Lib.hid (KB.set (by have := HR5.out.o1; rw [HKN.out] at this; exact this) (.inr (.inl rfl)) _)
                        have hR6 := HR5.out.setA HKN.out hal false
                        rw [HTT.out] at hR6
                        have HR6 := Lib.hid hR6
                        clear t5 f5 b30 b33 r5 s5 hR6
                        go_wp2
                        refine ⟨⟨k + 1, _, _, _, st.set x (g, false, .int .i64 0), KK.set at_ (th, false, tv), rfl, rfl, rfl, by omega, by simp, HKI5, Lib.hid (HKB5.out.tt HT5.out), Lib.hid (HKB5.out.tab HX5.out HTZ.out), Lib.hid (HKB5.out.below HK5.out HWZ.out (Nat.le_trans HWZ.out HZ5.out)), HR6, by rw [List.length_set]; have := HKN.out; omega, Lib.hid (Nat.le_trans HZ5.out HKB5.out.size)⟩, by simp [intOf]; omega⟩
                      | false =>
                        have f1 := HKA.out.dead hgb HKI.out.n rfl
                        have hset := Int.drop_err th w3 T3.out (by rw [f1]; decide)
                        rw [f1] at hset
                        have HS := Lib.hid hset
                        have r5 := R3.out.o1
                        have y1 : w3.cell? ⟨g1, at_, none⟩ = some (.bool false) := by
                          have h1 := HKN.out
                          rw [own_at r5 (kA_get (by omega)), HTT.out]
                        have y3 := own_free2 r5 at_
                        have HKB5 : Hid (KB Z w3 (w3.setCell ⟨g1, at_, none⟩ (.bool false))) := Lib.hid (KB.set (by have := R3.out.o1; rw [HKN.out] at this; exact this) (.inr (.inl rfl)) _)
                        have hR6 := R3.out.setA HKN.out hal false
                        rw [HTT.out] at hR6
                        dsimp only at hR6
                        rw [set_same HMEM.out] at hR6
                        have HR6 := Lib.hid hR6
                        clear hset f1 hka e1 e2 hkn hr3 hr4 hgb r5 hR6
                        go_wp2_with fail
                        refine HS.out.mono ?_
                        rintro e w5 ⟨rfl, rfl⟩
                        go_wp2
                        refine ⟨⟨k + 1, _, _, _, st, KK, rfl, rfl, rfl, by omega, by simp, HKI, Lib.hid (HKB5.out.tt T3.out), Lib.hid (HKB5.out.tab X3.out HTZ.out), Lib.hid (HKB5.out.below K3.out HWZ.out (Nat.le_trans HWZ.out Z3.out)), HR6, by have := HKN.out; omega, Lib.hid (Nat.le_trans Z3.out HKB5.out.size)⟩, by simp [intOf]; omega⟩
        · have z2 : decide ((k : Int) < (m : Int)) = false := by simp; omega
          have z3 : decide (k < m) = false := by simpa using hlt
          obtain rfl : m = k := by omega
          obtain ⟨n2, hn2⟩ : ∃ n2, KK.length = n2 := ⟨_, rfl⟩
          have e0 := HR4.out.o0
          have e1 := HR4.out.o1
          have e2 := HR4.out.o2
          rw [hn2] at e0 e1 e2 hKl
          obtain ⟨u0, q0, rfl⟩ := own_slice e0
          obtain ⟨u1, q1, rfl⟩ := own_slice e1
          obtain ⟨u2, q2, rfl⟩ := own_slice e2
          have SF0 : Hid (SlF wr u0 n2 (fun j => .int .i64 (KK.getD j (0, false, 0)).1)) := Lib.hid (SlF.of_own e0 (fun j hj => kH_get (by omega)))
          have SF1 : Hid (SlF wr u1 n2 (fun j => .bool (KK.getD j (0, false, 0)).2.1)) := Lib.hid (SlF.of_own e1 (fun j hj => kA_get (by omega)))
          have SF2 : Hid (SlF wr u2 n2 (fun j => .int .i64 (KK.getD j (0, false, 0)).2.2)) := Lib.hid (SlF.of_own e2 (fun j hj => kV_get (by omega)))
          have HKN := Lib.hid hn2
          clear e0 e1 e2 hn2
          go_wp2
          go_loop [21] (fun x => ∃ j : Nat, j ≤ n2 ∧ x = .int .i64 j) (fun x => n2 - (intOf x).toNat)
          case atStart => exact ⟨0, Nat.zero_le _, rfl⟩
          case round =>
            obtain ⟨j, hj, rfl⟩ := hrel
            by_cases hjl : j < n2
            · obtain ⟨b0, o0, h0, c0⟩ := SF0.out.at_ hjl
              obtain ⟨b1, o1, h1, c1⟩ := SF1.out.at_ hjl
              obtain ⟨b2, o2, h2, c2⟩ := SF2.out.at_ hjl
              subst h0 h1 h2
              obtain ⟨⟨th, tal, tv⟩, ht⟩ : ∃ t, KK.getD j (0, false, 0) = t := ⟨_, rfl⟩
              try dsimp only at c0 c1 c2
              rw [ht] at c0 c1 c2
              try dsimp only at c0 c1 c2
              have hkn := HKN.out
              have hmem := kn_eta (K := KK) (k := j) (by omega)
              rw [ht] at hmem
              obtain ⟨x, g, hka⟩ := HKI.out.at_ _ (List.mem_iff_getElem?.2 ⟨_, hmem⟩)
              have hgb := HKI.out.gb x hka.x1
              have j0 : (0 : Int) ≤ (j : Int) := by omega
              have j1 : (j : Int) < (n2 : Int) := by omega
              have j2 : decide ((j : Int) < (n2 : Int)) = true := by simp; omega
              have j3 : decide (j < n2) = true := by simpa using hjl
              cases tal with
              | true =>
                obtain ⟨f1, f2, f3⟩ := hka.alive hgb HKI.out.n rfl
                have f3' : st.getD x (0, false, undef) = (g, true, .int .i64 tv) := f3
                have hget := Int.get_ok th wr HT4.out f1
                dsimp only at f2 hget
                rw [f2, Int.toNat_natCast, f3'] at hget
                have HGT := Lib.hid hget
                have q8 : (tv != tv) = false := by simp
                have q9 : (tv == tv) = true := by simp
                clear hget f1 f2 f3 f3' hka hgb hmem ht hkn
                go_wp2_with fail
                refine HGT.out.mono ?_
                rintro e w5 ⟨rfl, rfl⟩
                go_wp2
                go_round
                case rel => exact ⟨j + 1, by omega, by go_num⟩
                case measure => simp [intOf]; omega
              | false =>
                have f1 := hka.dead hgb HKI.out.n rfl
                have hget := Int.get_err th wr HT4.out (by rw [f1]; decide)
                rw [f1] at hget
                have HGT := Lib.hid hget
                clear hget f1 hka hgb hmem ht hkn
                go_wp2_with fail
                refine HGT.out.mono ?_
                rintro e w5 ⟨rfl, rfl⟩
                go_wp2
                go_round
                case rel => exact ⟨j + 1, by omega, by go_num⟩
                case measure => simp [intOf]; omega
            · have j2 : decide ((j : Int) < (n2 : Int)) = false := by simp; omega
              have j3 : decide (j < n2) = false := by simpa using hjl
              obtain rfl : n2 = j := by omega
              go_wp2_with fail
              refine (awake_ok _ HX4.out).mono ?_
              rintro e w6 ⟨rfl, b6⟩
              have K6 := Lib.hid (HK4.out.trans (b6.mono HK4.out.size))
              clear b6
              go_wp2
              go_ret
              exact ⟨rfl, K6.out⟩
set_option maxRecDepth 100000 in
set_option maxHeartbeats 1600000 in
theorem law_once (w : World) (hG : SlF w ga n (zI G)) (hA : SlF w aa na (zB A)) (hV : SlF w va nv (zI V)) (hC : SlC w ca m C) (hn : n ≤ 9223372036854775807) (hm : m ≤ 9223372036854775807) (hcb : ∀ j, j < m → (C j).1 ≤ 255 ∧ (C j).2.2.1 ≤ 255) (hT : Tab w) :
    Calls Tryd.prog 6 #[.agg #[.slice ga n gc, .slice aa na ac, .slice va nv vc], .slice ca m cc] w fun e w' => e = .returned (.bool true) ∧ Below w.heap.size w w' := by
  have bb := below_box0 w (.cells #[.slice ga n gc, .slice aa na ac, .slice va nv vc] 35)
  by_cases hfar : 60 < m ∨ 60 < n
  · have key : (decide ((60 : Int) < (m : Int)) = true ∧ decide (60 < m) = true) ∨ (decide ((60 : Int) < (m : Int)) = false ∧ decide (60 < m) = false ∧ decide ((60 : Int) < (n : Int)) = true ∧ decide (60 < n) = true) := by
      by_cases h : 60 < m
      · exact .inl ⟨by simp; omega, by simpa using h⟩
      · exact .inr ⟨by simp; omega, by simpa using h, by simp; omega, by simp; omega⟩
    have HB := Lib.hid bb
    have HT := Lib.hid (hT.below bb)
    clear bb hfar hT hG hA hV hC hcb
    rcases key with ⟨d1, d2⟩ | ⟨d1, d2, d3, d4⟩
    all_goals
      go_enter Tryd.func6, Tryd.ntmps6
      go_wp2_with fail
      refine (awake_ok _ HT.out).mono ?_
      rintro e w1 ⟨rfl, b1⟩
      have HB1 := Lib.hid (HB.out.trans (b1.mono (by simp)))
      clear b1
      go_wp2
      go_ret
      exact ⟨rfl, HB1.out⟩
  · by_cases he : hcE n na nv G A = 0
    · obtain ⟨-, -, rfl, rfl, -⟩ := hcE_zero he
      exact law_once_ok w hG hA hV hC (by omega) (by omega) hcb he hT
    · have d1 : decide ((60 : Int) < (n : Int)) = false := by simp; omega
      have d2 : decide (60 < n) = false := by simp; omega
      have d3 : decide ((60 : Int) < (m : Int)) = false := by simp; omega
      have d4 : decide (60 < m) = false := by simp; omega
      have hb := bne0_true he
      have HE := Lib.hid he
      have HB := Lib.hid bb
      have HT := Lib.hid (hT.below bb)
      have HG := Lib.hid (hG.below bb)
      have HA := Lib.hid (hA.below bb)
      clear bb hfar hT hG hA hV he hC hcb
      go_enter Tryd.func6, Tryd.ntmps6
      go_wp2_with fail
      refine (Int.load_err _ HG.out HA.out HE.out).mono ?_
      rintro e w1 ⟨rfl, b1⟩
      have HB1 := Lib.hid (HB.out.trans (b1.mono (by simp)))
      have HT1 := Lib.hid (HT.out.below b1)
      clear b1
      go_wp2_with fail
      refine (awake_ok _ HT1.out).mono ?_
      rintro e w2 ⟨rfl, b2⟩
      have HB2 := Lib.hid (HB1.out.trans (b2.mono HB1.out.size))
      clear b2
      go_wp2
      go_ret
      exact ⟨rfl, HB2.out⟩
end
end Go.Proofs.YtpaecmpiokkdnaaDoor

namespace Go.Proofs.YtpaecmpiokkdnaaDoor
open Go.ChangeShapes Go.WideShapes Go.ChangeAt Go.RowKit

theorem own : ownKnob Tryd.prog.godebug = none := by kernel_rfl
theorem gTab : Tryd.prog.globalNamed "math/bits.deBruijn64tab" = some 0 := by kernel_rfl
theorem gTabType : (Tryd.prog.globals[0]?).map (·.type) = some 150 := by kernel_rfl
theorem cellsTab : Tryd.prog.cellsOf 150 = 64 := by kernel_rfl
theorem cellsU8 : Tryd.prog.cellsOf 5 = 1 := by kernel_rfl

theorem tab_of {W : World} (h : laidMetH Tryd.prog [("math/bits.deBruijn64tab", Rows.laid_math_bits_deBruijn64tab)] W) : Tab W := by
  have ht : Lib.TabIs Tryd.prog W "math/bits.deBruijn64tab" .u8 (Lib.deBruijn64tab.map fun (x : Nat) => (x : Int)) :=
    Lib.tabIs_of_head (rest := []) gTab gTabType Tryd.underlying150 Tryd.underlying5 cellsU8 cellsTab h
  intro i hi
  have := ht.cell gTab i (by rw [List.length_map]; exact hi)
  rw [this]
  have e : (Lib.deBruijn64tab.map fun (x : Nat) => (x : Int)).getD i 0 = ((Lib.deBruijn64tab.getD i 0 : Nat) : Int) := by
    have h64 : Lib.deBruijn64tab.length = 64 := rfl
    simp [List.getD_eq_getElem?_getD, h64, hi]
  rw [e]

/-- A world for the witness: the settled one, the table holding what its initialiser lays. -/
noncomputable def laidWorld (os : Os) : World :=
  { World.holding Tryd.prog os ⟨#[], #[], []⟩ with heap := (World.holding Tryd.prog os ⟨#[], #[], []⟩).heap.modify 0 fun
      | .cells _ t frozen => .cells (Lib.deBruijn64tab.map fun (x : Nat) => Value.int .u8 (x : Int)).toArray t frozen
      | o => o }
theorem laidOut : laidOutB Tryd.prog = true := by kernel_rfl

theorem trodAll_below {H : Type} {enc : TypeId × Value → H} {W W' : World} (hb : Below W.heap.size W W') (ts : List TypeId) : ∀ (vs : List Value) (ds : List (DataW H)) (ps : List MemPlace),
    (ts.all fun t => Tryd.prog.readableRec t && decide (t < Tryd.prog.types.size)) = true → (∀ x ∈ ps, x.block < W.heap.size) → DataW.TrodAll enc Tryd.prog W 0 (fun _ => true) true ts vs ds ps →
    DataW.TrodAll enc Tryd.prog W' 0 (fun b => decide (b < W.heap.size)) true ts vs ds ps := by
  induction ts with
  | nil =>
    intro vs ds ps _ _ h
    obtain ⟨rfl, rfl, rfl⟩ := trodAll_nil h
    exact trodAll_mk0
  | cons t ts ih =>
    intro vs ds ps hr hlt h
    obtain ⟨v, vs', d, ds', p, q, rfl, rfl, rfl, h1, h2⟩ := trodAll_cons h
    rw [List.all_cons, Bool.and_eq_true, Bool.and_eq_true] at hr
    exact trodAll_cons_mk (Below.trod laidOut hr.1.1 (of_decide_eq_true hr.1.2) h1 hb (fun x hx => hlt x (List.mem_append_left _ hx))) (ih vs' ds' q hr.2 (fun x hx => hlt x (List.mem_append_right _ hx)) h2)

/-- WHAT A LAW's WALK GIVES THE ROW: true, the arguments read as they did. -/
theorem law_post {H : Type} {enc : TypeId × Value → H} {fn : Func} {s : ChangeSpec} {W W' : World} {args : Array Value} {ds gs : List (DataW H)} {before : List MemPlace}
    (hW : DataW.Whole enc Tryd.prog fn.params.toList s.vars false W args.toList ds gs before) (hv : s.vars = []) (hr : (fn.params.toList.all fun t => Tryd.prog.readableRec t && decide (t < Tryd.prog.types.size)) = true) (hrt : fn.resultTypes = #[4])
    (h1 : (s.fn H (ds ++ gs)).results = [.lit (.bool true)]) (h2 : (s.fn H (ds ++ gs)).args = ds) (h3 : (s.fn H (ds ++ gs)).vars = []) (hb : Below W.heap.size W W') :
    s.post enc Tryd.prog fn false true false false W args (.bool true) W' := by
  have hW' := hW
  have hlt := hW.lt
  obtain ⟨p, q, hA, hV, rfl, hfz, hnd⟩ := hW
  refine ⟨ds, gs, p ++ q, [], p, [], hW', ?_, ?_, ?_, hb.frame _, fun h => by cases h⟩
  · rw [h1, hrt]
    exact trodAll_cons_mk (shut_bool Tryd.underlying4 _) trodAll_mk0
  · rw [h2]
    exact trodAll_below hb _ _ _ _ hr (fun x hx => hlt x (List.mem_append_left _ hx)) hA
  · rw [h3, hv]; rfl
end Go.Proofs.YtpaecmpiokkdnaaDoor

namespace Go.Proofs.YtpaecmpiokkdnaaDoor
open Go.ChangeShapes Go.WideShapes Go.ChangeAt Go.RowKit Go.Joins

/-- the bounds of an int -/
def I64 (x : Int) : Prop := -9223372036854775808 ≤ x ∧ x ≤ 9223372036854775807
theorem I64.zero : I64 0 := ⟨by decide, by decide⟩
theorem cellsInt : Tryd.prog.cellsOf 3 = 1 := by kernel_rfl
theorem cellsBool : Tryd.prog.cellsOf 4 = 1 := by kernel_rfl
section
variable {H : Type} {enc : TypeId × Value → H} {W : World} {base : Nat}
theorem open_intsF {fuel : Nat} {v : Value} {x : DataW H × List MemPlace} (h : DataW.trod enc Tryd.prog W base (fun _ => true) true fuel 32 [v] = some x) :
    ∃ (a : Option Addr) (len cap : Nat) (G : Nat → Int), v = .slice a len cap ∧ SlF W a len (zI G) ∧ len ≤ 9223372036854775807 ∧ (∀ j, I64 (G j)) := by
  rcases open_ints Tryd.underlying32 Tryd.underlying3 cellsInt h with ⟨h, _⟩ | ⟨A, len, cap, zs, h, _, hl, hm, hz, _, hc, hwf⟩
  · cases h
    exact ⟨none, 0, 0, fun _ => 0, rfl, .inl rfl, by decide, fun _ => I64.zero⟩
  · cases h
    have hz' : zs.length = cap := by simpa using hz
    have hml : maxLen ≤ 9223372036854775807 := by decide
    refine ⟨some A, len, cap, fun j => zs.getD j 0, rfl, ?_, by omega, fun j => ?_⟩
    · by_cases h0 : len = 0
      · exact .inl h0
      · obtain ⟨b, off, rfl, hc'⟩ := ints_at hc (by omega)
        exact .inr ⟨b, off, rfl, fun j hj => hc' j (by omega)⟩
    · by_cases hj : j < zs.length
      · have := bounds_i64 (hwf zs[j] (List.getElem_mem _))
        have e : zs.getD j 0 = zs[j] := by simp [List.getD_eq_getElem?_getD, hj]
        dsimp only
        rw [e]; exact this
      · have e : zs.getD j 0 = 0 := by simp [List.getD_eq_getElem?_getD, hj]
        dsimp only
        rw [e]; exact I64.zero
theorem bools_at {a : Addr} {n : Nat} {B : Nat → Bool} (h : ∀ i, i < n → W.cell? (a.add i) = some (.bool (B i))) (hp : 0 < n) : ∃ b off, a = ⟨b, off, none⟩ ∧ ∀ j, j < n → W.cell? ⟨b, off + j, none⟩ = some (.bool (B j)) := by
  obtain ⟨b, off, spot⟩ := a
  have hspot : spot = none := by simpa [Addr.add] using World.cell?_spot (h 0 hp)
  subst hspot
  exact ⟨b, off, rfl, fun j hj => by rw [← Go.WideShapes.add_plain]; exact h j hj⟩
theorem open_boolsF {fuel : Nat} {v : Value} {x : DataW H × List MemPlace} (h : DataW.trod enc Tryd.prog W base (fun _ => true) true fuel 33 [v] = some x) :
    ∃ (a : Option Addr) (len cap : Nat) (B : Nat → Bool), v = .slice a len cap ∧ SlF W a len (zB B) ∧ len ≤ 9223372036854775807 := by
  rcases Go.Deep.open_bools Tryd.underlying33 Tryd.underlying4 cellsBool h with ⟨h, _⟩ | ⟨A, len, cap, B, h, _, hl, hm, _, hc⟩
  · cases h
    exact ⟨none, 0, 0, fun _ => false, rfl, .inl rfl, by decide⟩
  · cases h
    have hml : maxLen ≤ 9223372036854775807 := by decide
    refine ⟨some A, len, cap, B, rfl, ?_, by omega⟩
    by_cases h0 : len = 0
    · exact .inl h0
    · obtain ⟨b, off, rfl, hc'⟩ := bools_at hc (by omega)
      exact .inr ⟨b, off, rfl, fun j hj => hc' j (by omega)⟩
set_option maxRecDepth 100000 in
theorem open_boolsT {v : Value} {d : DataW H} {p : List MemPlace} (hv : Value.okWide Tryd.prog W .any base 33 v) (h : DataW.Trod enc Tryd.prog W 0 (fun _ => true) true 33 v d p) :
    ∃ (a : Option Addr) (len cap : Nat) (B : Nat → Bool), v = .slice a len cap ∧ SlF W a len (zB B) ∧ len ≤ 9223372036854775807 := by
  obtain ⟨a, l, c, rfl⟩ := okWide_slice Tryd.underlying33 hv
  obtain ⟨fuel, hf⟩ := h
  exact open_boolsF hf
set_option maxRecDepth 100000 in
theorem open_state {v : Value} {d : DataW H} {p : List MemPlace} (hv : Value.okWide Tryd.prog W .any base 35 v) (h : DataW.Trod enc Tryd.prog W 0 (fun _ => true) true 35 v d p) :
    ∃ (ga aa va : Option Addr) (n na nv gc ac vc : Nat) (G : Nat → Int) (A : Nat → Bool) (V : Nat → Int), v = .agg #[.slice ga n gc, .slice aa na ac, .slice va nv vc] ∧ SlF W ga n (zI G) ∧ SlF W aa na (zB A) ∧ SlF W va nv (zI V) ∧
      n ≤ 9223372036854775807 ∧ na ≤ 9223372036854775807 ∧ nv ≤ 9223372036854775807 ∧ (∀ j, I64 (G j)) ∧ (∀ j, I64 (V j)) := by
  obtain ⟨v0, v1, v2, y0, y1, y2, m, rfl, _, _, t0, t1, t2⟩ := open_agg3 Tryd.underlying35 (by kernel_rfl) (by kernel_rfl) hv h
  obtain ⟨ga, n, gc, G, rfl, h0, l0, b0⟩ := open_intsF t0
  obtain ⟨aa, na, ac, A, rfl, h1, l1⟩ := open_boolsF t1
  obtain ⟨va, nv, vc, V, rfl, h2, l2, b2⟩ := open_intsF t2
  exact ⟨ga, aa, va, n, na, nv, gc, ac, vc, G, A, V, rfl, h0, h1, h2, l0, l1, l2, b0, b2⟩
end
end Go.Proofs.YtpaecmpiokkdnaaDoor

namespace Go.Proofs.YtpaecmpiokkdnaaDoor
open Go.ChangeShapes Go.WideShapes Go.ChangeAt Go.RowKit Go.Joins Go.Deep
section
variable {H : Type} {enc : TypeId × Value → H} {P : Program} {w : World} {base : Nat} {spare : Nat → Bool} {held : Bool}
theorem open_slice_fields {t e : TypeId} {fs : Array Field} {fuel : Nat} {cs : List Value} {x : DataW H × List MemPlace} (ht : P.underlying t = some (.slice e)) (he : P.underlying e = some (.struct fs))
    (hone : oneCellFields P fs = true) (hC : P.cellsOf e = fs.size) (h : DataW.trod enc P w base spare held fuel t cs = some x) :
    (cs = [.slice none 0 0] ∧ x = (.nil, [])) ∨
    ∃ (a : Addr) (len cap m : Nat) (D : Nat → DataW H) (Pl : Nat → List MemPlace), cs = [.slice (some a) len cap] ∧ base ≤ a.block ∧ len ≤ cap ∧ cap ≤ maxLen ∧ m = (if spare a.block then cap else len) ∧
      x = (.slice ((List.range len).map D) ((List.range (m - len)).map fun j => D (len + j)), MemPlace.row a (m * fs.size) ++ (List.range m).flatMap Pl) ∧
      ∀ i, i < m → ∃ (ys : List (DataW H × List MemPlace)) (n : Nat), D i = .agg (ys.map (·.1)) ∧ Pl i = ys.flatMap (·.2) ∧ ys.length = fs.size ∧
        ∀ (j : Nat) (f : Field), fs[j]? = some f → ∃ (v : Value) (y : DataW H × List MemPlace), w.cell? (a.add (i * fs.size + j)) = some v ∧ ys[j]? = some y ∧ DataW.trod enc P w base spare held n f.type [v] = some y := by
  rcases open_slice ht h with h0 | ⟨a, len, cap, m, n, D, Pl, hcs, hb, hl, hm, hmm, hx, hi⟩
  · exact .inl h0
  · refine .inr ⟨a, len, cap, m, D, Pl, hcs, hb, hl, hm, hmm, by rw [hC] at hx; exact hx, fun i him => ?_⟩
    obtain ⟨cs', hc, ht'⟩ := hi i him
    rw [hC] at hc
    obtain ⟨ys, n', hn', hy, hlen, hyl, hf⟩ := DataW.trod_struct he ht'
    obtain ⟨_, hcl, hat⟩ := World.cells?_some hc
    simp only [Prod.mk.injEq] at hy
    refine ⟨ys, n', hy.1, hy.2, hyl, fun j f hj => ?_⟩
    obtain ⟨ho, hk⟩ := hone_of hone j f hj
    have hjl : j < fs.size := (Array.getElem?_eq_some_iff.1 hj).1
    have hcell := hat j hjl
    have hv : cs'[j]? = some (cs'[j]'(by omega)) := List.getElem?_eq_getElem (by omega)
    have h1 := hf j f hj
    rw [ho, hk] at h1
    have hone' : (cs'.drop j).take 1 = [cs'[j]'(by omega)] := by
      rw [List.drop_eq_getElem_cons (by omega)]
      rfl
    rw [hone'] at h1
    have hys : ys[j]? = some (ys[j]'(by omega)) := List.getElem?_eq_getElem (by omega)
    refine ⟨_, _, ?_, hys, h1.trans hys⟩
    rw [← Go.Deep.add_add, hcell, hv]
/-- the address of such a slice is plain -/
theorem plain_addr {a : Addr} {v : Value} {w : World} (h : w.cell? a = some v) : ∃ b o, a = ⟨b, o, none⟩ := by
  obtain ⟨b, o, spot⟩ := a
  have hs : spot = none := World.cell?_spot h
  subst hs
  exact ⟨b, o, rfl⟩
theorem choose4 {α : Type} [Inhabited α] {n : Nat} {p : Nat → α → Prop} (h : ∀ i, i < n → ∃ x, p i x) : ∃ f : Nat → α, ∀ i, i < n → p i (f i) := by
  classical
  refine ⟨fun i => if hi : i < n then Classical.choose (h i hi) else default, fun i hi => ?_⟩
  dsimp only
  rw [dif_pos hi]
  exact Classical.choose_spec (h i hi)
end
end Go.Proofs.YtpaecmpiokkdnaaDoor

namespace Go.Proofs.YtpaecmpiokkdnaaDoor
open Go.ChangeShapes Go.WideShapes Go.ChangeAt Go.RowKit Go.Joins Go.Deep

set_option maxRecDepth 100000 in
theorem open_calls {H : Type} {enc : TypeId × Value → H} {W : World} {base : Nat} {v : Value} {d : DataW H} {p : List MemPlace} (hv : Value.okWide Tryd.prog W .any base 50 v) (h : DataW.Trod enc Tryd.prog W 0 (fun _ => true) true 50 v d p) :
    ∃ (a : Option Addr) (n cap : Nat) (C : Nat → Cll), v = .slice a n cap ∧ SlC W a n C ∧ n ≤ 9223372036854775807 ∧ ∀ j, j < n → (C j).1 ≤ 255 ∧ (C j).2.2.1 ≤ 255 := by
  obtain ⟨a, l, c, rfl⟩ := okWide_slice Tryd.underlying50 hv
  obtain ⟨fuel, hf⟩ := h
  rcases open_slice_fields Tryd.underlying50 Tryd.underlying55 (by kernel_rfl) (by kernel_rfl) hf with ⟨h, _⟩ | ⟨A, len, cap, mm, D, Pl, h, _, hl, hm, hmm, _, hi⟩
  · cases h
    exact ⟨none, 0, 0, fun _ => (0, 0, 0, 0), rfl, .inl rfl, by decide, fun j hj => by omega⟩
  · cases h
    have hml : maxLen ≤ 9223372036854775807 := by decide
    simp only [↓reduceIte] at hmm
    have key : ∀ i, i < c → ∃ x : Cll, W.cell? (A.add (i * 4)) = some (.int .u8 (x.1 : Int)) ∧ W.cell? (A.add (i * 4 + 1)) = some (.int .i64 x.2.1) ∧ W.cell? (A.add (i * 4 + 2)) = some (.int .u8 (x.2.2.1 : Int)) ∧ W.cell? (A.add (i * 4 + 3)) = some (.int .i64 x.2.2.2) ∧ x.1 ≤ 255 ∧ x.2.2.1 ≤ 255 := by
      intro i hic
      obtain ⟨ys, n', _, _, _, hf⟩ := hi i (by omega)
      obtain ⟨v0, y0, g0, _, t0⟩ := hf 0 _ rfl
      obtain ⟨v1, y1, g1, _, t1⟩ := hf 1 _ rfl
      obtain ⟨v2, y2, g2, _, t2⟩ := hf 2 _ rfl
      obtain ⟨v3, y3, g3, _, t3⟩ := hf 3 _ rfl
      obtain ⟨x0, e0, _, w0⟩ := DataW.trod_int Tryd.underlying5 t0
      obtain ⟨x1, e1, _, _⟩ := DataW.trod_int Tryd.underlying2 t1
      obtain ⟨x2, e2, _, w2⟩ := DataW.trod_int Tryd.underlying5 t2
      obtain ⟨x3, e3, _, _⟩ := DataW.trod_int Tryd.underlying3 t3
      cases e0; cases e1; cases e2; cases e3
      have b0 := bounds_u8 w0
      have b2 := bounds_u8 w2
      obtain ⟨z0, rfl⟩ := Int.eq_ofNat_of_zero_le b0.1
      obtain ⟨z2, rfl⟩ := Int.eq_ofNat_of_zero_le b2.1
      exact ⟨(z0, x1, z2, x3), g0, g1, g2, g3, by dsimp only; omega, by dsimp only; omega⟩
    obtain ⟨C, hC⟩ := choose4 key
    refine ⟨some A, l, c, C, rfl, ?_, by omega, fun j hj => (hC j (by omega)).2.2.2.2⟩
    by_cases h0 : l = 0
    · exact .inl h0
    · obtain ⟨b, o, rfl⟩ := plain_addr (hC 0 (by omega)).1
      refine .inr ⟨b, o, rfl, fun j hj => ?_⟩
      obtain ⟨e0, e1, e2, e3, _⟩ := hC j (by omega)
      simp only [Go.WideShapes.add_plain] at e0 e1 e2 e3
      exact ⟨e0, e1, e2, e3⟩
end Go.Proofs.YtpaecmpiokkdnaaDoor

namespace Go.Proofs.YtpaecmpiokkdnaaDoor.handlesOnce
open Go.ChangeShapes Go.WideShapes Go.ChangeAt Go.RowKit

set_option maxRecDepth 100000 in
theorem contract (H : Type) (enc : TypeId × Value → H) (W : World) (base : Nat) (args : Array Value) (ds gs : List (DataW H)) (before : List MemPlace)
    (hval : ∀ (j : Nat) t v, Tryd.f6.params[j]? = some t → args[j]? = some v → Value.okWide Tryd.prog W .any base t v)
    (hW : DataW.Whole enc Tryd.prog Tryd.f6.params.toList Rows.handlesOnceSpec.vars false W args.toList ds gs before) (hL : laidMetH Tryd.prog Rows.handlesOnceRow.laid W) :
    Calls Tryd.prog 6 args W fun e W' => ∃ v, e = .returned v ∧ Rows.handlesOnceSpec.post enc Tryd.prog Tryd.f6 false true false false W args v W' := by
  have hW' := hW
  obtain ⟨p, q, hA0, hV, rfl, hfz, hnd⟩ := hW
  have hA : DataW.TrodAll enc Tryd.prog W 0 (fun _ => true) true Tryd.f6.params.toList args.toList ds p := hA0
  rw [Tryd.params6] at hA hval
  obtain ⟨v0, vs0, d0, ds0, p0, q0, hargs, rfl, rfl, h0, r0⟩ := trodAll_cons hA
  obtain ⟨v1, vs1, d1, ds1, p1, q1, rfl, rfl, rfl, h1, r1⟩ := trodAll_cons r0
  obtain ⟨rfl, rfl, rfl⟩ := trodAll_nil r1
  obtain rfl : args = #[v0, v1] := by cases args; simp_all
  obtain ⟨rfl, rfl⟩ := trodVars_none hV
  obtain ⟨ga0, aa0, va0, n0, na0, nv0, gc0, ac0, vc0, G0, A0, V0, rfl, sG0, sA0, sV0, ln0, la0, lv0, bG0, bV0⟩ := open_state (hval 0 35 v0 rfl rfl) h0
  obtain ⟨a1, l1, c1, C1, rfl, hC1, ll1, cb1⟩ := open_calls (hval 1 50 v1 rfl rfl) h1
  refine (law_once W sG0 sA0 sV0 hC1 ln0 ll1 cb1 (tab_of hL)).mono fun e W' ⟨he, hb⟩ => ?_
  exact ⟨_, he, law_post hW' rfl (by rw [Tryd.params6]; kernel_rfl) rfl rfl rfl rfl hb⟩

theorem laid_met (os : Os) : laidMet Tryd.prog Rows.handlesOnceRow.laid ((laidWorld os).forCall (fun _ _ => 0) ⟨#[], #[.agg #[.slice none 0 0, .slice none 0 0, .slice none 0 0], .slice none 0 0], []⟩).memory :=
  laidMet_of_run' 8 (by kernel_rfl) (by kernel_rfl)
theorem reads (os : Os) {H : Type} (enc : TypeId × Value → H) : ∃ places, DataW.whole enc Tryd.prog ((laidWorld os).forCall (fun _ _ => 0) ⟨#[], #[.agg #[.slice none 0 0, .slice none 0 0, .slice none 0 0], .slice none 0 0], []⟩).memory Tryd.f6.params.toList Rows.handlesOnceSpec.vars false #[Value.agg #[.slice none 0 0, .slice none 0 0, .slice none 0 0], Value.slice none 0 0].toList 8 = some ([.agg [.nil, .nil, .nil], .nil], [], places) :=
  ⟨[], by kernel_rfl⟩

set_option maxRecDepth 100000 in
theorem lifted (os : Os) (started : os.Started) (H : Type) (enc : TypeId × Value → H) (F : Stop.Interp) :
    ReturnsInHanded {} Tryd.checked os 6 .any ((OpenSpec.ofChange Rows.handlesOnceSpec).preRow enc Tryd.prog Tryd.f6 Rows.handlesOnceRow.domain false Rows.handlesOnceRow.laid) (((OpenSpec.ofChange Rows.handlesOnceSpec).at F).post enc Tryd.prog Tryd.f6 false true false false) := by
  obtain ⟨places, hx⟩ := reads os enc
  refine returnsInHanded_of_row (C := Tryd.checked) (s := OpenSpec.ofChange Rows.handlesOnceSpec) own started (by kernel_rfl) Tryd.func6
    (witness_row_at (enc := enc) (C := Tryd.checked) false (laidWorld os) #[.agg #[.slice none 0 0, .slice none 0 0, .slice none 0 0], .slice none 0 0] rfl (by kernel_rfl) (by kernel_rfl) (by kernel_rfl)
      (OpenSpec.preRow_of_cond 8 hx (by kernel_rfl) (fun k hk => by cases hk) (by kernel_rfl) (laid_met os))) ?_
  intro W base args ds gs before hval hW _ _ _ hL _ _
  exact contract H enc W base args ds gs before hval hW hL

theorem said : Rows.HandlesOnceSaid :=
  OpenClaim.holds_of_cond 6 Tryd.f6 rfl rfl rfl rfl rfl rfl rfl ⟨rfl, rfl, rfl, rfl, rfl⟩ rfl rfl rfl rfl rfl (by kernel_rfl) Tryd.func6 (by kernel_rfl)
    (of_decide_eq_true (by kernel_rfl)) (by unfold Func.isWrapper; first | (rw [if_pos (by decide +kernel)]; kernel_rfl) | (rw [if_neg (by decide +kernel)]; exact ⟨rfl, rfl⟩))
    (fun os started H enc _ F => by rw [OpenClaim.pre_eq_preRow]; exact lifted os started H enc F)

theorem plain (f : FuncId) (fn : Func) (hf : Tryd.pinned.checked.prog.funcNamed "polder/polderlaw16.HandlesOnce" = some f) (hfn : Tryd.pinned.checked.prog.funcs[f]? = some fn) :
    false = Tryd.pinned.checked.prog.looks [] ∧ ∀ (j : Nat) t, fn.params[j]? = some t → Tryd.pinned.checked.prog.wantsStandIn t = false := by
  obtain rfl : f = 6 := Option.some.inj ((show Tryd.prog.funcNamed "polder/polderlaw16.HandlesOnce" = some 6 by kernel_rfl).symm.trans hf) |>.symm
  obtain rfl : fn = Tryd.f6 := (Option.some.inj (Tryd.func6.symm.trans hfn)).symm
  refine ⟨by kernel_rfl, fun j t ht => ?_⟩
  rw [Tryd.params6] at ht
  have hm : t ∈ [35, 50] := by simpa using Array.mem_of_getElem? ht
  have hall : ([35, 50].all fun u => !Tryd.prog.wantsStandIn u) = true := by kernel_rfl
  exact (show Tryd.prog.wantsStandIn t = false by simpa using List.all_eq_true.1 hall t hm)

/-- THE CARD. -/
theorem card : Rows.HandlesOnceCardSaid :=
  Claim7.holds_tied_plain_at .later [] _ _ _ _ said (fun _ h => by cases h) (by kernel_rfl) (fun _ h => by cases h) handlesOnce_row_tie rfl ⟨rfl, rfl⟩ (by kernel_rfl) rfl plain (by kernel_rfl)
#print axioms card
end Go.Proofs.YtpaecmpiokkdnaaDoor.handlesOnce
