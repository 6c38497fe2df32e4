/- Clocks: the reference's rung: a plan after the next ring of an alarm. | Clocks: slices.Clone of alarms. | Clocks: the plan of the reference's Run, ring by ring. No program. | Clocks: the reference's Run. -/
import Derived.Test.YtjceahbikdncmaaDoorPZ10
import Derived.Deep.RegionLaw
import Derived.Laws.IdiomCopy
import Derived.Lib.LazyBuf
import Derived.BigRegion
import Derived.Deep.Cut
import Derived.StillTailTactics
import Derived.Test.YtjceahbikdncmaaDoorPZ11
namespace Go.Proofs.YtjceahbikdncmaaDoor
open Go.RowKit Go.Sort Go.Joins Go.Shelf
attribute [local go_sem] cell_grow frozen_grow size_grow Oper.semAt_some

/-- a plan after the next ring of an alarm -/
def rungL (P : List Al) (i : Nat) : List Al :=
  if (P.getD i al0).2.2 = 0 ∨ 1000000000000 < (P.getD i al0).2.1 + (P.getD i al0).2.2 then P.eraseIdx i else P.set i ((P.getD i al0).1, (P.getD i al0).2.1 + (P.getD i al0).2.2, (P.getD i al0).2.2)
theorem SlA.readsL {w : World} {a : Option Addr} {l : List Al} (h : SlA w a l.length (fun j => l.getD j al0)) : Reads w w.heap.size 3 a l.length (alc l) := by
  have hl := alc_length l
  refine ⟨hl, fun hn => ?_⟩
  obtain ⟨b, o, rfl, hc⟩ := h.resolve_left (by omega)
  refine ⟨_, rfl, World.block_lt_of_cell? _ _ (hc 0 hn).1, fun j u hu => ?_⟩
  have hj : j < l.length * 3 := by rw [← hl]; exact (List.getElem?_eq_some_iff.1 hu).1
  obtain ⟨e0, e1, e2⟩ := alc_get l (j / 3) (by omega)
  obtain ⟨c0, c1, c2⟩ := hc (j / 3) (by omega)
  rw [Go.WideShapes.add_plain]
  rcases (show j % 3 = 0 ∨ j % 3 = 1 ∨ j % 3 = 2 by omega) with hm | hm | hm
  · have ej : j = j / 3 * 3 := by omega
    rw [ej, e0] at hu
    rw [ej, ← hu]; exact c0
  · have ej : j = j / 3 * 3 + 1 := by omega
    rw [ej, e1] at hu
    rw [ej, ← hu, ← Nat.add_assoc]; exact c1
  · have ej : j = j / 3 * 3 + 2 := by omega
    rw [ej, e2] at hu
    rw [ej, ← hu, ← Nat.add_assoc]; exact c2
theorem alc_set : ∀ (P : List Al) (i : Nat) (z : Int), i < P.length → (alc P).set (i * 3 + 1) (.int .i64 z) = alc (P.set i ((P.getD i al0).1, z, (P.getD i al0).2.2))
  | [], _, _, h => by simp at h
  | x :: P, 0, z, _ => by simp [alc]
  | x :: P, i + 1, z, h => by
    have ih := alc_set P i z (by simpa using h)
    simp only [alc, List.flatMap_cons, List.set_cons_succ] at ih ⊢
    rw [List.set_append_right _ _ (by simp; omega)]
    have e : (i + 1) * 3 + 1 - [Value.string x.1, Value.int .i64 x.2.1, Value.int .i64 x.2.2].length = i * 3 + 1 := by simp; omega
    rw [e, ih]
    simp
theorem getD_set_ne {P : List Al} {i j : Nat} {x : Al} (h : j ≠ i) : (P.set i x).getD j al0 = P.getD j al0 := by
  simp only [List.getD]
  rw [List.getElem?_set_ne (fun e => h e.symm)]
theorem getD_erase {P : List Al} {i j : Nat} : (P.eraseIdx i).getD j al0 = if j < i then P.getD j al0 else P.getD (j + 1) al0 := by
  simp only [List.getD]
  rw [List.getElem?_eraseIdx]
  split <;> rfl
theorem getD_drop {P : List Al} {i j : Nat} : (P.drop i).getD j al0 = P.getD (i + j) al0 := by
  simp [List.getD, List.getElem?_drop]
section
variable {w : World} {a : Option Addr} {c : Nat}
set_option maxRecDepth 100000 in
set_option maxHeartbeats 3200000 in
theorem rung_ok {P : List Al} {i : Nat} (hS : SlA w a P.length (fun j => P.getD j al0)) (h50 : P.length ≤ 50) (hi : i < P.length) (hb : ∀ j, j < P.length → AlOk (P.getD j al0).2) :
    Calls Tryd.prog 37 #[pV a P.length c, .int .i64 i] w fun e w' => ∃ (g' : Nat) (c' : Nat), e = .returned (pV (some ⟨g', 0, none⟩) (rungL P i).length c') ∧ w.heap.size ≤ g' ∧ SlA w' (some ⟨g', 0, none⟩) (rungL P i).length (fun j => (rungL P i).getD j al0) ∧ Below w.heap.size w w' := by
  obtain ⟨i0, hi0, hz0, hz1, hz2'⟩ := info_parts info_alarm
  have b2 : Below w.heap.size w ((w.alloc (.cells #[.slice a P.length c] 24)).alloc (.cells #[.slice none 0 0] 24)) := ((Below.refl _ w).alloc (Nat.le_refl _) _).alloc (by simp) _
  have HB2 := Lib.hid b2
  have HS2 := Lib.hid (hS.below b2)
  have hx1 : ((w.alloc (.cells #[.slice a P.length c] 24)).alloc (.cells #[.slice none 0 0] 24)).heap[w.heap.size]? = some (.cells #[.slice a P.length c] 24 (0, 0)) := (Below.heap_alloc _ _ _ (by simp)).trans (heap_alloc_new w _)
  have hx2 : ((w.alloc (.cells #[.slice a P.length c] 24)).alloc (.cells #[.slice none 0 0] 24)).heap[w.heap.size + 1]? = some (.cells #[.slice none 0 0] 24 (0, 0)) := by
    have := heap_alloc_new (w.alloc (.cells #[.slice a P.length c] 24)) (.cells #[.slice none 0 0] 24)
    rwa [World.size_alloc] at this
  have HX1 := Lib.hid hx1
  have HX2 := Lib.hid hx2
  have HPB := Lib.hid hb
  clear b2 hS hx1 hx2 hb
  go_enter Tryd.func37, Tryd.ntmps37
  go_upto_region 1 with fail
  obtain ⟨W2, hW2⟩ : ∃ W, ((w.alloc (.cells #[.slice a P.length c] 24)).alloc (.cells #[.slice none 0 0] 24)) = W := ⟨_, rfl⟩
  rw [hW2] at HB2 HS2 HX1 HX2 ⊢
  clear hW2
  have b8 := below_box0 W2 (.cells #[] 47)
  have HO8 : Hid ((W2.alloc (.cells #[] 47)).ownsRow W2.heap.size 47 3 (.slice (some ⟨W2.heap.size, 0, none⟩) 0 0) 0 []) := Lib.hid (World.ownsRow_lit W2 #[] 0 (Nat.le_refl _) (by decide) rfl)
  have HRD8 := Lib.hid (HS2.out.readsL.alloc (Nat.le_refl _) (.cells #[] 47))
  have HB8 := Lib.hid b8
  have k0 : W2.cell? ⟨w.heap.size, 0, none⟩ = some (.slice a P.length c) := by rw [cell_of_block HX1.out]; rfl
  have l0 := blk_lt HX1.out
  clear b8
  go_wp2_with (at_builtin
               refine wpList_append_any _ (by simp [Region.wanted, yielded]) (.tmp 6) (.tmp 8) 22 rfl W2.heap.size 47 i0 _ 3 32 Tryd.underlying22 hi0 hz0 hz1 hz2' rfl (by decide) (.slice (some ⟨W2.heap.size, 0, none⟩) 0 0) 0 [] rfl
                 HO8.out W2.heap.size a P.length c (alc P) rfl HRD8.out (alc_one P) (by unfold maxLen; omega) (by omega) HB8.out.size ?_
               intro v1 w9 hown1 hg1 _
               have HB9 := Lib.hid (HB8.out.grown hg1 HB8.out.size (by simp [Value.ownBlock]))
               have hown2 : w9.ownsRow W2.heap.size 47 3 v1 P.length (alc P) := by
                 have e1 : 0 + P.length = P.length := by omega
                 rw [e1, List.nil_append] at hown1
                 exact hown1
               obtain ⟨g, cap, hv1⟩ := ownsRow_form hown2 (by omega)
               subst hv1
               have HO9 := Lib.hid hown2
               clear hown1 hown2 hg1)
  clear k0 l0 HO8 HRD8 HB8
  obtain ⟨e0, e1, e2⟩ := alc_get P i hi
  have hok := HPB.out i hi
  obtain ⟨s, t, p, hx⟩ : ∃ s t p, P.getD i al0 = (s, t, p) := ⟨_, _, _, rfl⟩
  have HRG : Hid (rungL P i = if p = 0 ∨ 1000000000000 < t + p then P.eraseIdx i else P.set i (s, t + p, p)) := Lib.hid (by unfold rungL; rw [hx])
  have HAS := Lib.hid (alc_set P i (t + p) hi)
  rw [hx] at e0 e1 e2 hok HAS
  dsimp only at e0 e1 e2 HAS
  have t0 := hok.a0
  have t1 := hok.a1
  have p0 := hok.e0
  have p1 := hok.e1
  rw [MT_eq] at t1 p1
  dsimp only at t0 t1 p0 p1
  have c0 : w9.cell? ⟨g, i * 3, none⟩ = some (.string s) := (HO9.out.cellAt _ (by omega)).trans e0
  have c1 : w9.cell? ⟨g, i * 3 + 1, none⟩ = some (.int .i64 t) := (HO9.out.cellAt _ (by omega)).trans e1
  have c2 : w9.cell? ⟨g, i * 3 + 2, none⟩ = some (.int .i64 p) := (HO9.out.cellAt _ (by omega)).trans e2
  have f1 := HO9.out.frozenAt (i * 3 + 1)
  have hw1 : IntKind.i64.wrap (t + p) = t + p := IntWalk.i64_in _ (by omega)
  have hii : (i : Int) < (P.length : Int) := by omega
  have hi0' : (0 : Int) ≤ (i : Int) := by omega
  have hbl := World.block_lt_of_cell? _ _ c0
  dsimp only at hbl
  clear e0 e1 e2 hok
  go_wp2_with fail
  go_still_tail 15, (by kernel_rfl)
  change wpList _ _ _ _ _ w9.drew
  obtain ⟨w10, hw10⟩ : ∃ W, w9.drew = W := ⟨_, rfl⟩
  have HO10 : Hid (w10.ownsRow W2.heap.size 47 3 (.slice (some ⟨g, 0, none⟩) P.length cap) P.length (alc P)) := by rw [← hw10]; exact Lib.hid HO9.out
  have HB10 : Hid (Below W2.heap.size W2 w10) := by rw [← hw10]; exact Lib.hid HB9.out.drew
  rw [hw10]
  clear hw10 c0 c1 c2 f1 hw1 HO9 HB9
  have hgB := (HO10.out.lt g rfl).1
  have c1 : w10.cell? ⟨g, i * 3 + 1, none⟩ = some (.int .i64 t) := by
    have := (HO10.out.cellAt (i * 3 + 1) (by omega)).trans (alc_get P i hi).2.1
    rw [hx] at this; exact this
  have f1 := HO10.out.frozenAt (i * 3 + 1)
  have HO11 := Lib.hid ((HO10.out.stored (i * 3 + 1) (.int .i64 (t + p))).1)
  rw [HAS.out] at HO11
  have HB11 := Lib.hid (HB10.out.setCell (p := ⟨g, i * 3 + 1, none⟩) hgB (.int .i64 (t + p)))
  go_upto_region 3 with fail
  obtain ⟨V, hV⟩ : ∃ W, w10.setCell ⟨g, i * 3 + 1, none⟩ (.int .i64 (t + p)) = W := ⟨_, rfl⟩
  rw [hV] at HO11 HB11 ⊢
  clear hV c1 f1 HO10 HB10 hbl
  have hPl : (P.set i (s, t + p, p)).length = P.length := List.length_set
  obtain ⟨Q, hQ⟩ : ∃ Q, P.set i (s, t + p, p) = Q := ⟨_, rfl⟩
  rw [hQ] at HO11 hPl
  have hQi : Q.getD i al0 = (s, t + p, p) := by rw [← hQ]; simp [List.getD, hi]
  have HQ := Lib.hid hQ
  have HQL := Lib.hid hPl
  have cq : ∀ j, j < P.length → V.cell? ⟨g, j * 3, none⟩ = some (.string (Q.getD j al0).1) ∧ V.cell? ⟨g, j * 3 + 1, none⟩ = some (.int .i64 (Q.getD j al0).2.1) ∧ V.cell? ⟨g, j * 3 + 2, none⟩ = some (.int .i64 (Q.getD j al0).2.2) := by
    intro j hj
    obtain ⟨q0, q1, q2⟩ := alc_get Q j (by omega)
    exact ⟨(HO11.out.cellAt _ (by omega)).trans q0, (HO11.out.cellAt _ (by omega)).trans q1, (HO11.out.cellAt _ (by omega)).trans q2⟩
  have CQ := Lib.hid cq
  have c1 : V.cell? ⟨g, i * 3 + 1, none⟩ = some (.int .i64 (t + p)) := by rw [(cq i hi).2.1, hQi]
  have c2 : V.cell? ⟨g, i * 3 + 2, none⟩ = some (.int .i64 p) := by rw [(cq i hi).2.2, hQi]
  have HX3 := Lib.hid ((HB11.out.block _ (blk_lt HX2.out)).trans HX2.out)
  have k4 : V.cell? ⟨w.heap.size + 1, 0, none⟩ = some (.slice none 0 0) := by rw [cell_of_block HX3.out]; rfl
  have f4 := unfrozen_of_block HX3.out
  have l4 := blk_lt HX3.out
  have HBV := Lib.hid (below_tr HB2.out HB11.out)
  have hne4 : w.heap.size + 1 ≠ g := by have := blk_lt HX2.out; omega
  clear cq hQ hPl hQi HX1 HX2 HB11 HAS
  by_cases hend : p = 0 ∨ 1000000000000 < t + p
  · have hR : rungL P i = P.eraseIdx i := by rw [HRG.out, if_pos hend]
    have HR := Lib.hid hR
    clear HRG hR
    have dd : (p == 0) = true ∨ ((p == 0) = false ∧ decide (1000000000000 < t + p) = true) := by
      by_cases h : p = 0
      · exact .inl (by simpa using h)
      · exact .inr ⟨by simpa using h, by simp; omega⟩
    clear hend
    obtain ⟨hm, hcs⟩ : P.length ≤ cap ∧ cap ≤ maxLen := by
      rcases HO11.out.2 with ⟨h', _⟩ | ⟨g', cap', cur, h', _, _, hnc, hcm, _⟩
      · cases h'
      · cases h'; exact ⟨hnc, hcm⟩
    have hcm : cap ≤ 9223372036854775807 := by unfold maxLen at hcs; omega
    obtain ⟨NW, hNW⟩ : ∃ NW, alc (Q.drop (i + 1)) = NW := ⟨_, rfl⟩
    have hnl : NW.length = (P.length - (i + 1)) * 3 := by rw [← hNW, alc_length, List.length_drop, HQL.out]
    have hng : ∀ j, j < P.length - (i + 1) → NW[j * 3]? = some (.string (Q.getD (i + 1 + j) al0).1) ∧ NW[j * 3 + 1]? = some (.int .i64 (Q.getD (i + 1 + j) al0).2.1) ∧ NW[j * 3 + 2]? = some (.int .i64 (Q.getD (i + 1 + j) al0).2.2) := by
      intro j hj
      rw [← hNW, ← getD_drop]
      exact alc_get _ j (by rw [List.length_drop, HQL.out]; exact hj)
    have hcell : ∀ j u, NW[j]? = some u → V.drew.cell? ⟨g, (i + 1) * 3 + j, none⟩ = some u := by
      intro j u hu
      have hj : j < (P.length - (i + 1)) * 3 := by rw [← hnl]; exact (List.getElem?_eq_some_iff.1 hu).1
      have hq := CQ.out (i + 1 + j / 3) (by omega)
      have hn' := hng (j / 3) (by omega)
      rcases (show j % 3 = 0 ∨ j % 3 = 1 ∨ j % 3 = 2 by omega) with hm' | hm' | hm'
      · have ej : j = j / 3 * 3 := by omega
        rw [ej, hn'.1] at hu
        rw [show (i + 1) * 3 + j = (i + 1 + j / 3) * 3 by omega, ← hu]; exact hq.1
      · have ej : j = j / 3 * 3 + 1 := by omega
        rw [ej, hn'.2.1] at hu
        rw [show (i + 1) * 3 + j = (i + 1 + j / 3) * 3 + 1 by omega, ← hu]; exact hq.2.1
      · have ej : j = j / 3 * 3 + 2 := by omega
        rw [ej, hn'.2.2] at hu
        rw [show (i + 1) * 3 + j = (i + 1 + j / 3) * 3 + 2 by omega, ← hu]; exact hq.2.2
    obtain ⟨A, hA, hnews⟩ : ∃ A : Addr, (if cap = i + 1 then some (⟨g, 0, none⟩ : Addr) else some ⟨g, (i + 1) * 3, none⟩) = some A ∧ Hid (∀ j u, NW[j]? = some u → V.drew.cell? (A.add j) = some u) := by
      by_cases h : cap = i + 1
      · refine ⟨⟨g, 0, none⟩, by simp [h], Lib.hid fun j u hu => ?_⟩
        have h0 : NW.length = 0 := by rw [hnl]; omega
        rw [List.length_eq_zero_iff.1 h0] at hu
        simp at hu
      · refine ⟨⟨g, (i + 1) * 3, none⟩, by simp [h], Lib.hid fun j u hu => ?_⟩
        rw [Addr.add_lit]
        exact hcell j u hu
    have s1 := Lib.hid hnl
    have s2 : Hid (∀ u ∈ NW, u.oneCell' = true) := Lib.hid (by rw [← hNW]; exact alc_one _)
    have s3 : Hid (∀ j, j < NW.length → (V.drew.cell? ⟨g, 0 + i * 3 + j, none⟩).isSome = true ∧ V.drew.frozen? ⟨g, 0 + i * 3 + j, none⟩ = false) := Lib.hid (by
      intro j hj
      rw [hnl] at hj
      refine ⟨?_, HO11.out.frozenAt _⟩
      show (V.cell? _).isSome = true
      rw [HO11.out.cellAt (0 + i * 3 + j) (by omega), List.getElem?_eq_getElem (by rw [alc_length, HQL.out]; omega)]
      rfl)
    have HNG := Lib.hid hng
    have hic : i ≤ cap := by omega
    have hwr : IntKind.i64.wrap ((i : Int) + 1) = (i : Int) + 1 := IntWalk.i64_in _ (by omega)
    have hp0 : (0 : Int) ≤ (i : Int) + 1 := by omega
    have hp1 : (i : Int) + 1 ≤ (P.length : Int) := by omega
    have hp2 : ((i : Int) + 1).toNat = i + 1 := by omega
    clear hNW hnl hng hcell
    rcases dd with d1 | ⟨d1, d2⟩
    all_goals
      go_upto_region 4 with fail
      clear c1 c2
      go_wp2_with fail
      go_region_law (refine step_append_room rfl (.tmp 41) (.tmp 45) 22 rfl 47 i0 3 Tryd.underlying22 hi0 hz1 g 0 i cap (by simp [Act.eval, Act.put]) A (P.length - (i + 1)) (cap - (i + 1)) NW (by simp [Act.eval, Act.put]) s1.out hnews.out s2.out (by omega) s3.out ?_)
      obtain ⟨U, hU⟩ : ∃ U, V.drew.setCells g (i * 3) NW = U := ⟨_, rfl⟩
      have hbU : Below w.heap.size w U := by rw [← hU]; exact Go.below_setCells (by have := HB2.out.size; omega) _ _ _ HBV.out.drew
      have hex : (P.eraseIdx i).length = i + (P.length - (i + 1)) := by rw [List.length_eraseIdx_of_lt hi]; omega
      have hcU : ∀ j, j < i + (P.length - (i + 1)) → U.cell? ⟨g, j * 3, none⟩ = some (.string ((P.eraseIdx i).getD j al0).1) ∧ U.cell? ⟨g, j * 3 + 1, none⟩ = some (.int .i64 ((P.eraseIdx i).getD j al0).2.1) ∧ U.cell? ⟨g, j * 3 + 2, none⟩ = some (.int .i64 ((P.eraseIdx i).getD j al0).2.2) := by
        intro j hj
        rw [getD_erase, ← hU]
        by_cases hji : j < i
        · rw [if_pos hji, ← getD_set_ne (x := (s, t + p, p)) (show j ≠ i by omega), HQ.out]
          have out : ∀ m, m < i * 3 → (V.drew.setCells g (i * 3) NW).cell? ⟨g, m, none⟩ = V.cell? ⟨g, m, none⟩ := fun m hm => World.cell?_setCells_out g NW (i * 3) V.drew ⟨g, m, none⟩ (fun _ _ => .inl hm)
          rw [out _ (by omega), out _ (by omega), out _ (by omega)]
          exact CQ.out j (by omega)
        · rw [if_neg hji, ← getD_set_ne (x := (s, t + p, p)) (show j + 1 ≠ i by omega), HQ.out]
          have inn : ∀ m (hm : m < NW.length), (V.drew.setCells g (i * 3) NW).cell? ⟨g, i * 3 + m, none⟩ = some NW[m] := fun m hm => World.cell?_setCells_in g NW (i * 3) V.drew (fun q hq => by have := (s3.out q hq).1; rwa [Nat.zero_add] at this) m hm
          have hl := s1.out
          obtain ⟨n0, n1, n2⟩ := HNG.out (j - i) (by omega)
          rw [show i + 1 + (j - i) = j + 1 by omega] at n0 n1 n2
          have g0 : ∀ m v, NW[m]? = some v → (V.drew.setCells g (i * 3) NW).cell? ⟨g, i * 3 + m, none⟩ = some v := fun m v hv => by
            obtain ⟨hm, hv'⟩ := List.getElem?_eq_some_iff.1 hv
            rw [inn m hm, hv']
          refine ⟨?_, ?_, ?_⟩
          · have := g0 _ _ n0
            rwa [show i * 3 + (j - i) * 3 = j * 3 by omega] at this
          · have := g0 _ _ n1
            rwa [show i * 3 + ((j - i) * 3 + 1) = j * 3 + 1 by omega] at this
          · have := g0 _ _ n2
            rwa [show i * 3 + ((j - i) * 3 + 2) = j * 3 + 2 by omega] at this
      have k5 : U.cell? ⟨w.heap.size + 1, 0, none⟩ = some (.slice none 0 0) := by
        rw [← hU]
        exact (World.cell?_setCells_out g NW (i * 3) V.drew ⟨w.heap.size + 1, 0, none⟩ (fun e _ => absurd e hne4)).trans k4
      have f5 : ∀ q, U.frozen? ⟨w.heap.size + 1, q, none⟩ = false := fun q => by
        rw [← hU]
        exact (World.frozen?_setCells g NW (i * 3) V.drew ⟨w.heap.size + 1, q, none⟩).trans (f4 q)
      have HCU := Lib.hid hcU
      have HBU := Lib.hid hbU
      have HEX := Lib.hid hex
      rw [hU]
      clear hU hcU hbU hex k4 f4
      (try simp only [Exit.inBlock, Exit.then])
      go_wp2
      refine bodyPost_ret (v := pV (some ⟨g, 0, none⟩) (i + (P.length - (i + 1))) cap) (by simp [results, Tryd.results37, go_sem, k5, f5]) rfl ⟨g, cap, by rw [HR.out, HEX.out], by have := HB2.out.size; omega, ?_, HBU.out.setCell (p := ⟨w.heap.size + 1, 0, none⟩) (by dsimp only; omega) _⟩
      rw [HR.out, HEX.out]
      refine .inr ⟨g, 0, rfl, fun j hj => ?_⟩
      have key : ∀ m, (U.setCell ⟨w.heap.size + 1, 0, none⟩ (.slice (some ⟨g, 0, none⟩) (i + (P.length - (i + 1))) cap)).cell? ⟨g, m, none⟩ = U.cell? ⟨g, m, none⟩ := fun m => World.cell?_setCell_other _ _ _ _ (fun e => hne4 (by injection e))
      rw [Nat.zero_add, key, key, key]
      exact HCU.out j hj
  · have hR : rungL P i = Q := by rw [HRG.out, if_neg hend, HQ.out]
    have d1 : (p == 0) = false := by simp; omega
    have d2 : decide (1000000000000 < t + p) = false := by simp; omega
    have HR := Lib.hid hR
    clear HRG hend hR
    go_wp2
    refine bodyPost_ret (v := pV (some ⟨g, 0, none⟩) P.length cap) (by simp [results, Tryd.results37, go_sem, k4, f4]) rfl ⟨g, cap, by rw [HR.out, HQL.out], by have := HB2.out.size; omega, ?_, HBV.out.setCell (p := ⟨w.heap.size + 1, 0, none⟩) (by dsimp only; omega) _⟩
    rw [HR.out, HQL.out]
    refine .inr ⟨g, 0, rfl, fun j hj => ?_⟩
    have key : ∀ m, (V.setCell ⟨w.heap.size + 1, 0, none⟩ (.slice (some ⟨g, 0, none⟩) P.length cap)).cell? ⟨g, m, none⟩ = V.cell? ⟨g, m, none⟩ := fun m => World.cell?_setCell_other _ _ _ _ (fun e => hne4 (by injection e))
    rw [Nat.zero_add, key, key, key]
    exact CQ.out j hj
end
end Go.Proofs.YtjceahbikdncmaaDoor

namespace Go.Proofs.YtjceahbikdncmaaDoor
open Go.RowKit Go.Sort Go.Joins Go.Shelf
attribute [local go_sem] cell_grow frozen_grow size_grow Oper.semAt_some
set_option maxRecDepth 100000 in
theorem cloneA_ok {w : World} {a : Option Addr} {c : Nat} {L : List Al} (hS : SlA w a L.length (fun j => L.getD j al0)) (h50 : L.length ≤ 100) :
    Calls Tryd.prog 45 #[.slice a L.length c] w fun e w' => ∃ v, e = .returned v ∧ w'.ownsRow w.heap.size 47 3 v L.length (alc L) ∧ Below w.heap.size w w' := by
  obtain ⟨i0, hi0, hz0, hz1, hz2'⟩ := info_parts info_alarm
  cases a with
  | none =>
    have h0 : L.length = 0 := by rcases hS with h | ⟨_, _, h, _⟩; exact h; cases h
    have hL : L = [] := List.length_eq_zero_iff.1 h0
    subst hL
    have hq := fun (w : World) => Lib.run_eql_slice_nil (P := Tryd.prog) w 22 47 none 0 c 0 0 Tryd.underlying22
    clear h0 hS
    rw [List.length_nil]
    go_enter Tryd.func45, Tryd.ntmps45
    go_wp2
    go_ret
    exact ⟨_, rfl, World.ownsRow_nil _ _ _ _, Below.refl _ _⟩
  | some ad =>
    have hq := fun (w : World) => Lib.run_eql_slice_nil (P := Tryd.prog) w 22 47 (some ad) L.length c 0 0 Tryd.underlying22
    have HO8 : Hid ((w.alloc (.cells #[] 47)).ownsRow w.heap.size 47 3 (.slice (some ⟨w.heap.size, 0, none⟩) 0 0) 0 []) := Lib.hid (World.ownsRow_lit w #[] 0 (Nat.le_refl _) (by decide) rfl)
    have HRD8 := Lib.hid (hS.readsL.alloc (Nat.le_refl _) (.cells #[] 47))
    have HB8 := Lib.hid (below_box0 w (.cells #[] 47))
    clear hS
    go_enter Tryd.func45, Tryd.ntmps45
    go_wp2_with (at_builtin
                 refine wpList_append_any _ (by simp [Region.wanted, yielded]) (.tmp 5) (.tmp 6) 22 rfl w.heap.size 47 i0 _ 3 32 Tryd.underlying22 hi0 hz0 hz1 hz2' rfl (by decide) (.slice (some ⟨w.heap.size, 0, none⟩) 0 0) 0 [] rfl
                   HO8.out w.heap.size (some ad) L.length c (alc L) rfl HRD8.out (alc_one L) (by unfold maxLen; omega) (by omega) HB8.out.size ?_
                 intro v1 w9 hown1 hg1 _
                 have HB9 := Lib.hid (HB8.out.grown hg1 HB8.out.size (by simp [Value.ownBlock]))
                 have HO9 : Hid (w9.ownsRow w.heap.size 47 3 v1 L.length (alc L)) := Lib.hid (by
                   have e1 : 0 + L.length = L.length := by omega
                   rw [e1, List.nil_append] at hown1
                   exact hown1)
                 clear hown1 hg1)
    go_ret
    exact ⟨v1, rfl, HO9.out, HB9.out⟩
end Go.Proofs.YtjceahbikdncmaaDoor

namespace Go.Proofs.YtjceahbikdncmaaDoor
open Go.RowKit Go.Sort Go.Joins Go.Shelf

/-- an alarm with the time of its next ring -/
def atF (R : Nat → Al) (f : Nat → Int) (k : Nat) : Al := ((R k).1, f k, (R k).2.2)
/-- the alarms that will still ring -/
def curL (R : Nat → Al) (f : Nat → Int) (s m : Nat) : List Al := (List.range' s m).filterMap (fun k => if 0 ≤ f k then some (atF R f k) else none)
section
variable {R : Nat → Al} {f : Nat → Int}
theorem cur_cons_yes {s m : Nat} (h : 0 ≤ f s) : curL R f s (m + 1) = atF R f s :: curL R f (s + 1) m := by
  unfold curL
  rw [List.range'_succ, List.filterMap_cons, if_pos h]
theorem cur_cons_no {s m : Nat} (h : ¬ 0 ≤ f s) : curL R f s (m + 1) = curL R f (s + 1) m := by
  unfold curL
  rw [List.range'_succ, List.filterMap_cons, if_neg h]
theorem cur_append (s m k : Nat) : curL R f s (m + k) = curL R f s m ++ curL R f (s + m) k := by
  unfold curL
  rw [← List.filterMap_append, List.range'_append_1]
theorem cur_yes {n b : Nat} (hb : b < n) (h : 0 ≤ f b) : curL R f 0 n = curL R f 0 b ++ atF R f b :: curL R f (b + 1) (n - (b + 1)) := by
  have e : n = b + (n - (b + 1) + 1) := by omega
  conv => lhs; rw [e]
  rw [cur_append, Nat.zero_add, cur_cons_yes h]
theorem cur_no {n b : Nat} (hb : b < n) (h : ¬ 0 ≤ f b) : curL R f 0 n = curL R f 0 b ++ curL R f (b + 1) (n - (b + 1)) := by
  have e : n = b + (n - (b + 1) + 1) := by omega
  conv => lhs; rw [e]
  rw [cur_append, Nat.zero_add, cur_cons_no h]
theorem cur_mem {s m : Nat} {y : Al} : y ∈ curL R f s m ↔ ∃ k, s ≤ k ∧ k < s + m ∧ 0 ≤ f k ∧ y = atF R f k := by
  unfold curL
  rw [List.mem_filterMap]
  constructor
  · rintro ⟨k, hk, h⟩
    rw [List.mem_range'_1] at hk
    by_cases h0 : 0 ≤ f k
    · rw [if_pos h0] at h; cases h; exact ⟨k, hk.1, hk.2, h0, rfl⟩
    · rw [if_neg h0] at h; cases h
  · rintro ⟨k, h1, h2, h3, rfl⟩
    exact ⟨k, List.mem_range'_1.2 ⟨h1, h2⟩, if_pos h3⟩
theorem fm_congr {α β : Type} {p q : α → Option β} : ∀ {l : List α}, (∀ x ∈ l, p x = q x) → l.filterMap p = l.filterMap q
  | [], _ => rfl
  | x :: l, h => by
    rw [List.filterMap_cons, List.filterMap_cons, h x List.mem_cons_self, fm_congr fun y hy => h y (List.mem_cons_of_mem _ hy)]
theorem cur_congr {g : Nat → Int} {s m : Nat} (h : ∀ k, s ≤ k → k < s + m → f k = g k) : curL R f s m = curL R g s m := by
  unfold curL
  refine fm_congr fun k hk => ?_
  rw [List.mem_range'_1] at hk
  have e := h k hk.1 hk.2
  unfold atF
  rw [e]
theorem cur_len {s m : Nat} : (curL R f s m).length ≤ m := by
  unfold curL
  exact Nat.le_trans (List.length_filterMap_le _ _) (by simp)
theorem getD_mid (A B : List Al) (x : Al) : (A ++ x :: B).getD A.length al0 = x := by simp [List.getD]
/-- a ring of one alarm -/
theorem cur_step {g : Nat → Int} {n b : Nat} (hb : b < n) (h : 0 ≤ f b) (hg : ∀ k, k ≠ b → g k = f k)
    (hgb : g b = if (R b).2.2 = 0 ∨ 1000000000000 < f b + (R b).2.2 then -1 else f b + (R b).2.2) (hE : 0 ≤ (R b).2.2) :
    rungL (curL R f 0 n) (curL R f 0 b).length = curL R g 0 n := by
  have c1 : curL R g 0 b = curL R f 0 b := cur_congr fun k _ hk => hg k (by omega)
  have c2 : curL R g (b + 1) (n - (b + 1)) = curL R f (b + 1) (n - (b + 1)) := cur_congr fun k hk _ => hg k (by omega)
  rw [cur_yes hb h]
  unfold rungL
  rw [getD_mid]
  have e1 : (atF R f b).2.2 = (R b).2.2 := rfl
  have e2 : (atF R f b).2.1 = f b := rfl
  have e3 : (atF R f b).1 = (R b).1 := rfl
  rw [e1, e2, e3]
  by_cases hc : (R b).2.2 = 0 ∨ 1000000000000 < f b + (R b).2.2
  · rw [if_pos hc] at hgb ⊢
    rw [List.eraseIdx_append_of_length_le (Nat.le_refl _), Nat.sub_self, cur_no hb (by omega : ¬ 0 ≤ g b), c1, c2]
    rfl
  · rw [if_neg hc] at hgb ⊢
    rw [List.set_append_right _ _ (Nat.le_refl _), Nat.sub_self, cur_yes hb (by omega : 0 ≤ g b), c1, c2]
    unfold atF
    rw [hgb]
    rfl
theorem bst_uniq {A : Nat → Int} {n b : Nat} (hb : b < n) (h0 : 0 ≤ A b) (hm : ∀ i, i < n → 0 ≤ A i → A b < A i ∨ (A b = A i ∧ b ≤ i)) : bst A n = b := by
  rcases bst_spec A n with ⟨_, h⟩ | ⟨b', e, hb', h0', hm'⟩
  · have := h b hb; omega
  · have h1 := hm b' hb' h0'
    have h2 := hm' b hb h0
    rw [e]
    omega
/-- the alarm that rings first, in what is left -/
theorem cur_bst {n b : Nat} (hb : b < n) (h0 : 0 ≤ f b) (hm : ∀ i, i < n → 0 ≤ f i → f b < f i ∨ (f b = f i ∧ b ≤ i)) :
    bst (tmsA (fun j => (curL R f 0 n).getD j al0)) (curL R f 0 n).length = ((curL R f 0 b).length : Nat) ∧ (curL R f 0 b).length < (curL R f 0 n).length ∧ (curL R f 0 n).getD (curL R f 0 b).length al0 = atF R f b := by
  have hs := cur_yes (R := R) hb h0
  have hx : (curL R f 0 n).getD (curL R f 0 b).length al0 = atF R f b := by rw [hs]; exact getD_mid _ _ _
  have hl : (curL R f 0 b).length < (curL R f 0 n).length := by rw [hs]; simp
  refine ⟨bst_uniq hl ?_ ?_, hl, hx⟩
  · show 0 ≤ ((curL R f 0 n).getD (curL R f 0 b).length al0).2.1
    rw [hx]; exact h0
  · intro j hj _
    show ((curL R f 0 n).getD (curL R f 0 b).length al0).2.1 < ((curL R f 0 n).getD j al0).2.1 ∨ (((curL R f 0 n).getD (curL R f 0 b).length al0).2.1 = ((curL R f 0 n).getD j al0).2.1 ∧ _)
    rw [hx]
    have e : (curL R f 0 n).getD j al0 = (curL R f 0 n)[j] := by simp [List.getD, hj]
    rw [e]
    by_cases hjb : j < (curL R f 0 b).length
    · left
      have hmem : (curL R f 0 n)[j] ∈ curL R f 0 b := by
        have : (curL R f 0 n)[j]? = (curL R f 0 b)[j]? := by rw [hs, List.getElem?_append_left hjb]
        rw [List.getElem?_eq_getElem hj, List.getElem?_eq_getElem hjb] at this
        rw [Option.some.inj this]
        exact List.getElem_mem hjb
      obtain ⟨k, _, hk, hk0, hy⟩ := cur_mem.1 hmem
      rw [hy]
      have := hm k (by omega) hk0
      show f b < f k
      omega
    · obtain ⟨k, _, hk, hk0, hy⟩ := cur_mem.1 (List.getElem_mem hj)
      rw [hy]
      have := hm k (by omega) hk0
      show f b < f k ∨ (f b = f k ∧ _)
      omega
theorem cur_none {n : Nat} (h : ∀ i, i < n → f i < 0) : curL R f 0 n = [] := by
  rw [List.eq_nil_iff_forall_not_mem]
  intro y hy
  obtain ⟨k, _, hk, hk0, _⟩ := cur_mem.1 hy
  have := h k (by omega)
  omega
/-- what is left in the end -/
theorem cur_rst {u : Int} : ∀ {n : Nat}, (∀ i, i < n → nxA (R i).2 u = if f i < 0 then -1 else f i) → rstA R u n = curL R f 0 n
  | 0, _ => rfl
  | m + 1, h => by
    have ih := cur_rst (u := u) (n := m) fun i hi => h i (by omega)
    have hm := h m (by omega)
    rw [cur_append 0 m 1, Nat.zero_add, ← ih]
    simp only [rstA]
    by_cases h0 : 0 ≤ f m
    · have hv : nxA (R m).2 u = f m := by rw [hm, if_neg (by omega)]
      rw [cur_cons_yes h0, hv, if_pos h0]; rfl
    · have hv : nxA (R m).2 u = -1 := by rw [hm, if_pos (by omega)]
      rw [cur_cons_no h0, hv, if_neg (by omega)]; simp [curL]
/-- what there is in the beginning -/
theorem cur_all {n : Nat} (h : ∀ i, i < n → 0 ≤ f i ∧ f i = (R i).2.1) : ∀ {m : Nat}, m ≤ n → (curL R f 0 m).length = m ∧ ∀ j, j < m → (curL R f 0 m).getD j al0 = R j
  | 0, _ => ⟨rfl, fun j hj => by omega⟩
  | m + 1, hm => by
    obtain ⟨h1, h2⟩ := cur_all h (m := m) (by omega)
    obtain ⟨f0, f1⟩ := h m (by omega)
    have e : curL R f 0 (m + 1) = curL R f 0 m ++ [atF R f m] := by
      rw [cur_append 0 m 1, Nat.zero_add, cur_cons_yes f0]; simp [curL]
    rw [e]
    refine ⟨by simp [h1], fun j hj => ?_⟩
    by_cases hjm : j = m
    · subst hjm
      have := getD_mid (curL R f 0 j) [] (atF R f j)
      rw [h1] at this
      rw [this]
      unfold atF
      rw [f1]
    · rw [← h2 j (by omega)]
      simp only [List.getD]
      rw [List.getElem?_append_left (by omega)]
end
end Go.Proofs.YtjceahbikdncmaaDoor

namespace Go.Proofs.YtjceahbikdncmaaDoor
open Go.RowKit Go.Sort Go.Joins Go.Shelf
attribute [local go_sem] cell_grow frozen_grow size_grow Oper.semAt_some
section
variable {P : Program} (w : World)
theorem step_append_any {ops : Array Oper} {o : Oper} {a : Act} {K : Act → World → Prop} {Q : Exit → Act → World → Prop} {E : Prop} (hgd : o.guard = none) (s x : Operand) (t : TypeId)
    (ho : o.op = .call { callee := .builtin .append, args := #[s, x], argTypes := #[t, t] })
    (base : Nat) (e : TypeId) (i : TypeInfo) (z : Value) (size bytes : Nat) (ht : P.underlying t = some (.slice e)) (hi : P.info? e = some i) (hz : i.zero = some z)
    (hsize : i.size = size) (hby : i.bytes = bytes) (hzs : z.cells.size = size) (hsz : 0 < size)
    (v : Value) (n : Nat) (xs : List Value) (hs : a.eval s = v) (hown : w.ownsRow base e size v n xs)
    (B : Nat) (A : Option Addr) (m c : Nat) (news : List Value) (hx : a.eval x = .slice A m c) (hr : Reads w B size A m news) (h1 : ∀ u ∈ news, u.oneCell' = true)
    (h63 : n + m ≤ maxLen) (hbytes : (n + m) * bytes ≤ 140737488355328) (hbase : base ≤ w.heap.size)
    (h : ∀ v' w', w'.ownsRow base e size v' (n + m) (xs ++ news) → w.grownBy w' v.ownBlock → (v'.ownBlock = v.ownBlock ∨ v'.ownBlock = some w.heap.size) → K (a.put o.dst v') w') :
    if Region.wanted o (yielded ops a.tmps) = true then Oper.wp P o a w K Q else E := by
  have hw : Region.wanted o (yielded ops a.tmps) = true := by simp [Region.wanted, hgd]
  rw [if_pos hw]
  exact wp_append_any w s x t ho base e i z size bytes ht hi hz hsize hby hzs hsz v n xs hs hown B A m c news hx hr h1 h63 hbytes hbase h
end
theorem pos_nextR {a : Int × Int} (h : AlOk a) {c : Nat} (hp : 0 ≤ pos a c) : pos a (c + 1) = if a.2 = 0 ∨ 1000000000000 < pos a c + a.2 then -1 else pos a c + a.2 := by
  obtain ⟨e1, e2, e3⟩ := pos_nonneg h hp
  rw [e1]
  have hm : ((c + 1 : Nat) : Int) * a.2 = (c : Int) * a.2 + a.2 := by rw [Int.natCast_add, Int.add_mul]; simp
  by_cases h0 : a.2 = 0
  · rw [if_pos (.inl h0)]
    unfold pos
    rw [if_pos h0, if_neg (by omega)]
  · have hd : pos a (c + 1) = if a.1 + ((c + 1 : Nat) : Int) * a.2 ≤ MT then a.1 + ((c + 1 : Nat) : Int) * a.2 else -1 := by unfold pos; rw [if_neg h0]
    rw [hd, hm, MT_eq]
    by_cases h1 : 1000000000000 < a.1 + (c : Int) * a.2 + a.2
    · rw [if_neg (by omega), if_pos (Or.inr h1)]
    · rw [if_pos (by omega), if_neg (by omega)]; omega
/-- the next times of a plan -/
abbrev fc (R : Nat → Al) (c : Nat → Nat) (i : Nat) : Int := pos (alP R i) (c i)
theorem SlA.grown {w w' : World} {a : Option Addr} {n : Nat} {R : Nat → Al} {row : Option Nat} (h : SlA w a n R) (hg : w.grownBy w' row) (hr : ∀ q, a = some q → some q.block ≠ row) : SlA w' a n R := by
  rcases h with h | ⟨b, o, ha, hc⟩
  · exact .inl h
  · refine .inr ⟨b, o, ha, fun j hj => ?_⟩
    obtain ⟨h0, h1, h2⟩ := hc j hj
    have hl := World.block_lt_of_cell? _ _ h0
    dsimp only at hl
    have hne := hr _ ha
    have hb := hg.block b hl hne
    exact ⟨(World.cell?_of_block hb).trans h0, (World.cell?_of_block hb).trans h1, (World.cell?_of_block hb).trans h2⟩
/-- what the loop of the reference's Run keeps -/
structure RR (w : World) (B n : Nat) (R : Nat → Al) (u : Int) (c : Nat → Nat) (L : List (Int × Nat)) (v : Value) (ap : Option Addr) (cp : Nat) (W : World) : Prop where
  k : Below w.heap.size w W
  rg : RgAt n (alP R) u c L
  own : W.ownsRow B 45 2 v L.length (rgc (L.map (rgN R)))
  p : BoxA W w.heap.size ap (curL R (fc R c) 0 n).length cp
  sl : SlA W ap (curL R (fc R c) 0 n).length (fun j => (curL R (fc R c) 0 n).getD j al0)
  b5 : BoxA W (w.heap.size + 1) none 0 0
  ne : ∀ r, v.ownBlock = some r → ∀ q, ap = some q → q.block ≠ r
  hB : w.heap.size + 2 ≤ B
  hW : B ≤ W.heap.size
  le : L.length ≤ 1000
section
variable {w W W' : World} {B n cp : Nat} {R : Nat → Al} {u : Int} {c : Nat → Nat} {L : List (Int × Nat)} {v : Value} {ap : Option Addr}
theorem RR.below (h : RR w B n R u c L v ap cp W) (hb : Below W.heap.size W W') : RR w B n R u c L v ap cp W' :=
  ⟨below_tr h.k hb, h.rg, own_below h.own hb, (hb.block _ (blk_lt h.p)).trans h.p, h.sl.below hb, (hb.block _ (blk_lt h.b5)).trans h.b5, h.ne, h.hB, Nat.le_trans h.hW hb.size, h.le⟩
theorem cur_ok (hP : PlOk n R) {j : Nat} (hj : j < (curL R (fc R c) 0 n).length) : AlOk ((curL R (fc R c) 0 n).getD j al0).2 := by
  have e : (curL R (fc R c) 0 n).getD j al0 = (curL R (fc R c) 0 n)[j] := by simp [List.getD, hj]
  rw [e]
  obtain ⟨k, _, hk, hk0, hy⟩ := cur_mem.1 (List.getElem_mem hj)
  rw [hy]
  have ha := hP.ok k (by omega)
  obtain ⟨_, p2, _⟩ := pos_nonneg (a := alP R k) ha hk0
  exact ⟨hk0, p2, ha.e0, ha.e1⟩
end
/-- what the reference's Run hands back -/
def RRunPost (w : World) (n : Nat) (R : Nat → Al) (u : Int) (e : Ending) (w' : World) : Prop :=
  (rnE n R u = 0 ∧ RunPost w n R u e w') ∨ (rnE n R u ≠ 0 ∧ e = .returned (.tuple #[.slice none 0 0, .agg #[.slice none 0 0], .int .i64 (rnE n R u)]) ∧ Below w.heap.size w w')
section
variable {w : World} {a : Option Addr} {n c : Nat} {R : Nat → Al} {u : Int}
set_option maxRecDepth 100000 in
set_option maxHeartbeats 3200000 in
theorem rrun_bad (hS : SlA w a n R) (hn : n ≤ 9223372036854775807) (hR : ∀ j, j < n → AlB (R j)) (hE : ctE n R u ≠ 0) :
    Calls Tryd.prog 12 #[pV a n c, .int .i64 u] w (RRunPost w n R u) := by
  have b1 : Below w.heap.size w ((w.alloc (.cells #[.slice a n c] 24)).alloc (.cells #[.slice none 0 0] 24)) := ((Below.refl _ w).alloc (Nat.le_refl _) _).alloc (by simp) _
  have h5 : BoxA ((w.alloc (.cells #[.slice a n c] 24)).alloc (.cells #[.slice none 0 0] 24)) (w.heap.size + 1) none 0 0 := by
    have := heap_alloc_new (w.alloc (.cells #[.slice a n c] 24)) (.cells #[.slice none 0 0] 24)
    rwa [World.size_alloc] at this
  have HC := Lib.hid (rCheck_ok (c := c) (hS.below b1) hn hR)
  have HB := Lib.hid b1
  have H5 := Lib.hid h5
  have HT := Lib.hid (rtime_ok u)
  have hrn : rnE n R u = ctE n R u := by unfold rnE; rw [if_pos hE]
  have hw : (cE n R ≠ 0 ∧ ctE n R u = cE n R) ∨ (cE n R = 0 ∧ tmB u = false ∧ ctE n R u = 7) := by
    unfold ctE at hE ⊢
    by_cases h0 : cE n R = 0
    · right
      rw [if_neg (by simpa using h0)] at hE ⊢
      cases ht : tmB u with
      | true => rw [ht] at hE; simp at hE
      | false => exact ⟨h0, rfl, by simp⟩
    · exact .inl ⟨h0, if_pos h0⟩
  clear hS hR b1 h5
  rcases hw with ⟨h0, he⟩ | ⟨h0, ht, he⟩
  · rw [he] at hrn
    obtain ⟨e0, he0⟩ : ∃ e, cE n R = e := ⟨_, rfl⟩
    rw [he0] at HC h0 hrn
    have d0 := bne0_true h0
    have d1 : (e0 == 0) = false := by simpa using h0
    have HR := Lib.hid hrn
    have H0 := Lib.hid h0
    clear he he0 h0 hrn hE
    go_enter Tryd.func12, Tryd.ntmps12
    go_wp2_with fail
    refine HC.out.mono ?_
    rintro e w1 ⟨rfl, b1⟩
    have h51 := (b1.block _ (blk_lt H5.out)).trans H5.out
    have k5 : w1.cell? ⟨w.heap.size + 1, 0, none⟩ = some (.slice none 0 0) := by rw [cell_of_block h51]; rfl
    have f5 := unfrozen_of_block h51
    have l5 := blk_lt h51
    have HB1 := Lib.hid (below_tr HB.out b1)
    clear b1 h51
    go_wp2
    refine bodyPost_ret (v := .tuple #[.slice none 0 0, .agg #[.slice none 0 0], .int .i64 e0]) (by simp [results, Tryd.results12, go_sem, k5, f5]) rfl (.inr ⟨by rw [HR.out]; exact H0.out, by rw [HR.out], HB1.out.setCell (p := ⟨w.heap.size + 1, 0, none⟩) (by dsimp only; omega) _⟩)
  · rw [he] at hrn
    rw [h0] at HC
    rw [ht] at HT
    have HR := Lib.hid hrn
    clear he h0 hrn hE ht
    go_enter Tryd.func12, Tryd.ntmps12
    go_wp2_with fail
    refine HC.out.mono ?_
    rintro e w1 ⟨rfl, b1⟩
    have h51 := (b1.block _ (blk_lt H5.out)).trans H5.out
    have k5 : w1.cell? ⟨w.heap.size + 1, 0, none⟩ = some (.slice none 0 0) := by rw [cell_of_block h51]; rfl
    have f5 := unfrozen_of_block h51
    have l5 := blk_lt h51
    have HB1 := Lib.hid (below_tr HB.out b1)
    clear b1 h51
    go_wp2_with (go_at_call 35; refine (HT.out _).mono ?_; rintro e w2 ⟨rfl, rfl⟩)
    refine bodyPost_ret (v := .tuple #[.slice none 0 0, .agg #[.slice none 0 0], .int .i64 7]) (by simp [results, Tryd.results12, go_sem, k5, f5]) rfl (.inr ⟨by rw [HR.out]; decide, by rw [HR.out], HB1.out.setCell (p := ⟨w.heap.size + 1, 0, none⟩) (by dsimp only; omega) _⟩)
end
end Go.Proofs.YtjceahbikdncmaaDoor
