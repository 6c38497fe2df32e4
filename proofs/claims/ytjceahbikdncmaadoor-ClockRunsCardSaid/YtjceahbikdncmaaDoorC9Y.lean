/- Clocks: the reference's rung: a plan after the next ring of an alarm. -/
import Derived.Test.YtjceahbikdncmaaDoorC9X
import Derived.Deep.RegionLaw
import Derived.Laws.IdiomCopy
import Derived.Lib.LazyBuf
import Derived.BigRegion
import Derived.Deep.Cut
import Derived.StillTailTactics
namespace Go.Proofs.YtjceahbikdncmaaDoor
open Go.RowKit Go.Sort Go.Joins Go.Shelf
attribute [local go_sem] cell_grow frozen_grow size_grow Oper.semAt_some

/-- a plan after the next ring of an alarm -/
def rungL (P : List Al) (i : Nat) : List Al :=
  if (P.getD i al0).2.2 = 0 ∨ 1000000000000 < (P.getD i al0).2.1 + (P.getD i al0).2.2 then P.eraseIdx i else P.set i ((P.getD i al0).1, (P.getD i al0).2.1 + (P.getD i al0).2.2, (P.getD i al0).2.2)
theorem SlA.readsL {w : World} {a : Option Addr} {l : List Al} (h : SlA w a l.length (fun j => l.getD j al0)) : Reads w w.heap.size 3 a l.length (alc l) := by
  have hl := alc_length l
  refine ⟨hl, fun hn => ?_⟩
  obtain ⟨b, o, rfl, hc⟩ := h.resolve_left (by omega)
  refine ⟨_, rfl, World.block_lt_of_cell? _ _ (hc 0 hn).1, fun j u hu => ?_⟩
  have hj : j < l.length * 3 := by rw [← hl]; exact (List.getElem?_eq_some_iff.1 hu).1
  obtain ⟨e0, e1, e2⟩ := alc_get l (j / 3) (by omega)
  obtain ⟨c0, c1, c2⟩ := hc (j / 3) (by omega)
  rw [Go.WideShapes.add_plain]
  rcases (show j % 3 = 0 ∨ j % 3 = 1 ∨ j % 3 = 2 by omega) with hm | hm | hm
  · have ej : j = j / 3 * 3 := by omega
    rw [ej, e0] at hu
    rw [ej, ← hu]; exact c0
  · have ej : j = j / 3 * 3 + 1 := by omega
    rw [ej, e1] at hu
    rw [ej, ← hu, ← Nat.add_assoc]; exact c1
  · have ej : j = j / 3 * 3 + 2 := by omega
    rw [ej, e2] at hu
    rw [ej, ← hu, ← Nat.add_assoc]; exact c2
theorem alc_set : ∀ (P : List Al) (i : Nat) (z : Int), i < P.length → (alc P).set (i * 3 + 1) (.int .i64 z) = alc (P.set i ((P.getD i al0).1, z, (P.getD i al0).2.2))
  | [], _, _, h => by simp at h
  | x :: P, 0, z, _ => by simp [alc]
  | x :: P, i + 1, z, h => by
    have ih := alc_set P i z (by simpa using h)
    simp only [alc, List.flatMap_cons, List.set_cons_succ] at ih ⊢
    rw [List.set_append_right _ _ (by simp; omega)]
    have e : (i + 1) * 3 + 1 - [Value.string x.1, Value.int .i64 x.2.1, Value.int .i64 x.2.2].length = i * 3 + 1 := by simp; omega
    rw [e, ih]
    simp
theorem getD_set_ne {P : List Al} {i j : Nat} {x : Al} (h : j ≠ i) : (P.set i x).getD j al0 = P.getD j al0 := by
  simp only [List.getD]
  rw [List.getElem?_set_ne (fun e => h e.symm)]
theorem getD_erase {P : List Al} {i j : Nat} : (P.eraseIdx i).getD j al0 = if j < i then P.getD j al0 else P.getD (j + 1) al0 := by
  simp only [List.getD]
  rw [List.getElem?_eraseIdx]
  split <;> rfl
theorem getD_drop {P : List Al} {i j : Nat} : (P.drop i).getD j al0 = P.getD (i + j) al0 := by
  simp [List.getD, List.getElem?_drop]
section
variable {w : World} {a : Option Addr} {c : Nat}
set_option maxRecDepth 100000 in
set_option maxHeartbeats 3200000 in
theorem rung_ok {P : List Al} {i : Nat} (hS : SlA w a P.length (fun j => P.getD j al0)) (h50 : P.length ≤ 50) (hi : i < P.length) (hb : ∀ j, j < P.length → AlOk (P.getD j al0).2) :
    Calls Tryd.prog 37 #[pV a P.length c, .int .i64 i] w fun e w' => ∃ (g' : Nat) (c' : Nat), e = .returned (pV (some ⟨g', 0, none⟩) (rungL P i).length c') ∧ w.heap.size ≤ g' ∧ SlA w' (some ⟨g', 0, none⟩) (rungL P i).length (fun j => (rungL P i).getD j al0) ∧ Below w.heap.size w w' := by
  obtain ⟨i0, hi0, hz0, hz1, hz2'⟩ := info_parts info_alarm
  have b2 : Below w.heap.size w ((w.alloc (.cells #[.slice a P.length c] 24)).alloc (.cells #[.slice none 0 0] 24)) := ((Below.refl _ w).alloc (Nat.le_refl _) _).alloc (by simp) _
  have HB2 := Lib.hid b2
  have HS2 := Lib.hid (hS.below b2)
  have hx1 : ((w.alloc (.cells #[.slice a P.length c] 24)).alloc (.cells #[.slice none 0 0] 24)).heap[w.heap.size]? = some (.cells #[.slice a P.length c] 24 (0, 0)) := (Below.heap_alloc _ _ _ (by simp)).trans (heap_alloc_new w _)
  have hx2 : ((w.alloc (.cells #[.slice a P.length c] 24)).alloc (.cells #[.slice none 0 0] 24)).heap[w.heap.size + 1]? = some (.cells #[.slice none 0 0] 24 (0, 0)) := by
    have := heap_alloc_new (w.alloc (.cells #[.slice a P.length c] 24)) (.cells #[.slice none 0 0] 24)
    rwa [World.size_alloc] at this
  have HX1 := Lib.hid hx1
  have HX2 := Lib.hid hx2
  have HPB := Lib.hid hb
  clear b2 hS hx1 hx2 hb
  go_enter Tryd.func37, Tryd.ntmps37
  go_upto_region 1 with fail
  obtain ⟨W2, hW2⟩ : ∃ W, ((w.alloc (.cells #[.slice a P.length c] 24)).alloc (.cells #[.slice none 0 0] 24)) = W := ⟨_, rfl⟩
  rw [hW2] at HB2 HS2 HX1 HX2 ⊢
  clear hW2
  have b8 := below_box0 W2 (.cells #[] 47)
  have HO8 : Hid ((W2.alloc (.cells #[] 47)).ownsRow W2.heap.size 47 3 (.slice (some ⟨W2.heap.size, 0, none⟩) 0 0) 0 []) := Lib.hid (World.ownsRow_lit W2 #[] 0 (Nat.le_refl _) (by decide) rfl)
  have HRD8 := Lib.hid (HS2.out.readsL.alloc (Nat.le_refl _) (.cells #[] 47))
  have HB8 := Lib.hid b8
  have k0 : W2.cell? ⟨w.heap.size, 0, none⟩ = some (.slice a P.length c) := by rw [cell_of_block HX1.out]; rfl
  have l0 := blk_lt HX1.out
  clear b8
  go_wp2_with (at_builtin
               refine wpList_append_any _ (by simp [Region.wanted, yielded]) (.tmp 6) (.tmp 8) 22 rfl W2.heap.size 47 i0 _ 3 32 Tryd.underlying22 hi0 hz0 hz1 hz2' rfl (by decide) (.slice (some ⟨W2.heap.size, 0, none⟩) 0 0) 0 [] rfl
                 HO8.out W2.heap.size a P.length c (alc P) rfl HRD8.out (alc_one P) (by unfold maxLen; omega) (by omega) HB8.out.size ?_
               intro v1 w9 hown1 hg1 _
               have HB9 := Lib.hid (HB8.out.grown hg1 HB8.out.size (by simp [Value.ownBlock]))
               have hown2 : w9.ownsRow W2.heap.size 47 3 v1 P.length (alc P) := by
                 have e1 : 0 + P.length = P.length := by omega
                 rw [e1, List.nil_append] at hown1
                 exact hown1
               obtain ⟨g, cap, hv1⟩ := ownsRow_form hown2 (by omega)
               subst hv1
               have HO9 := Lib.hid hown2
               clear hown1 hown2 hg1)
  clear k0 l0 HO8 HRD8 HB8
  obtain ⟨e0, e1, e2⟩ := alc_get P i hi
  have hok := HPB.out i hi
  obtain ⟨s, t, p, hx⟩ : ∃ s t p, P.getD i al0 = (s, t, p) := ⟨_, _, _, rfl⟩
  have HRG : Hid (rungL P i = if p = 0 ∨ 1000000000000 < t + p then P.eraseIdx i else P.set i (s, t + p, p)) := Lib.hid (by unfold rungL; rw [hx])
  have HAS := Lib.hid (alc_set P i (t + p) hi)
  rw [hx] at e0 e1 e2 hok HAS
  dsimp only at e0 e1 e2 HAS
  have t0 := hok.a0
  have t1 := hok.a1
  have p0 := hok.e0
  have p1 := hok.e1
  rw [MT_eq] at t1 p1
  dsimp only at t0 t1 p0 p1
  have c0 : w9.cell? ⟨g, i * 3, none⟩ = some (.string s) := (HO9.out.cellAt _ (by omega)).trans e0
  have c1 : w9.cell? ⟨g, i * 3 + 1, none⟩ = some (.int .i64 t) := (HO9.out.cellAt _ (by omega)).trans e1
  have c2 : w9.cell? ⟨g, i * 3 + 2, none⟩ = some (.int .i64 p) := (HO9.out.cellAt _ (by omega)).trans e2
  have f1 := HO9.out.frozenAt (i * 3 + 1)
  have hw1 : IntKind.i64.wrap (t + p) = t + p := IntWalk.i64_in _ (by omega)
  have hii : (i : Int) < (P.length : Int) := by omega
  have hi0' : (0 : Int) ≤ (i : Int) := by omega
  have hbl := World.block_lt_of_cell? _ _ c0
  dsimp only at hbl
  clear e0 e1 e2 hok
  go_wp2_with fail
  go_still_tail 15, (by kernel_rfl)
  change wpList _ _ _ _ _ w9.drew
  obtain ⟨w10, hw10⟩ : ∃ W, w9.drew = W := ⟨_, rfl⟩
  have HO10 : Hid (w10.ownsRow W2.heap.size 47 3 (.slice (some ⟨g, 0, none⟩) P.length cap) P.length (alc P)) := by rw [← hw10]; exact Lib.hid HO9.out
  have HB10 : Hid (Below W2.heap.size W2 w10) := by rw [← hw10]; exact Lib.hid HB9.out.drew
  rw [hw10]
  clear hw10 c0 c1 c2 f1 hw1 HO9 HB9
  have hgB := (HO10.out.lt g rfl).1
  have c1 : w10.cell? ⟨g, i * 3 + 1, none⟩ = some (.int .i64 t) := by
    have := (HO10.out.cellAt (i * 3 + 1) (by omega)).trans (alc_get P i hi).2.1
    rw [hx] at this; exact this
  have f1 := HO10.out.frozenAt (i * 3 + 1)
  have HO11 := Lib.hid ((HO10.out.stored (i * 3 + 1) (.int .i64 (t + p))).1)
  rw [HAS.out] at HO11
  have HB11 := Lib.hid (HB10.out.setCell (p := ⟨g, i * 3 + 1, none⟩) hgB (.int .i64 (t + p)))
  go_upto_region 3 with fail
  obtain ⟨V, hV⟩ : ∃ W, w10.setCell ⟨g, i * 3 + 1, none⟩ (.int .i64 (t + p)) = W := ⟨_, rfl⟩
  rw [hV] at HO11 HB11 ⊢
  clear hV c1 f1 HO10 HB10 hbl
  have hPl : (P.set i (s, t + p, p)).length = P.length := List.length_set
  obtain ⟨Q, hQ⟩ : ∃ Q, P.set i (s, t + p, p) = Q := ⟨_, rfl⟩
  rw [hQ] at HO11 hPl
  have hQi : Q.getD i al0 = (s, t + p, p) := by rw [← hQ]; simp [List.getD, hi]
  have HQ := Lib.hid hQ
  have HQL := Lib.hid hPl
  have cq : ∀ j, j < P.length → V.cell? ⟨g, j * 3, none⟩ = some (.string (Q.getD j al0).1) ∧ V.cell? ⟨g, j * 3 + 1, none⟩ = some (.int .i64 (Q.getD j al0).2.1) ∧ V.cell? ⟨g, j * 3 + 2, none⟩ = some (.int .i64 (Q.getD j al0).2.2) := by
    intro j hj
    obtain ⟨q0, q1, q2⟩ := alc_get Q j (by omega)
    exact ⟨(HO11.out.cellAt _ (by omega)).trans q0, (HO11.out.cellAt _ (by omega)).trans q1, (HO11.out.cellAt _ (by omega)).trans q2⟩
  have CQ := Lib.hid cq
  have c1 : V.cell? ⟨g, i * 3 + 1, none⟩ = some (.int .i64 (t + p)) := by rw [(cq i hi).2.1, hQi]
  have c2 : V.cell? ⟨g, i * 3 + 2, none⟩ = some (.int .i64 p) := by rw [(cq i hi).2.2, hQi]
  have HX3 := Lib.hid ((HB11.out.block _ (blk_lt HX2.out)).trans HX2.out)
  have k4 : V.cell? ⟨w.heap.size + 1, 0, none⟩ = some (.slice none 0 0) := by rw [cell_of_block HX3.out]; rfl
  have f4 := unfrozen_of_block HX3.out
  have l4 := blk_lt HX3.out
  have HBV := Lib.hid (below_tr HB2.out HB11.out)
  have hne4 : w.heap.size + 1 ≠ g := by have := blk_lt HX2.out; omega
  clear cq hQ hPl hQi HX1 HX2 HB11 HAS
  by_cases hend : p = 0 ∨ 1000000000000 < t + p
  · have hR : rungL P i = P.eraseIdx i := by rw [HRG.out, if_pos hend]
    have HR := Lib.hid hR
    clear HRG hR
    have dd : (p == 0) = true ∨ ((p == 0) = false ∧ decide (1000000000000 < t + p) = true) := by
      by_cases h : p = 0
      · exact .inl (by simpa using h)
      · exact .inr ⟨by simpa using h, by simp; omega⟩
    clear hend
    obtain ⟨hm, hcs⟩ : P.length ≤ cap ∧ cap ≤ maxLen := by
      rcases HO11.out.2 with ⟨h', _⟩ | ⟨g', cap', cur, h', _, _, hnc, hcm, _⟩
      · cases h'
      · cases h'; exact ⟨hnc, hcm⟩
    have hcm : cap ≤ 9223372036854775807 := by unfold maxLen at hcs; omega
    obtain ⟨NW, hNW⟩ : ∃ NW, alc (Q.drop (i + 1)) = NW := ⟨_, rfl⟩
    have hnl : NW.length = (P.length - (i + 1)) * 3 := by rw [← hNW, alc_length, List.length_drop, HQL.out]
    have hng : ∀ j, j < P.length - (i + 1) → NW[j * 3]? = some (.string (Q.getD (i + 1 + j) al0).1) ∧ NW[j * 3 + 1]? = some (.int .i64 (Q.getD (i + 1 + j) al0).2.1) ∧ NW[j * 3 + 2]? = some (.int .i64 (Q.getD (i + 1 + j) al0).2.2) := by
      intro j hj
      rw [← hNW, ← getD_drop]
      exact alc_get _ j (by rw [List.length_drop, HQL.out]; exact hj)
    have hcell : ∀ j u, NW[j]? = some u → V.drew.cell? ⟨g, (i + 1) * 3 + j, none⟩ = some u := by
      intro j u hu
      have hj : j < (P.length - (i + 1)) * 3 := by rw [← hnl]; exact (List.getElem?_eq_some_iff.1 hu).1
      have hq := CQ.out (i + 1 + j / 3) (by omega)
      have hn' := hng (j / 3) (by omega)
      rcases (show j % 3 = 0 ∨ j % 3 = 1 ∨ j % 3 = 2 by omega) with hm' | hm' | hm'
      · have ej : j = j / 3 * 3 := by omega
        rw [ej, hn'.1] at hu
        rw [show (i + 1) * 3 + j = (i + 1 + j / 3) * 3 by omega, ← hu]; exact hq.1
      · have ej : j = j / 3 * 3 + 1 := by omega
        rw [ej, hn'.2.1] at hu
        rw [show (i + 1) * 3 + j = (i + 1 + j / 3) * 3 + 1 by omega, ← hu]; exact hq.2.1
      · have ej : j = j / 3 * 3 + 2 := by omega
        rw [ej, hn'.2.2] at hu
        rw [show (i + 1) * 3 + j = (i + 1 + j / 3) * 3 + 2 by omega, ← hu]; exact hq.2.2
    obtain ⟨A, hA, hnews⟩ : ∃ A : Addr, (if cap = i + 1 then some (⟨g, 0, none⟩ : Addr) else some ⟨g, (i + 1) * 3, none⟩) = some A ∧ Hid (∀ j u, NW[j]? = some u → V.drew.cell? (A.add j) = some u) := by
      by_cases h : cap = i + 1
      · refine ⟨⟨g, 0, none⟩, by simp [h], Lib.hid fun j u hu => ?_⟩
        have h0 : NW.length = 0 := by rw [hnl]; omega
        rw [List.length_eq_zero_iff.1 h0] at hu
        simp at hu
      · refine ⟨⟨g, (i + 1) * 3, none⟩, by simp [h], Lib.hid fun j u hu => ?_⟩
        rw [Addr.add_lit]
        exact hcell j u hu
    have s1 := Lib.hid hnl
    have s2 : Hid (∀ u ∈ NW, u.oneCell' = true) := Lib.hid (by rw [← hNW]; exact alc_one _)
    have s3 : Hid (∀ j, j < NW.length → (V.drew.cell? ⟨g, 0 + i * 3 + j, none⟩).isSome = true ∧ V.drew.frozen? ⟨g, 0 + i * 3 + j, none⟩ = false) := Lib.hid (by
      intro j hj
      rw [hnl] at hj
      refine ⟨?_, HO11.out.frozenAt _⟩
      show (V.cell? _).isSome = true
      rw [HO11.out.cellAt (0 + i * 3 + j) (by omega), List.getElem?_eq_getElem (by rw [alc_length, HQL.out]; omega)]
      rfl)
    have HNG := Lib.hid hng
    have hic : i ≤ cap := by omega
    have hwr : IntKind.i64.wrap ((i : Int) + 1) = (i : Int) + 1 := IntWalk.i64_in _ (by omega)
    have hp0 : (0 : Int) ≤ (i : Int) + 1 := by omega
    have hp1 : (i : Int) + 1 ≤ (P.length : Int) := by omega
    have hp2 : ((i : Int) + 1).toNat = i + 1 := by omega
    clear hNW hnl hng hcell
    rcases dd with d1 | ⟨d1, d2⟩
    all_goals
      go_upto_region 4 with fail
      clear c1 c2
      go_wp2_with fail
      go_region_law (refine step_append_room rfl (.tmp 41) (.tmp 45) 22 rfl 47 i0 3 Tryd.underlying22 hi0 hz1 g 0 i cap (by simp [Act.eval, Act.put]) A (P.length - (i + 1)) (cap - (i + 1)) NW (by simp [Act.eval, Act.put]) s1.out hnews.out s2.out (by omega) s3.out ?_)
      obtain ⟨U, hU⟩ : ∃ U, V.drew.setCells g (i * 3) NW = U := ⟨_, rfl⟩
      have hbU : Below w.heap.size w U := by rw [← hU]; exact Go.below_setCells (by have := HB2.out.size; omega) _ _ _ HBV.out.drew
      have hex : (P.eraseIdx i).length = i + (P.length - (i + 1)) := by rw [List.length_eraseIdx_of_lt hi]; omega
      have hcU : ∀ j, j < i + (P.length - (i + 1)) → U.cell? ⟨g, j * 3, none⟩ = some (.string ((P.eraseIdx i).getD j al0).1) ∧ U.cell? ⟨g, j * 3 + 1, none⟩ = some (.int .i64 ((P.eraseIdx i).getD j al0).2.1) ∧ U.cell? ⟨g, j * 3 + 2, none⟩ = some (.int .i64 ((P.eraseIdx i).getD j al0).2.2) := by
        intro j hj
        rw [getD_erase, ← hU]
        by_cases hji : j < i
        · rw [if_pos hji, ← getD_set_ne (x := (s, t + p, p)) (show j ≠ i by omega), HQ.out]
          have out : ∀ m, m < i * 3 → (V.drew.setCells g (i * 3) NW).cell? ⟨g, m, none⟩ = V.cell? ⟨g, m, none⟩ := fun m hm => World.cell?_setCells_out g NW (i * 3) V.drew ⟨g, m, none⟩ (fun _ _ => .inl hm)
          rw [out _ (by omega), out _ (by omega), out _ (by omega)]
          exact CQ.out j (by omega)
        · rw [if_neg hji, ← getD_set_ne (x := (s, t + p, p)) (show j + 1 ≠ i by omega), HQ.out]
          have inn : ∀ m (hm : m < NW.length), (V.drew.setCells g (i * 3) NW).cell? ⟨g, i * 3 + m, none⟩ = some NW[m] := fun m hm => World.cell?_setCells_in g NW (i * 3) V.drew (fun q hq => by have := (s3.out q hq).1; rwa [Nat.zero_add] at this) m hm
          have hl := s1.out
          obtain ⟨n0, n1, n2⟩ := HNG.out (j - i) (by omega)
          rw [show i + 1 + (j - i) = j + 1 by omega] at n0 n1 n2
          have g0 : ∀ m v, NW[m]? = some v → (V.drew.setCells g (i * 3) NW).cell? ⟨g, i * 3 + m, none⟩ = some v := fun m v hv => by
            obtain ⟨hm, hv'⟩ := List.getElem?_eq_some_iff.1 hv
            rw [inn m hm, hv']
          refine ⟨?_, ?_, ?_⟩
          · have := g0 _ _ n0
            rwa [show i * 3 + (j - i) * 3 = j * 3 by omega] at this
          · have := g0 _ _ n1
            rwa [show i * 3 + ((j - i) * 3 + 1) = j * 3 + 1 by omega] at this
          · have := g0 _ _ n2
            rwa [show i * 3 + ((j - i) * 3 + 2) = j * 3 + 2 by omega] at this
      have k5 : U.cell? ⟨w.heap.size + 1, 0, none⟩ = some (.slice none 0 0) := by
        rw [← hU]
        exact (World.cell?_setCells_out g NW (i * 3) V.drew ⟨w.heap.size + 1, 0, none⟩ (fun e _ => absurd e hne4)).trans k4
      have f5 : ∀ q, U.frozen? ⟨w.heap.size + 1, q, none⟩ = false := fun q => by
        rw [← hU]
        exact (World.frozen?_setCells g NW (i * 3) V.drew ⟨w.heap.size + 1, q, none⟩).trans (f4 q)
      have HCU := Lib.hid hcU
      have HBU := Lib.hid hbU
      have HEX := Lib.hid hex
      rw [hU]
      clear hU hcU hbU hex k4 f4
      (try simp only [Exit.inBlock, Exit.then])
      go_wp2
      refine bodyPost_ret (v := pV (some ⟨g, 0, none⟩) (i + (P.length - (i + 1))) cap) (by simp [results, Tryd.results37, go_sem, k5, f5]) rfl ⟨g, cap, by rw [HR.out, HEX.out], by have := HB2.out.size; omega, ?_, HBU.out.setCell (p := ⟨w.heap.size + 1, 0, none⟩) (by dsimp only; omega) _⟩
      rw [HR.out, HEX.out]
      refine .inr ⟨g, 0, rfl, fun j hj => ?_⟩
      have key : ∀ m, (U.setCell ⟨w.heap.size + 1, 0, none⟩ (.slice (some ⟨g, 0, none⟩) (i + (P.length - (i + 1))) cap)).cell? ⟨g, m, none⟩ = U.cell? ⟨g, m, none⟩ := fun m => World.cell?_setCell_other _ _ _ _ (fun e => hne4 (by injection e))
      rw [Nat.zero_add, key, key, key]
      exact HCU.out j hj
  · have hR : rungL P i = Q := by rw [HRG.out, if_neg hend, HQ.out]
    have d1 : (p == 0) = false := by simp; omega
    have d2 : decide (1000000000000 < t + p) = false := by simp; omega
    have HR := Lib.hid hR
    clear HRG hend hR
    go_wp2
    refine bodyPost_ret (v := pV (some ⟨g, 0, none⟩) P.length cap) (by simp [results, Tryd.results37, go_sem, k4, f4]) rfl ⟨g, cap, by rw [HR.out, HQL.out], by have := HB2.out.size; omega, ?_, HBV.out.setCell (p := ⟨w.heap.size + 1, 0, none⟩) (by dsimp only; omega) _⟩
    rw [HR.out, HQL.out]
    refine .inr ⟨g, 0, rfl, fun j hj => ?_⟩
    have key : ∀ m, (V.setCell ⟨w.heap.size + 1, 0, none⟩ (.slice (some ⟨g, 0, none⟩) P.length cap)).cell? ⟨g, m, none⟩ = V.cell? ⟨g, m, none⟩ := fun m => World.cell?_setCell_other _ _ _ _ (fun e => hne4 (by injection e))
    rw [Nat.zero_add, key, key, key]
    exact CQ.out j hj
end
end Go.Proofs.YtjceahbikdncmaaDoor
